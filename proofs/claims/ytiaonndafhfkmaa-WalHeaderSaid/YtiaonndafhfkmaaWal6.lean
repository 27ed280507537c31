/- The package wal: a new log; beginning a step; committing what there is. -/
import Derived.Test.YtiaonndafhfkmaaWal5
set_option linter.all false
set_option maxRecDepth 100000
set_option maxHeartbeats 400000
namespace Go.Proofs.Ytiaonndafhfkmaa
open Go.Am
variable {σ σ' st st' : Store} {l d c hm m : Nat} {ov wv : Value} {w : WS} {s s' s0 : DS} {F F' G G' : List Nat} {Q : Value → Store → Prop} {g : Geo}
def WS.new (g : Geo) (mine : Int) : WS := ⟨g, mine, false, 0, [], [], 0, 0⟩
theorem wnew_ (hd : Disk σ d s G) (hC : s.C m) (hm0 : m + 1 < 2 ^ 29) (hg : g.ok) (hb : g.blocks ≤ s.n) (hB : BytesOk (s.at 1))
    (hq0 : s.dead = true → ∀ σ', Disk σ' d s G → Upd G σ σ' G → Q (.tuple #[.pointer none, .int .i64 3]) σ')
    (hq1 : s.dead = false → ¬ (DecOk g (s.at 1) ∧ decL (s.at 1) = []) → ∀ σ', Disk σ' d s.readed G → Upd G σ σ' G → Q (.tuple #[.pointer none, .int .i64 4]) σ')
    (hq2 : s.dead = false → DecOk g (s.at 1) → decL (s.at 1) = [] → ∀ σ' l F, Log σ' l d (WS.new g (s.claims + 1)) s.readed.claimed F → Disk σ' d s.readed.claimed G → Apart F G → Upd G σ σ' (F ++ G) → Q (.tuple #[.pointer (some ⟨l, 0, none⟩), .int .i64 0]) σ') :
    Does Try.prog 25 [.pointer (some ⟨d, 0, none⟩), .agg ⟨ic g.lay⟩] σ Q := by
  refine d25 ?_
  have l9 : (ic g.lay).length = 9 := rfl
  have z1 : unrle [(1, Value.slice none 0 0)] = [.slice none 0 0] := rfl
  have e1 : rdOne (some (.cells (ic g.lay) none)) 1 = some (.int .i64 g.log) := rfl
  have hlt := hd.lt
  have hcl0 := hC.ok.claims0
  obtain ⟨g1, g2, g3, g4, g5, g6, g7⟩ := id hg
  have k1 : Keeps σ (σ.push (.cells (ic g.lay) none)) := (Keeps.refl σ).push _
  have c1 : (σ.push (.cells (ic g.lay) none)).get σ.next = some (.cells (ic g.lay) none) := Store.get_push_same _ _
  have n1 : (σ.push (.cells (ic g.lay) none)).next = σ.next + 1 := Store.next_push _ _
  simp -implicitDefEqProofs (maxSteps := 2000000) (disch := first|assumption|omega|rfl|(simp only[RD];done)|(simp only[RD];omega)) only [RN,Int.reduceBEq,Int.reduceBNe,Int.reduceLT,Int.reduceLE,Int.reduceAdd,Int.reduceSub,Int.reduceMul,Nat.reduceAdd,↓bc_flatz,↓bc_flat16,↓agg_bytez, p25, l9]
  generalize σ.push (.cells (ic g.lay) none) = σ1 at k1 c1 n1 ⊢
  have hd1 := hd.later k1
  -- the local that holds the header
  have loc : ∀ {σ2 : Store} (v : Value), σ1.next ≤ σ2.next → Keeps σ2 (σ2.push (.cells [v] none)) := fun v _ => (Keeps.refl _).push _
  refine header_ hd1 hC (by omega) hg hb hB (fun h σ2 d2 u2 => ?_) (fun h hno σ2 d2 u2 => ?_) (fun h hyes σ2 v d2 u2 sv iv => ?_)
  · simp -implicitDefEqProofs (maxSteps := 2000000) (disch := first|assumption|omega|rfl|(simp only[RD];done)|(simp only[RD];omega)) only [RN,Int.reduceBEq,Int.reduceBNe,Int.reduceLT,Int.reduceLE,Int.reduceAdd,Int.reduceSub,Int.reduceMul,Nat.reduceAdd,↓bc_flatz,↓bc_flat16,↓agg_bytez, z1]
    exact hq0 h _ (d2.later (loc _ u2.next)) (upd_then (Upd.keeps k1 u2 hlt) (loc _ u2.next))
  · simp -implicitDefEqProofs (maxSteps := 2000000) (disch := first|assumption|omega|rfl|(simp only[RD];done)|(simp only[RD];omega)) only [RN,Int.reduceBEq,Int.reduceBNe,Int.reduceLT,Int.reduceLE,Int.reduceAdd,Int.reduceSub,Int.reduceMul,Nat.reduceAdd,↓bc_flatz,↓bc_flat16,↓agg_bytez, z1]
    exact hq1 h (fun h => hno h.1) _ (d2.later (loc _ u2.next)) (upd_then (Upd.keeps k1 u2 hlt) (loc _ u2.next))
  · obtain ⟨va, vb, vc, rfl⟩ : ∃ a b c, v = .slice a b c := by
      rcases sv.2 with ⟨_, e⟩ | ⟨i, e, _⟩
      · exact ⟨_, _, _, e⟩
      · exact ⟨_, _, _, e⟩
    have k3 : Keeps σ2 (σ2.push (.cells [.slice va vb vc] none)) := (Keeps.refl _).push _
    have hln := sv.len
    have U3 := upd_then (Upd.keeps k1 u2 hlt) k3
    by_cases hl : decL (s.at 1) = []
    · rw [hl] at hln
      have c2 : σ2.get σ.next = some (.cells (ic g.lay) none) := by rw [u2.same _ (by omega) (fun h => by have := hlt _ h; omega), c1]
      have c3 : (σ2.push (.cells [.slice va vb vc] none)).get σ.next = some (.cells (ic g.lay) none) := k3.get c2
      have d3 := d2.later k3
      have f0 : decide ((0 : Int) < (([] : List Int).length : Nat)) = false := rfl
      simp -implicitDefEqProofs (maxSteps := 2000000) (disch := first|assumption|omega|rfl|(simp only[RD];done)|(simp only[RD];omega)) only [RN,Int.reduceBEq,Int.reduceBNe,Int.reduceLT,Int.reduceLE,Int.reduceAdd,Int.reduceSub,Int.reduceMul,Nat.reduceAdd,↓bc_flatz,↓bc_flat16,↓agg_bytez, z1, hln, f0]
      generalize σ2.push (.cells [.slice va vb vc] none) = σ3 at k3 c3 d3 U3 ⊢
      simp -implicitDefEqProofs (maxSteps := 2000000) (disch := first|assumption|omega|rfl|(simp only[RD];done)|(simp only[RD];omega)) only [RN,Int.reduceBEq,Int.reduceBNe,Int.reduceLT,Int.reduceLE,Int.reduceAdd,Int.reduceSub,Int.reduceMul,Nat.reduceAdd,↓bc_flatz,↓bc_flat16,↓agg_bytez, c3, e1]
      have hC1 : s.readed.C (m + 1) := readed_C hC
      refine cnew_ d3 hC1 (by omega) (by omega) fun σ4 c F4 c4 u4 i4 => ?_
      have k4 : ∀ j, j < σ3.next → σ4.get j = σ3.get j := fun j hj => u4.same j hj List.not_mem_nil
      have d4 : Disk σ4 d s.readed G := d3.same fun j hj => k4 j (d3.lt j hj)
      have c5 : σ4.get σ.next = some (.cells (ic g.lay) none) := by rw [k4 _ (Store.lt_of_get c3), c3]
      simp -implicitDefEqProofs (maxSteps := 2000000) (disch := first|assumption|omega|rfl|(simp only[RD];done)|(simp only[RD];omega)) only [RN,Int.reduceBEq,Int.reduceBNe,Int.reduceLT,Int.reduceLE,Int.reduceAdd,Int.reduceSub,Int.reduceMul,Nat.reduceAdd,↓bc_flatz,↓bc_flat16,↓agg_bytez]
      refine claim_o d4 hC1 (by omega) h fun σ5 d5 u5 => ?_
      have c6 : σ5.get σ.next = some (.cells (ic g.lay) none) := by rw [u5.same _ (Store.lt_of_get c5) (fun h => by have := hlt _ h; omega), c5]
      have u1 : unrle [(1, Value.slice none 0 0), (1, .map none)] = [.slice none 0 0, .map none] := rfl
      have z9 : unrle [(9, Value.int .i64 0)] = [.int .i64 0, .int .i64 0, .int .i64 0, .int .i64 0, .int .i64 0, .int .i64 0, .int .i64 0, .int .i64 0, .int .i64 0] := rfl
      simp -implicitDefEqProofs (maxSteps := 2000000) (disch := first|assumption|omega|rfl|(simp only[RD];done)|(simp only[RD];omega)) only [RN,Int.reduceBEq,Int.reduceBNe,Int.reduceLT,Int.reduceLE,Int.reduceAdd,Int.reduceSub,Int.reduceMul,Nat.reduceAdd,↓bc_flatz,↓bc_flat16,↓agg_bytez, c5, c6, l9, u1, z9, z1]
      have k6 : Keeps σ5 ((σ5.push (.map [] 0)).push (.cells (Value.slice none 0 0 :: .map (some σ5.next) :: .pointer (some ⟨d, 0, none⟩) :: .pointer (some ⟨c, 0, none⟩) :: (ic g.lay ++ [.int .i64 (s.readed.claims + 1), .bool false, .int .i64 0, .map none, .int .i64 0, .int .i64 0])) none)) := ((Keeps.refl _).push _).push _
      have m6 : ((σ5.push (.map [] 0)).push (.cells (Value.slice none 0 0 :: .map (some σ5.next) :: .pointer (some ⟨d, 0, none⟩) :: .pointer (some ⟨c, 0, none⟩) :: (ic g.lay ++ [.int .i64 (s.readed.claims + 1), .bool false, .int .i64 0, .map none, .int .i64 0, .int .i64 0])) none)).get σ5.next = some (.map [] 0) := by
        rw [get_push_ne (by rw [Store.next_push]; omega), Store.get_push_same]
      have l6 : ((σ5.push (.map [] 0)).push (.cells (Value.slice none 0 0 :: .map (some σ5.next) :: .pointer (some ⟨d, 0, none⟩) :: .pointer (some ⟨c, 0, none⟩) :: (ic g.lay ++ [.int .i64 (s.readed.claims + 1), .bool false, .int .i64 0, .map none, .int .i64 0, .int .i64 0])) none)).get (σ5.next + 1) = some (.cells ((WS.new g (s.claims + 1)).cells d c σ5.next (.slice none 0 0) (.map none)) none) := by
        rw [get_push_eq (by rw [Store.next_push])]; rfl
      have n6 : ((σ5.push (.map [] 0)).push (.cells (Value.slice none 0 0 :: .map (some σ5.next) :: .pointer (some ⟨d, 0, none⟩) :: .pointer (some ⟨c, 0, none⟩) :: (ic g.lay ++ [.int .i64 (s.readed.claims + 1), .bool false, .int .i64 0, .map none, .int .i64 0, .int .i64 0])) none)).next = σ5.next + 2 := by rw [Store.next_push, Store.next_push]
      generalize (σ5.push (.map [] 0)).push (.cells (Value.slice none 0 0 :: .map (some σ5.next) :: .pointer (some ⟨d, 0, none⟩) :: .pointer (some ⟨c, 0, none⟩) :: (ic g.lay ++ [.int .i64 (s.readed.claims + 1), .bool false, .int .i64 0, .map none, .int .i64 0, .int .i64 0])) none) = σ6 at k6 m6 l6 n6 ⊢
      have hF4G : ∀ j ∈ F4, j ∉ G := fun j hj hg => by have := i4 j hj; have := d3.lt j hg; omega
      have n45 := u5.next
      have c4' : Cache σ6 c d (g.log + 32) 0 (fun _ => none) F4 := (c4.same fun j hj => u5.same j (c4.lt j hj) (hF4G j hj)).same fun j hj => k6.2 j (by have := c4.lt j hj; omega)
      have d6 : Disk σ6 d s.readed.claimed G := d5.later k6
      have hdis : Dis (σ5.next + 1) σ5.next (idsV (.slice none 0 0)) (idsM (.map none)) F4 := by
        refine ⟨by omega, by simp [idsV], by simp [idsM], fun hx => ?_, by simp [idsV], by simp [idsM], fun hx => ?_, fun j hj => by simp [idsV] at hj, fun j hj => by simp [idsV] at hj, fun j hj => by simp [idsM] at hj⟩
        · have := c4.lt _ hx; omega
        · have := c4.lt _ hx; omega
      have L6 : LAt σ6 (σ5.next + 1) d (WS.new g (s.claims + 1)) c σ5.next (.slice none 0 0) (.map none) ((WS.new g (s.claims + 1)).grp.length : Nat) (fun _ => none) F4 :=
        ⟨l6, (MapC.new m6).ext (fun x => by simp [setF, ordL, WS.new]) rfl, SlG.nil, (fun e => by cases e), (fun j hj => by simp [idsM] at hj), c4', hdis⟩
      have hwok : WOk (WS.new g (s.claims + 1)) := by
        refine ⟨hg, List.nodup_nil, fun p hp => absurd hp List.not_mem_nil, fun p hp => absurd hp List.not_mem_nil, ?_, ?_, (fun e => by cases e), ?_, ?_⟩
        · show ((0 : Nat) : Int) ≤ g.log - 1; omega
        · show (0 : Int) ≤ 0 ∧ 0 ≤ g.log - 1; omega
        · show 0 < s.claims + 1; omega
        · exact ⟨Int.le_refl _, Int.le_refl _⟩
      have n34 := u4.next
      have n3 := U3.next
      have n03 : σ.next < σ3.next := Store.lt_of_get c3
      have hsub : ∀ j ∈ lids (σ5.next + 1) σ5.next (.slice none 0 0) (.map none) F4, σ3.next ≤ j := fun j hj => by
        simp only [lids, idsV, idsM, List.mem_cons, List.mem_append, List.not_mem_nil, false_or] at hj
        rcases hj with h | h | h
        · omega
        · omega
        · exact i4 j h
      refine hq2 h hyes hl σ6 _ _ ⟨_, _, _, _, _, _, L6, ⟨fun x b => by simp [WS.new], (fun x b hx => by cases hx), (fun x e hx => by cases hx)⟩, hwok, hb, rfl⟩ d6 (fun j hj hg => ?_) ⟨by omega, fun j hj => ?_, fun j hj hn => ?_⟩
      · have := hsub j hj; have := hlt j hg; omega
      · rcases List.mem_append.1 hj with hj | hj
        · exact ⟨L6.lt j hj, by right; have := hsub j hj; omega⟩
        · exact ⟨d6.lt j hj, .inl hj⟩
      · have hng : j ∉ G := hn
        rw [k6.2 j (by omega), u5.same j (by omega) hng, k4 j (by omega), U3.same j hj hng]
    · have f0 : decide ((0 : Int) < ((decL (s.at 1)).length : Nat)) = true := by
        rw [decide_eq_true]
        have : (decL (s.at 1)).length ≠ 0 := fun e => hl (List.eq_nil_of_length_eq_zero e)
        omega
      simp -implicitDefEqProofs (maxSteps := 2000000) (disch := first|assumption|omega|rfl|(simp only[RD];done)|(simp only[RD];omega)) only [RN,Int.reduceBEq,Int.reduceBNe,Int.reduceLT,Int.reduceLE,Int.reduceAdd,Int.reduceSub,Int.reduceMul,Nat.reduceAdd,↓bc_flatz,↓bc_flat16,↓agg_bytez, z1, hln, f0]
      exact hq1 h (fun h => hl h.2) _ (d2.later k3) U3
def WS.begin (w : WS) (r : Int) : WS := { w with opn := true, room := r, wrote := [] }
def WS.done (w : WS) : WS := { w with grp := [], commits := w.commits + 1 }
/-- A step is opened. -/
theorem lopen (h : Log st l d w s F) (hd : Disk st d s G) (hA : Apart F G) (ho : w.opn = false) {r : Int} (h1 : 1 ≤ r) (h2 : (w.grp.length : Int) + r ≤ w.g.log - 1) :
    ∃ c hm ov wv, st.get l = some (.cells (w.cells d c hm ov wv) none) ∧ ∃ F', Log ((st.push (.map [] 0)).put l (some (.cells ((w.begin r).cells d c hm ov (.map (some st.next))) none))) l d (w.begin r) s F' ∧ Disk ((st.push (.map [] 0)).put l (some (.cells ((w.begin r).cells d c hm ov (.map (some st.next))) none))) d s G ∧ Apart F' G ∧ Upd (F ++ G) st ((st.push (.map [] 0)).put l (some (.cells ((w.begin r).cells d c hm ov (.map (some st.next))) none))) (F' ++ G) := by
  have hFl := h.lt
  obtain ⟨c, hm, ov, wv, v, FC, L, hv, h3, h4, rfl⟩ := h
  refine ⟨c, hm, ov, wv, L.cells, lids l hm ov (.map (some st.next)) FC, ?_⟩
  have hl : l < st.next := Store.lt_of_get L.cells
  have hk : ∀ j, j < st.next → j ≠ l → ((st.push (.map [] 0)).put l (some (.cells ((w.begin r).cells d c hm ov (.map (some st.next))) none))).get j = st.get j := fun j hj hne => by
    rw [get_put_ne' hne, get_push_ne hj]
  have hn : ((st.push (.map [] 0)).put l (some (.cells ((w.begin r).cells d c hm ov (.map (some st.next))) none))).next = st.next + 1 := by rw [next_max, Store.next_push]; omega
  have hmp : ((st.push (.map [] 0)).put l (some (.cells ((w.begin r).cells d c hm ov (.map (some st.next))) none))).get st.next = some (.map [] 0) := by rw [get_put_ne' (by omega), Store.get_push_same]
  have hcl : ((st.push (.map [] 0)).put l (some (.cells ((w.begin r).cells d c hm ov (.map (some st.next))) none))).get l = some (.cells ((w.begin r).cells d c hm ov (.map (some st.next))) none) := Store.get_put_same _ _ _
  generalize (st.push (.map [] 0)).put l (some (.cells ((w.begin r).cells d c hm ov (.map (some st.next))) none)) = sf at hk hn hmp hcl ⊢
  have hdis : Dis l hm (idsV ov) (idsM (.map (some st.next))) FC := by
    refine ⟨L.dis.lh, L.dis.lA, by simp [idsM]; omega, L.dis.lC, L.dis.hA, ?_, L.dis.hC, fun j hj hx => ?_, L.dis.AC, fun j hj hx => ?_⟩
    · have := L.has.lt; simp [idsM]; omega
    · have : j = st.next := by simpa [idsM] using hx
      have := L.ord.lt j hj; omega
    · have : j = st.next := by simpa [idsM] using hj
      have := L.cache.lt j hx; omega
  have Lf : LAt sf l d (w.begin r) c hm ov (.map (some st.next)) (w.grp.length : Nat) v FC := by
    refine ⟨hcl, L.has.same (hk hm L.has.lt L.dis.lh.symm), L.ord.same fun j hj => hk j (L.ord.lt j hj) fun e => L.dis.lA (e ▸ hj), fun _ => ⟨st.next, rfl, (MapC.new hmp).ext (fun x => by simp [setF, WS.begin]) rfl⟩, fun j hj => ?_, L.cache.same fun j hj => hk j (L.cache.lt j hj) fun e => L.dis.lC (e ▸ hj), hdis⟩
    have : j = st.next := by simpa [idsM] using hj
    omega
  have hwok : WOk (w.begin r) := ⟨h3.g, h3.nodup, h3.len, h3.dom, h3.many, by show 0 ≤ r ∧ r ≤ w.g.log - 1; omega, fun _ => ⟨by show ((0 : Nat) : Int) ≤ r; omega, List.nodup_nil, fun x hx => absurd hx List.not_mem_nil, by show (w.grp.length : Int) + r ≤ w.g.log - 1 + ((0 : Nat) : Int); omega⟩, h3.mine, h3.cnt⟩
  refine ⟨⟨_, _, _, _, _, _, Lf, hv, hwok, h4, rfl⟩, hd.same fun j hj => hk j (hd.lt j hj) fun e => hA l (by simp [lids]) (e ▸ hj), fun j hj hg => ?_, by omega, fun j hj => ?_, fun j hj hnj => ?_⟩
  · simp only [lids, idsM, List.mem_cons, List.mem_append, List.not_mem_nil, or_false] at hj
    rcases hj with h | h | h | h | h
    · exact hA j (by simp [lids, h]) hg
    · exact hA j (by simp [lids, h]) hg
    · exact hA j (by simp [lids, h]) hg
    · have := hd.lt j hg; omega
    · exact hA j (by simp [lids, h]) hg
  · rcases List.mem_append.1 hj with hj | hj
    · refine ⟨Lf.lt j hj, ?_⟩
      simp only [lids, idsM, List.mem_cons, List.mem_append, List.not_mem_nil, or_false] at hj
      rcases hj with h | h | h | h | h
      · exact .inl (by simp [lids, h])
      · exact .inl (by simp [lids, h])
      · exact .inl (by simp [lids, h])
      · right; omega
      · exact .inl (by simp [lids, h])
    · exact ⟨by have := hd.lt j hj; omega, .inl (List.mem_append_right _ hj)⟩
  · exact hk j hj fun e => hnj (List.mem_append_left _ (by simp [lids, e]))
theorem begin_ (h : Log σ l d w s F) (hd : Disk σ d s G) (hA : Apart F G) (hC : s.C m) (hm0 : m + 1000 < 2 ^ 29) (hmn : s.mine w.mine = true) (hcm : w.commits < 2 ^ 62) {r : Int} (hr : -2 ^ 62 < r ∧ r < 2 ^ 62)
    (hqe : ∀ e, (w.opn = true ∧ e = 180) ∨ (w.opn = false ∧ (r < 1 ∨ w.g.log - 1 < r) ∧ e = 2) → Q (.int .i64 e) σ)
    (hq1 : w.opn = false → 1 ≤ r → r ≤ w.g.log - 1 → (w.grp.length : Int) + r ≤ w.g.log - 1 → ∀ σ' F', Log σ' l d (w.begin r) s F' → Disk σ' d s G → Apart F' G → Upd (F ++ G) σ σ' (F' ++ G) → Q (.int .i64 0) σ')
    (hq2 : w.opn = false → 1 ≤ r → r ≤ w.g.log - 1 → w.g.log - 1 < (w.grp.length : Int) + r → (s.run (commitOps w.grp)).1 = 0 → ∀ σ' F' G', Log σ' l d (w.done.begin r) (s.run (commitOps w.grp)).2 F' → Disk σ' d (s.run (commitOps w.grp)).2 G' → Apart F' G' → Upd (F ++ G) σ σ' (F' ++ G') → Q (.int .i64 0) σ')
    (hq3 : w.opn = false → 1 ≤ r → r ≤ w.g.log - 1 → w.g.log - 1 < (w.grp.length : Int) + r → (s.run (commitOps w.grp)).1 = 3 → ∀ σ' F' G', LogX σ' l d w.mine F' → Disk σ' d (s.run (commitOps w.grp)).2 G' → Apart F' G' → Upd (F ++ G) σ σ' (F' ++ G') → Q (.int .i64 3) σ') :
    Does Try.prog 8 [.pointer (some ⟨l, 0, none⟩), .int .i64 r] σ Q := by
  refine d8 ?_
  have hW := h.ok
  have hmany := hW.many
  obtain ⟨g1, g2, g3, g4, g5, g6, g7⟩ := id hW.g
  simp -implicitDefEqProofs (maxSteps := 2000000) (disch := first|assumption|omega|rfl|(simp only[RD];done)|(simp only[RD];omega)) only [RN,Int.reduceBEq,Int.reduceBNe,Int.reduceLT,Int.reduceLE,Int.reduceAdd,Int.reduceSub,Int.reduceMul,Nat.reduceAdd,↓bc_flatz,↓bc_flat16,↓agg_bytez, p8]
  refine lcheck_ h.x hd hC ?_
  rw [hmn]
  obtain ⟨c, hm, ov, wv, hI⟩ := h.i
  have hcl := hI.cells
  have hov := hI.ord.len
  rw [ordL_len] at hov
  cases ho : w.opn
  case true =>
    simp -implicitDefEqProofs (maxSteps := 2000000) (disch := first|assumption|omega|rfl|(simp only[RD];done)|(simp only[RD];omega)) only [RN,Int.reduceBEq,Int.reduceBNe,Int.reduceLT,Int.reduceLE,Int.reduceAdd,Int.reduceSub,Int.reduceMul,Nat.reduceAdd,↓bc_flatz,↓bc_flat16,↓agg_bytez, if_true, hcl, WS.cells, ho]
    exact hqe 180 (.inl ⟨ho, rfl⟩)
  case false =>
    by_cases hr1 : r < 1
    · simp -implicitDefEqProofs (maxSteps := 2000000) (disch := first|assumption|omega|rfl|(simp only[RD];done)|(simp only[RD];omega)) only [RN,Int.reduceBEq,Int.reduceBNe,Int.reduceLT,Int.reduceLE,Int.reduceAdd,Int.reduceSub,Int.reduceMul,Nat.reduceAdd,↓bc_flatz,↓bc_flat16,↓agg_bytez, if_true, hcl, WS.cells, ho, p8_3, decide_eq_true hr1]
      exact hqe 2 (.inr ⟨ho, .inl hr1, rfl⟩)
    by_cases hr2 : w.g.log - 1 < r
    · simp -implicitDefEqProofs (maxSteps := 2000000) (disch := first|assumption|omega|rfl|(simp only[RD];done)|(simp only[RD];omega)) only [RN,Int.reduceBEq,Int.reduceBNe,Int.reduceLT,Int.reduceLE,Int.reduceAdd,Int.reduceSub,Int.reduceMul,Nat.reduceAdd,↓bc_flatz,↓bc_flat16,↓agg_bytez, if_true, hcl, WS.cells, ho, p8_3, decide_eq_false hr1, decide_eq_true hr2]
      exact hqe 2 (.inr ⟨ho, .inr hr2, rfl⟩)
    by_cases hr3 : w.g.log - 1 < (w.grp.length : Int) + r
    · simp -implicitDefEqProofs (maxSteps := 2000000) (disch := first|assumption|omega|rfl|(simp only[RD];done)|(simp only[RD];omega)) only [RN,Int.reduceBEq,Int.reduceBNe,Int.reduceLT,Int.reduceLE,Int.reduceAdd,Int.reduceSub,Int.reduceMul,Nat.reduceAdd,↓bc_flatz,↓bc_flat16,↓agg_bytez, if_true, hcl, WS.cells, ho, p8_3, decide_eq_false hr1, decide_eq_false hr2, p8_2, p8_1, hov, decide_eq_true hr3]
      refine commit_ h hd hA hC hm0 hmn ho hcm (fun hz σ1 F1 G1 l1 d1 a1 u1 => ?_) (fun hz σ1 F1 G1 l1 d1 a1 u1 => ?_)
      · obtain ⟨c', hm', ov', wv', hc', F2, l2, d2, a2, u2⟩ := lopen (w := { w with grp := [], commits := w.commits + 1 }) l1 d1 a1 ho (r := r) (by omega) (by show ((0 : Nat) : Int) + r ≤ w.g.log - 1; omega)
        have hll : l < σ1.next := Store.lt_of_get hc'
        simp only [WS.cells, WS.begin] at hc' l2 d2 u2
        simp -implicitDefEqProofs (maxSteps := 2000000) (disch := first|assumption|omega|rfl|(simp only[RD];done)|(simp only[RD];omega)) only [RN,Int.reduceBEq,Int.reduceBNe,Int.reduceLT,Int.reduceLE,Int.reduceAdd,Int.reduceSub,Int.reduceMul,Nat.reduceAdd,↓bc_flatz,↓bc_flat16,↓agg_bytez, hc', WS.cells]
        rw [← push_put_lt hll]
        exact hq2 ho (by omega) (by omega) hr3 hz _ F2 G1 l2 d2 a2 (u1.trans u2)
      · simp -implicitDefEqProofs (maxSteps := 2000000) (disch := first|assumption|omega|rfl|(simp only[RD];done)|(simp only[RD];omega)) only [RN,Int.reduceBEq,Int.reduceBNe,Int.reduceLT,Int.reduceLE,Int.reduceAdd,Int.reduceSub,Int.reduceMul,Nat.reduceAdd,↓bc_flatz,↓bc_flat16,↓agg_bytez]
        exact hq3 ho (by omega) (by omega) hr3 hz σ1 F1 G1 l1 d1 a1 u1
    · obtain ⟨c', hm', ov', wv', hc', F2, l2, d2, a2, u2⟩ := lopen h hd hA ho (r := r) (by omega) (by omega)
      rw [hcl] at hc'
      have hll : l < σ.next := Store.lt_of_get hcl
      simp only [Option.some.injEq, Go.Am.SObj.cells.injEq, WS.cells, List.cons.injEq, and_true, true_and, Value.map.injEq, Value.pointer.injEq, Addr.mk.injEq] at hc'
      obtain ⟨rfl, rfl, rfl, rfl⟩ := hc'
      simp only [WS.cells, WS.begin] at l2 d2 u2
      simp -implicitDefEqProofs (maxSteps := 2000000) (disch := first|assumption|omega|rfl|(simp only[RD];done)|(simp only[RD];omega)) only [RN,Int.reduceBEq,Int.reduceBNe,Int.reduceLT,Int.reduceLE,Int.reduceAdd,Int.reduceSub,Int.reduceMul,Nat.reduceAdd,↓bc_flatz,↓bc_flat16,↓agg_bytez, if_true, hcl, WS.cells, ho, p8_3, decide_eq_false hr1, decide_eq_false hr2, p8_2, p8_1, hov, decide_eq_false hr3]
      rw [← push_put_lt hll]
      exact hq1 ho (by omega) (by omega) (by omega) _ F2 l2 d2 a2 u2
theorem sync_ (h : Log σ l d w s F) (hd : Disk σ d s G) (hA : Apart F G) (hC : s.C m) (hm0 : m + 1000 < 2 ^ 29) (hmn : s.mine w.mine = true) (hcm : w.commits < 2 ^ 62)
    (hqe : w.opn = true → Q (.int .i64 180) σ)
    (hq1 : w.opn = false → w.grp = [] → Q (.int .i64 0) σ)
    (hq2 : w.opn = false → w.grp ≠ [] → (s.run (commitOps w.grp)).1 = 0 → ∀ σ' F' G', Log σ' l d w.done (s.run (commitOps w.grp)).2 F' → Disk σ' d (s.run (commitOps w.grp)).2 G' → Apart F' G' → Upd (F ++ G) σ σ' (F' ++ G') → Q (.int .i64 0) σ')
    (hq3 : w.opn = false → w.grp ≠ [] → (s.run (commitOps w.grp)).1 = 3 → ∀ σ' F' G', LogX σ' l d w.mine F' → Disk σ' d (s.run (commitOps w.grp)).2 G' → Apart F' G' → Upd (F ++ G) σ σ' (F' ++ G') → Q (.int .i64 3) σ') :
    Does Try.prog 15 [.pointer (some ⟨l, 0, none⟩)] σ Q := by
  refine d15 ?_
  have hW := h.ok
  have hmany := hW.many
  simp -implicitDefEqProofs (maxSteps := 2000000) (disch := first|assumption|omega|rfl|(simp only[RD];done)|(simp only[RD];omega)) only [RN,Int.reduceBEq,Int.reduceBNe,Int.reduceLT,Int.reduceLE,Int.reduceAdd,Int.reduceSub,Int.reduceMul,Nat.reduceAdd,↓bc_flatz,↓bc_flat16,↓agg_bytez, p15]
  refine lcheck_ h.x hd hC ?_
  rw [hmn]
  obtain ⟨c, hm, ov, wv, hI⟩ := h.i
  have hcl := hI.cells
  have hov := hI.ord.len
  rw [ordL_len] at hov
  cases ho : w.opn
  case true =>
    simp -implicitDefEqProofs (maxSteps := 2000000) (disch := first|assumption|omega|rfl|(simp only[RD];done)|(simp only[RD];omega)) only [RN,Int.reduceBEq,Int.reduceBNe,Int.reduceLT,Int.reduceLE,Int.reduceAdd,Int.reduceSub,Int.reduceMul,Nat.reduceAdd,↓bc_flatz,↓bc_flat16,↓agg_bytez, if_true, hcl, WS.cells, ho]
    exact hqe ho
  case false =>
    by_cases hg : w.grp = []
    · have e : (((w.grp.length : Nat) : Int) == 0) = true := by rw [hg]; rfl
      simp -implicitDefEqProofs (maxSteps := 2000000) (disch := first|assumption|omega|rfl|(simp only[RD];done)|(simp only[RD];omega)) only [RN,Int.reduceBEq,Int.reduceBNe,Int.reduceLT,Int.reduceLE,Int.reduceAdd,Int.reduceSub,Int.reduceMul,Nat.reduceAdd,↓bc_flatz,↓bc_flat16,↓agg_bytez, if_true, hcl, WS.cells, ho, hov, e]
      exact hq1 ho hg
    · have e : (((w.grp.length : Nat) : Int) == 0) = false := by
        have : w.grp.length ≠ 0 := fun e => hg (List.eq_nil_of_length_eq_zero e)
        simp; exact hg
      simp -implicitDefEqProofs (maxSteps := 2000000) (disch := first|assumption|omega|rfl|(simp only[RD];done)|(simp only[RD];omega)) only [RN,Int.reduceBEq,Int.reduceBNe,Int.reduceLT,Int.reduceLE,Int.reduceAdd,Int.reduceSub,Int.reduceMul,Nat.reduceAdd,↓bc_flatz,↓bc_flat16,↓agg_bytez, if_true, hcl, WS.cells, ho, hov, e]
      refine commit_ h hd hA hC hm0 hmn ho hcm (fun hz σ1 F1 G1 l1 d1 a1 u1 => ?_) (fun hz σ1 F1 G1 l1 d1 a1 u1 => ?_)
      · exact hq2 ho hg hz σ1 F1 G1 l1 d1 a1 u1
      · exact hq3 ho hg hz σ1 F1 G1 l1 d1 a1 u1
end Go.Proofs.Ytiaonndafhfkmaa
