/- Chapter 08: the law's own functions behind, next, SameBlocks. -/
import Derived.Test.YtkmalbaollffiaaWn
import Derived.Test.YtkmalbaollffiaaGrp
set_option linter.all false
set_option maxRecDepth 100000
set_option maxHeartbeats 800000
namespace Go.Proofs.Ytkmalbaollffiaa
open Go.Am
variable {L : LPt} {σ st st' : Store} {l d : Nat} {w : WS} {s : DS} {m bn : Nat} {os : List (Nat × SObj)} {Q : Value → Store → Prop} {g : Geo} {T : List Int}
def slO (v : Value) (c : List Value) (sz : Nat) : List (Nat × SObj) := (idsV v).map fun j => (j, .cells c (some sz))
theorem Rg.app {v : Value} {n sz by_ : Nat} {c news : List Value} (h : Rg L σ st d s m (slO v c sz ++ os)) (hs : SlG st sz v n c) (hv : ∀ j ∈ idsV v, σ.next ≤ j) (hd : ∀ p ∈ os, p.1 ∉ idsV v) (hl : news.length = sz) (hb : (n + 1) * by_ ≤ 140737488355328) (hn : n + 1 ≤ 9223372036854775807) (hz : 0 < sz) :
    ∃ id st', appendV sz by_ v (.slice (some ⟨st.next, 0, none⟩) 1 1) (st.push (.cells news none)) = some (.slice (some ⟨id, 0, some sz⟩) (n + 1) (n + 1), st') ∧ Rg L σ st' d s m (slO (.slice (some ⟨id, 0, some sz⟩) (n + 1) (n + 1)) (c ++ news) sz ++ os) ∧ SlG st' sz (.slice (some ⟨id, 0, some sz⟩) (n + 1) (n + 1)) (n + 1) (c ++ news) ∧ σ.next ≤ id ∧ ∀ p ∈ os, p.1 ≠ id := by
  have hp := h.push (.cells news none)
  have kp : Keeps st (st.push (.cells news none)) := (Keeps.refl st).push _
  obtain ⟨s', a1, a2, a3, a4⟩ := SlG.app (j := st.next) (k := 1) (gj := none) (by_ := by_) (hs.same fun i hi => kp.2 i (hs.lt i hi)) (Store.get_push_same _ _) hl hb hn hz
  have hk := hp.keeps
  refine ⟨_, s', a1, ?_, a2, hk.1, fun p hpo e => ?_⟩
  · refine hp.chg (ch := idsV v) (fun j hj => ⟨hv j hj, _, List.mem_cons_of_mem _ (List.mem_append_left _ (List.mem_map.2 ⟨j, hj, rfl⟩))⟩) (by omega) (fun j hj hn => a4 j hj hn) fun p hpo => ?_
    rcases List.mem_append.1 hpo with hpo | hpo
    · obtain ⟨j, hj, rfl⟩ := List.mem_map.1 hpo
      have hj' : j = (st.push (.cells news none)).next := by simpa [idsV] using hj
      subst hj'
      refine ⟨?_, .inl (Nat.le_refl _)⟩
      rcases a2.2 with ⟨h0, _⟩ | ⟨i, e, hi, _⟩
      · omega
      · cases e; exact hi
    · have hm : p ∈ (st.next, SObj.cells news none) :: (slO v c sz ++ os) := List.mem_cons_of_mem _ (List.mem_append_right _ hpo)
      have hg := hp.get (j := p.1) (o := p.2) hm
      exact ⟨by rw [a4 _ (Store.lt_of_get hg) (hd p hpo)]; exact hg, .inr ⟨_, hm⟩⟩
  · have hg := h.get (j := p.1) (o := p.2) (List.mem_append_right _ hpo)
    have := Store.lt_of_get hg
    rw [Store.next_push] at e
    omega
def atB (s : DS) (a : Int) (n : Nat) : List Int := (List.range n).flatMap fun (i : Nat) => s.at (a + (i : Nat))
theorem atB_succ (s : DS) (a : Int) (n : Nat) : atB s a (n + 1) = atB s a n ++ s.at (a + (n : Nat)) := by simp [atB, List.range_succ]
theorem atB_len {s : DS} (hC : s.C m) (a : Int) : ∀ n, (atB s a n).length = n * 1024
  | 0 => by simp [atB]
  | n + 1 => by rw [atB_succ, List.length_append, atB_len hC a n, at_1024 hC]; omega
theorem atB_at {s : DS} (hC : s.C m) (a : Int) {x : Nat} : ∀ n, x < n → ((atB s a n).drop (x * 1024)).take 1024 = s.at (a + (x : Nat))
  | 0, h => by omega
  | n + 1, h => by
    have hl := atB_len hC a n
    have h1 := at_1024 hC (a + (n : Nat))
    rw [atB_succ]
    by_cases hx : x < n
    · rw [List.drop_append_of_le_length (by omega), List.take_append_of_le_length (by rw [List.length_drop]; omega)]
      exact atB_at hC a n hx
    · have : x = n := by omega
      subst this
      rw [List.drop_left' hl, List.take_of_length_le (by omega)]
theorem behind_ (h : Rg L σ st d s m os) (hd : s.dead = false) (hn : g.blocks ≤ s.n) (hg : g.ok) (hm : m + 400 < 2 ^ 29) (h3 : g.blocks ≤ 300) (hbn : (bn : Int) = g.blocks - (1 + g.log))
    (hq : ∀ st' id r, Rg L σ st' d { s with reads := r } (m + 300) ((id, .cells (bc (atB s (1 + g.log) bn)) (some 1024)) :: os) → σ.next ≤ id → (∀ p ∈ os, p.1 ≠ id) → Q (.tuple #[.slice (some ⟨id, 0, some 1024⟩) bn bn, .bool true]) st') :
    Does Try.prog 44 [.pointer (some ⟨d, 0, none⟩), .agg ⟨ic g.lay⟩] st Q := by
  have hg' := hg
  unfold Geo.ok at hg'
  have hda : g.dataAt = 1 + g.log + g.nodeBlocks + g.bitsBlocks := rfl
  have hnb : g.nodeBlocks = (g.inodes + 16) / 16 := rfl
  have hbb : g.bitsBlocks = (g.blocks + 8191) / 8192 := rfl
  refine d44 ?_
  have l9 : (ic g.lay).length = 9 := rfl
  have e4 : rdOne (some (.cells (ic g.lay) none)) 4 = some (.int .i64 (1 + g.log)) := rfl
  have e0 : rdOne (some (.cells (ic g.lay) none)) 0 = some (.int .i64 g.blocks) := rfl
  have z1 := zb_len
  obtain ⟨s1, hs1⟩ : ∃ s1, s1 = st.push (.cells (ic g.lay) none) := ⟨_, rfl⟩
  have hR := h.push (.cells (ic g.lay) none)
  rw [← hs1] at hR
  have c1 := hR.get (List.mem_cons_self ..)
  unfold p44
  rw [box_agg, nop_some, ← hs1]
  simp -implicitDefEqProofs (maxSteps := 2000000) (disch := first|assumption|omega|rfl|(simp only[RD];done)|(simp only[RD];omega)) only [RN,Int.reduceBEq,Int.reduceBNe,Int.reduceLT,Int.reduceLE,Int.reduceAdd,Int.reduceSub,Int.reduceMul,Nat.reduceAdd,↓bc_flatz,↓bc_flat16,↓agg_bytez, c1, e4]
  refine lop2 (fun k v x st' => ∃ (i : Nat) (r : Int), k + i = bn ∧ x = .int .i64 (1 + g.log + i) ∧ Rg L σ st' d { s with reads := r } (m + i) (slO v (bc (atB s (1 + g.log) i)) 1024 ++ ((st.next, .cells (ic g.lay) none) :: os)) ∧ SlG st' 1024 v i (bc (atB s (1 + g.log) i)) ∧ (∀ j ∈ idsV v, σ.next ≤ j) ∧ (∀ p ∈ (st.next, SObj.cells (ic g.lay) none) :: os, p.1 ∉ idsV v) ∧ (0 < i → ∃ id, v = .slice (some ⟨id, 0, some 1024⟩) i i)) bn
    ⟨0, s.reads, rfl, by congr 1; omega, by simpa [slO, idsV] using hR, SlG.nil, fun j hj => by simp [idsV] at hj, fun p hp => by simp [idsV], fun h => absurd h (Nat.lt_irrefl _)⟩ ?_
  rintro k v x st' next ⟨i, r, hi, rfl, hR2, hsl, hv, hdi, hid⟩ hnx
  have c2 := hR2.get (List.mem_append_right _ (List.mem_cons_self ..))
  by_cases h5 : 1 + g.log + (i : Int) < g.blocks
  · simp -implicitDefEqProofs (maxSteps := 2000000) (disch := first|assumption|omega|rfl|(simp only[RD];done)|(simp only[RD];omega)) only [RN,Int.reduceBEq,Int.reduceBNe,Int.reduceLT,Int.reduceLE,Int.reduceAdd,Int.reduceSub,Int.reduceMul,Nat.reduceAdd,↓bc_flatz,↓bc_flat16,↓agg_bytez, c2, e0, decide_eq_true h5]
    refine rg_dread hR2 hd (by omega) (i := 1 + g.log + (i : Nat)) (by show _ ∧ _ < s.n; omega) fun st2 hR3 => ?_
    have ea : ({ s with reads := r } : DS).at (1 + g.log + (i : Nat)) = s.at (1 + g.log + (i : Nat)) := rfl
    rw [ea]
    have la := at_1024 h.C (1 + g.log + (i : Nat))
    obtain ⟨b, hb⟩ : ∃ b, b = s.at (1 + g.log + (i : Nat)) := ⟨_, rfl⟩
    rw [← hb] at la ⊢
    simp -implicitDefEqProofs (maxSteps := 2000000) (disch := first|assumption|omega|rfl|(simp only[RD];done)|(simp only[RD];omega)) only [RN,Int.reduceBEq,Int.reduceBNe,Int.reduceLT,Int.reduceLE,Int.reduceAdd,Int.reduceSub,Int.reduceMul,Nat.reduceAdd,↓bc_flatz,↓bc_flat16,↓agg_bytez, la, z1]
    have hR4 := hR3.push (.cells (bc b) none)
    obtain ⟨s5, hs5⟩ : ∃ s5, s5 = st2.push (.cells (bc b) none) := ⟨_, rfl⟩
    rw [← hs5] at hR4
    have c5 := hR4.get (List.mem_cons_self ..)
    have hR5 : Rg L σ s5 d { s with reads := r + 1 } (m + i + 1) (slO v (bc (atB s (1 + g.log) i)) 1024 ++ ((st.next, .cells (ic g.lay) none) :: os)) := hR4.less fun p hp => List.mem_cons_of_mem _ hp
    have hsl5 : SlG s5 1024 v i (bc (atB s (1 + g.log) i)) := hsl.same fun j hj => by
      have e1 := hR2.get (List.mem_append_left _ (List.mem_map.2 ⟨j, hj, rfl⟩))
      have e2 := hR5.get (List.mem_append_left _ (List.mem_map.2 ⟨j, hj, rfl⟩))
      rw [e1, e2]
    obtain ⟨id, st3, a1, a2, a3, a4, a5⟩ := hR5.app (by_ := 1024) hsl5 hv hdi (news := bc b) (by rw [bc_len]; exact la) (by omega) (by omega) (by decide)
    have n5 : s5.next = st2.next + 1 := by rw [hs5, Store.next_push]
    rw [n5] at a1
    rw [← hs5]
    simp -implicitDefEqProofs (maxSteps := 2000000) (disch := first|assumption|omega|rfl|(simp only[RD];done)|(simp only[RD];omega)) only [RN,Int.reduceBEq,Int.reduceBNe,Int.reduceLT,Int.reduceLE,Int.reduceAdd,Int.reduceSub,Int.reduceMul,Nat.reduceAdd,↓bc_flatz,↓bc_flat16,↓agg_bytez, a1]
    have eb : bc (atB s (1 + g.log) i) ++ bc b = bc (atB s (1 + g.log) (i + 1)) := by rw [atB_succ, ← hb, bc_app]
    rw [eb] at a2 a3
    refine hnx _ _ _ (by omega) ⟨i + 1, r + 1, by omega, by congr 1; omega, a2, a3, fun j hj => ?_, fun p hp hx => ?_, fun _ => ⟨id, rfl⟩⟩
    · have : j = id := by simpa [idsV] using hj
      rw [this]; exact a4
    · exact a5 p hp (by simpa [idsV] using hx)
  · have hib : i = bn := by omega
    simp -implicitDefEqProofs (maxSteps := 2000000) (disch := first|assumption|omega|rfl|(simp only[RD];done)|(simp only[RD];omega)) only [RN,Int.reduceBEq,Int.reduceBNe,Int.reduceLT,Int.reduceLE,Int.reduceAdd,Int.reduceSub,Int.reduceMul,Nat.reduceAdd,↓bc_flatz,↓bc_flat16,↓agg_bytez, c2, e0, decide_eq_false h5]
    obtain ⟨id, rfl⟩ := hid (by omega)
    subst hib
    have hR6 : Rg L σ st' d { s with reads := r } (m + 300) ((id, .cells (bc (atB s (1 + g.log) i)) (some 1024)) :: os) := (hR2.less (os' := (id, .cells (bc (atB s (1 + g.log) i)) (some 1024)) :: os) fun p hp => by
        rcases List.mem_cons.1 hp with rfl | hp
        · exact List.mem_append_left _ (by simp [slO, idsV])
        · exact List.mem_append_right _ (List.mem_cons_of_mem _ hp)).le (by omega)
    exact hq st' id r hR6 (hv id (by simp [idsV])) fun p hp e => hdi p (List.mem_cons_of_mem _ hp) (by simp [idsV, e])
theorem next_ {tid : Nat} {t : List (Int × Int)} {tv : Value} (h : Rg L σ st d s m os) (hT : (tid, SObj.cells (bc T) (some 1024)) ∈ os) (hl : T.length = bn * 1024) (hbn : 0 < bn ∧ bn ≤ 300) (ht31 : t.length ≤ 31) (htb : ∀ p ∈ t, 0 ≤ p.2 ∧ p.2 < 256) (ht : ∀ st', Keeps σ st' → StpV st' tv t)
    (hq : ∀ st' id, Rg L σ st' d s m ((id, .cells (bc (stepB bn T t)) (some 1024)) :: os) → σ.next ≤ id → (∀ p ∈ os, p.1 ≠ id) → Q (.slice (some ⟨id, 0, some 1024⟩) bn bn) st') :
    Does Try.prog 45 [.slice (some ⟨tid, 0, some 1024⟩) bn bn, tv] st Q := by
  refine d45 ?_
  have cT := h.get hT
  obtain ⟨b', hb'⟩ : ∃ b', bn = b' + 1 := ⟨bn - 1, by omega⟩
  have ea : appendV 1024 1024 (.slice none 0 0) (.slice (some ⟨tid, 0, some 1024⟩) bn bn) st = some (.slice (some ⟨st.next, 0, some 1024⟩) bn bn, st.push (.cells (bc T) (some 1024))) := by
    rw [hb'] at hl ⊢
    have := append_nil (σ := st) (sz := 1024) (by_ := 1024) (gj := some 1024) (c := b' + 1) cT (by rw [bc_len]; exact hl) (by omega) (by omega)
    exact this
  simp -implicitDefEqProofs (maxSteps := 2000000) (disch := first|assumption|omega|rfl|(simp only[RD];done)|(simp only[RD];omega)) only [RN,Int.reduceBEq,Int.reduceBNe,Int.reduceLT,Int.reduceLE,Int.reduceAdd,Int.reduceSub,Int.reduceMul,Nat.reduceAdd,↓bc_flatz,↓bc_flat16,↓agg_bytez, p45]
  refine d63 ?_
  simp -implicitDefEqProofs (maxSteps := 2000000) (disch := first|assumption|omega|rfl|(simp only[RD];done)|(simp only[RD];omega)) only [RN,Int.reduceBEq,Int.reduceBNe,Int.reduceLT,Int.reduceLE,Int.reduceAdd,Int.reduceSub,Int.reduceMul,Nat.reduceAdd,↓bc_flatz,↓bc_flat16,↓agg_bytez, p63, ea]
  obtain ⟨s1, hs1⟩ : ∃ s1, s1 = st.push (.cells (bc T) (some 1024)) := ⟨_, rfl⟩
  have hR := h.push (.cells (bc T) (some 1024))
  rw [← hs1] at hR ⊢
  have hge : σ.next ≤ st.next := h.keeps.1
  have hne : ∀ p ∈ os, p.1 ≠ st.next := fun p hp e => by
    have := Store.lt_of_get (h.get (j := p.1) (o := p.2) hp)
    omega
  refine lop1 (fun k x st' => ∃ (j : Nat), k + j = t.length ∧ x = .int .i64 j ∧ Rg L σ st' d s m ((st.next, .cells (bc (stepB bn T (t.take j))) (some 1024)) :: os) ∧ (stepB bn T (t.take j)).length = bn * 1024) t.length ⟨0, rfl, rfl, hR, hl⟩ ?_
  rintro k x st' next ⟨j, hj, rfl, hR2, hl2⟩ hnx
  have hst := ht st' hR2.keeps
  by_cases h5 : (j : Int) < (t.length : Nat)
  · have h6 : j < t.length := by omega
    obtain ⟨p, hp⟩ : ∃ p, t[j]? = some p := ⟨_, List.getElem?_eq_getElem h6⟩
    have hpr := htb p (List.mem_of_getElem? hp)
    obtain ⟨a, o, r1, r2, r3, r4⟩ := hst.2 j p hp
    have lv : lenSl (.slice (some ⟨st.next, 0, some 1024⟩) bn bn) = some (.int .i64 (bn : Nat)) := rfl
    simp -implicitDefEqProofs (maxSteps := 2000000) (disch := first|assumption|omega|rfl|(simp only[RD];done)|(simp only[RD];omega)) only [RN,Int.reduceBEq,Int.reduceBNe,Int.reduceLT,Int.reduceLE,Int.reduceAdd,Int.reduceSub,Int.reduceMul,Nat.reduceAdd,↓bc_flatz,↓bc_flat16,↓agg_bytez, hst.1, decide_eq_true h5, r1, r3, lv]
    refine pick_ (by omega) (by omega) ?_
    have m1 := Int.emod_nonneg p.1 (show ((bn : Nat) : Int) ≠ 0 by omega)
    have m2 := Int.emod_lt_of_pos p.1 (show (0 : Int) < (bn : Nat) by omega)
    obtain ⟨x, hx⟩ : ∃ x : Nat, p.1 % ((bn : Nat) : Int) = (x : Nat) := ⟨(p.1 % ((bn : Nat) : Int)).toNat, by omega⟩
    rw [hx]
    simp -implicitDefEqProofs (maxSteps := 2000000) (disch := first|assumption|omega|rfl|(simp only[RD];done)|(simp only[RD];omega)) only [RN,Int.reduceBEq,Int.reduceBNe,Int.reduceLT,Int.reduceLE,Int.reduceAdd,Int.reduceSub,Int.reduceMul,Nat.reduceAdd,↓bc_flatz,↓bc_flat16,↓agg_bytez, r1, r4]
    refine block_ hpr.1 hpr.2 ?_
    have c3 := hR2.get (List.mem_cons_self ..)
    have stb := store_bytes (n := 1024) c3 (blk_len p.2) (o := x * 1024) (by rw [hl2]; omega)
    simp -implicitDefEqProofs (maxSteps := 2000000) (disch := first|assumption|omega|rfl|(simp only[RD];done)|(simp only[RD];omega)) only [RN,Int.reduceBEq,Int.reduceBNe,Int.reduceLT,Int.reduceLE,Int.reduceAdd,Int.reduceSub,Int.reduceMul,Nat.reduceAdd,↓bc_flatz,↓bc_flat16,↓agg_bytez, Int.toNat_natCast, stb]
    have e1 : stepB bn T (t.take (j + 1)) = layB (stepB bn T (t.take j)) (x * 1024) (blk p.2) := by
      rw [stepB_take T hp]
      unfold chB
      rw [hx, Int.toNat_natCast]
    refine hnx _ _ (by omega) ⟨j + 1, by omega, by congr 1, ?_, by rw [e1, layB_len (by rw [blk_len, hl2]; omega), hl2]⟩
    rw [e1]
    refine hR2.chg (ch := [st.next]) (fun q hq => by
      have : q = st.next := by simpa using hq
      rw [this]; exact ⟨hge, _, List.mem_cons_self ..⟩) (by rw [next_max]; omega) (fun q _ hn => get_put_ne' (by simpa using hn)) fun q hq => ?_
    rcases List.mem_cons.1 hq with rfl | hq
    · exact ⟨Store.get_put_same _ _ _, .inr ⟨_, List.mem_cons_self ..⟩⟩
    · exact ⟨by rw [get_put_ne' (hne q hq)]; exact hR2.get (List.mem_cons_of_mem _ hq), .inr ⟨_, List.mem_cons_of_mem _ hq⟩⟩
  · have e : j = t.length := by omega
    simp -implicitDefEqProofs (maxSteps := 2000000) (disch := first|assumption|omega|rfl|(simp only[RD];done)|(simp only[RD];omega)) only [RN,Int.reduceBEq,Int.reduceBNe,Int.reduceLT,Int.reduceLE,Int.reduceAdd,Int.reduceSub,Int.reduceMul,Nat.reduceAdd,↓bc_flatz,↓bc_flat16,↓agg_bytez, hst.1, decide_eq_false h5]
    rw [e, List.take_length] at hR2
    exact hq st' st.next hR2 hge hne
theorem blocks_ne {A B : List Int} (ha : A.length = bn * 1024) (hb : B.length = bn * 1024) (h : ∀ x : Nat, x < bn → (A.drop (x * 1024)).take 1024 = (B.drop (x * 1024)).take 1024) : A = B := by
  refine List.ext_getElem? fun t => ?_
  by_cases ht : t < bn * 1024
  · have e := congrArg (fun l => l[t % 1024]?) (h (t / 1024) (by omega))
    simp only [List.getElem?_take, List.getElem?_drop] at e
    rw [if_pos (by omega), show t / 1024 * 1024 + t % 1024 = t by omega] at e
    rw [if_pos (by omega)] at e
    exact e
  · rw [List.getElem?_eq_none (by omega), List.getElem?_eq_none (by omega)]
theorem sameblk_ {u v : Value} {A B : List Int} (hv : SlR st 1024 v bn (bc A)) (hu : SlR st 1024 u bn (bc B)) (ha : A.length = bn * 1024) (hb : B.length = bn * 1024) (hbn : bn ≤ 300) (hq : Q (.bool (decide (A = B))) st) : Does Try.prog 50 [v, u] st Q := by
  refine d50 ?_
  have e0 : (((bn : Nat) : Int) != (bn : Nat)) = false := by simp
  simp -implicitDefEqProofs (maxSteps := 2000000) (disch := first|assumption|omega|rfl|(simp only[RD];done)|(simp only[RD];omega)) only [RN,Int.reduceBEq,Int.reduceBNe,Int.reduceLT,Int.reduceLE,Int.reduceAdd,Int.reduceSub,Int.reduceMul,Nat.reduceAdd,↓bc_flatz,↓bc_flat16,↓agg_bytez, p50, hv.len, hu.len, e0]
  refine lop1 (fun k y st' => ∃ (i : Nat), k + i = bn ∧ y = .int .i64 i ∧ st' = st ∧ ∀ x : Nat, x < i → (A.drop (x * 1024)).take 1024 = (B.drop (x * 1024)).take 1024) bn ⟨0, rfl, rfl, rfl, fun x h => absurd h (Nat.not_lt_zero _)⟩ ?_
  rintro k y st' next ⟨i, hi, rfl, rfl, hall⟩ hnx
  by_cases h5 : (i : Int) < (bn : Nat)
  · have h6 : i < bn := by omega
    obtain ⟨a, o, q1, q2, q3, q4⟩ := hv.at (by decide) h6
    obtain ⟨a', o', r1, r2, r3, r4⟩ := hu.at (by decide) h6
    rw [bc_drop, bc_take] at q3 r3
    have hl : ((A.drop (i * 1024)).take 1024).length = 1024 := by rw [List.length_take, List.length_drop]; omega
    have hl' : ((B.drop (i * 1024)).take 1024).length = 1024 := by rw [List.length_take, List.length_drop]; omega
    have eq1 := eqA_bc (n := 1024) true hl hl'
    by_cases he : (A.drop (i * 1024)).take 1024 = (B.drop (i * 1024)).take 1024
    · rw [decide_eq_true he] at eq1
      simp -implicitDefEqProofs (maxSteps := 2000000) (disch := first|assumption|omega|rfl|(simp only[RD];done)|(simp only[RD];omega)) only [RN,Int.reduceBEq,Int.reduceBNe,Int.reduceLT,Int.reduceLE,Int.reduceAdd,Int.reduceSub,Int.reduceMul,Nat.reduceAdd,↓bc_flatz,↓bc_flat16,↓agg_bytez, hv.len, decide_eq_true h5, q1, q3, r1, r3, eq1]
      exact hnx _ _ (by omega) ⟨i + 1, by omega, by congr 1, rfl, fun x hx => by
        by_cases e : x = i
        · rw [e]; exact he
        · exact hall x (by omega)⟩
    · rw [decide_eq_false he] at eq1
      simp -implicitDefEqProofs (maxSteps := 2000000) (disch := first|assumption|omega|rfl|(simp only[RD];done)|(simp only[RD];omega)) only [RN,Int.reduceBEq,Int.reduceBNe,Int.reduceLT,Int.reduceLE,Int.reduceAdd,Int.reduceSub,Int.reduceMul,Nat.reduceAdd,↓bc_flatz,↓bc_flat16,↓agg_bytez, hv.len, decide_eq_true h5, q1, q3, r1, r3, eq1]
      rw [decide_eq_false (fun e => he (by rw [e]))] at hq
      exact hq
  · have hib : i = bn := by omega
    simp -implicitDefEqProofs (maxSteps := 2000000) (disch := first|assumption|omega|rfl|(simp only[RD];done)|(simp only[RD];omega)) only [RN,Int.reduceBEq,Int.reduceBNe,Int.reduceLT,Int.reduceLE,Int.reduceAdd,Int.reduceSub,Int.reduceMul,Nat.reduceAdd,↓bc_flatz,↓bc_flat16,↓agg_bytez, hv.len, decide_eq_false h5]
    rw [decide_eq_true (blocks_ne ha hb fun x hx => hall x (by omega))] at hq
    exact hq
end Go.Proofs.Ytkmalbaollffiaa
