/- The power goes: Crash with what is kept. -/
import Derived.Test.YthojojlgmaoecaaGreatOpq
set_option linter.all false
set_option maxRecDepth 100000
set_option maxHeartbeats 400000
namespace Go.Proofs.YthojojlgmaoecaaGreat
open Go.Am
variable {σ σ' : Store} {d m hm lm : Nat} {pv hv : Value} {s : DS} {F : List Nat} {Q : Value → Store → Prop}
/-- What is held when so many of what waits are gone through. -/
def heldI (f : Int → Option (List Int)) (w : List (Int × List Int)) (ks : List Bool) : Nat → Int → Option (List Int)
  | 0 => f
  | i + 1 => if ks.getD i false then keepF (heldI f w ks i) (w.getD i (0, [])).1 (w.getD i (0, [])).2 else heldI f w ks i
/-- The power goes and comes. -/
def DS.crash (s : DS) (ks : List Bool) : DS := { s.gone with held := heldI s.held s.wait ks s.wait.length }
def bC (ks : List Bool) : List Value := ks.map .bool
theorem crash_ {v : Value} {ks : List Bool} (h : DAt σ d s hm lm pv hv) (hok : s.Ok) (hw : s.wait.length < 2 ^ 30)
    (hvs : ∀ st, σ.next ≤ st.next → (∀ j, j < σ.next → j ∉ ids d hm lm pv hv → st.get j = σ.get j) → SlR st 1 v ks.length (bC ks))
    (hq : ∀ σ', DAt σ' d (s.crash ks) hm lm (.slice none 0 0) (.slice none 0 0) → Upd (ids d hm lm pv hv) σ σ' (ids d hm lm (.slice none 0 0) (.slice none 0 0)) → Q (.int .i64 0) σ') : Does Tryz.prog 14 [.pointer (some ⟨d, 0, none⟩), v] σ Q := by
  refine d14 ?_
  have hlt := h.lt
  have c1 := h.cells
  have hd1 := hlt d (by simp [ids])
  have nlm := hlt lm (by simp [ids])
  have nhm := hlt hm (by simp [ids])
  simp -implicitDefEqProofs (maxSteps := 2000000) (disch := first|assumption|omega|rfl|(simp only[RD];done)|(simp only[RD];omega)) only [RN,Int.reduceBEq,Int.reduceBNe,Int.reduceLT,Int.reduceLE,Int.reduceAdd,Int.reduceSub,Int.reduceMul,Nat.reduceAdd,↓bc_flatz,↓bc_flat16,↓agg_bytez, p14]
  refine is_ c1 hok.n ?_
  simp -implicitDefEqProofs (maxSteps := 2000000) (disch := first|assumption|omega|rfl|(simp only[RD];done)|(simp only[RD];omega)) only [RN,Int.reduceBEq,Int.reduceBNe,Int.reduceLT,Int.reduceLE,Int.reduceAdd,Int.reduceSub,Int.reduceMul,Nat.reduceAdd,↓bc_flatz,↓bc_flat16,↓agg_bytez, c1, DS.cells, h.wait.len]
  refine lop1 (fun k x st => ∃ i : Nat, k + i = s.wait.length ∧ x = .int .i64 i ∧ σ.next ≤ st.next ∧ MapAt st hm (fun x => (heldI s.held s.wait ks i x).map bv) ∧ ∀ j, j < σ.next → j ≠ hm → st.get j = σ.get j) s.wait.length ⟨0, rfl, rfl, Nat.le_refl _, h.held, fun _ _ _ => rfl⟩ ?_
  rintro k x st next ⟨i, hi, rfl, hk1, hmi, hk⟩ hnx
  have cst : st.get d = some (.cells (s.cells hm lm pv hv) none) := by rw [hk d hd1 h.ne1.symm, c1]
  have hwt : SlG st 1025 pv s.wait.length (waitC s.wait) := h.wait.same fun j hj => hk j (hlt j (by simp [ids, hj])) (h.ne4 j hj).2.1
  have ha := hvs st hk1 fun j hj hn => hk j hj (fun e => hn (by simp [ids, e]))
  by_cases h5 : (i : Int) < s.wait.length
  · have h6 : i < s.wait.length := by omega
    obtain ⟨p, hp⟩ : ∃ p, s.wait[i]? = some p := ⟨_, List.getElem?_eq_getElem h6⟩
    obtain ⟨y, b⟩ := p
    have hb : b.length = 1024 := hok.wait (y, b) (List.mem_of_getElem? hp)
    have hgd : s.wait.getD i (0, []) = (y, b) := by rw [List.getD_eq_getElem?_getD, hp]; rfl
    obtain ⟨a, o, q1, q2, q3, q4⟩ := hwt.r.at (by omega) h6
    rw [waitC_at hok.wait hp] at q3
    have l25 : (Value.int .i64 y :: bc b).length = 1025 := by simp [hb]
    simp -implicitDefEqProofs (maxSteps := 2000000) (disch := first|assumption|omega|rfl|(simp only[RD];done)|(simp only[RD];omega)) only [RN,Int.reduceBEq,Int.reduceBNe,Int.reduceLT,Int.reduceLE,Int.reduceAdd,Int.reduceSub,Int.reduceMul,Nat.reduceAdd,↓bc_flatz,↓bc_flat16,↓agg_bytez, decide_eq_true h5]
    simp -implicitDefEqProofs (maxSteps := 2000000) (disch := first|assumption|omega|rfl|(simp only[RD];done)|(simp only[RD];omega)) only [RN,Int.reduceBEq,Int.reduceBNe,Int.reduceLT,Int.reduceLE,Int.reduceAdd,Int.reduceSub,Int.reduceMul,Nat.reduceAdd,↓bc_flatz,↓bc_flat16,↓agg_bytez, p14_3, q1, q3]
    obtain ⟨s2, hs2⟩ : ∃ s2, s2 = st.push (.cells (.int .i64 y :: bc b) none) := ⟨_, rfl⟩
    have k2 : Keeps st s2 := by rw [hs2]; exact (Keeps.refl _).push _
    have c2 : s2.get st.next = some (.cells (.int .i64 y :: bc b) none) := by rw [hs2]; exact Store.get_push_same _ _
    have hmi2 : MapAt s2 hm (fun x => (heldI s.held s.wait ks i x).map bv) := hmi.same (k2.2 hm (by omega))
    have hk2 : ∀ j, j < σ.next → j ≠ hm → s2.get j = σ.get j := fun j h1 h2 => by rw [k2.2 j (by omega), hk j h1 h2]
    have ha2 : SlR s2 1 v ks.length (bC ks)   := hvs s2 (by have := k2.1; omega) fun j hj hn => hk2 j hj (fun e => hn (by simp [ids, e]))
    have cs2 : s2.get d = some (.cells (s.cells hm lm pv hv) none) := k2.get cst
    have n2 := k2.1
    have no : ks.getD i false = false → ∀ st', st'.next = s2.next → (∀ j, st'.get j = s2.get j) → next (.int .i64 ((i : Int) + 1)) st' := fun e st' e1 e2 => by
      refine hnx _ _ (by omega) ⟨i + 1, by omega, by congr 1, by omega, ?_, fun j h1 h2 => by rw [e2, hk2 j h1 h2]⟩
      have : heldI s.held s.wait ks (i + 1) = heldI s.held s.wait ks i := by
        show (if ks.getD i false then _ else _) = _
        rw [e]; rfl
      rw [this]
      exact hmi2.same (e2 hm)
    by_cases h8 : (i : Int) < (ks.length : Nat)
    · have h9 : i < ks.length := by omega
      have hkb : (bC ks)[i * 1]? = some (.bool ks[i]) := by rw [Nat.mul_one]; unfold bC; rw [List.getElem?_map, List.getElem?_eq_getElem h9]; rfl
      obtain ⟨a', o', r1, r2, r3, r4⟩ := ha2.at (by decide) h9
      rw [hkb] at r4
      have r1' := r1 .i64
      have hgk : ks.getD i false = ks[i] := by rw [List.getD_eq_getElem?_getD, List.getElem?_eq_getElem h9]; rfl
      cases hki : ks[i] with
      | false =>
        rw [hki] at r4 hgk
        simp -implicitDefEqProofs (maxSteps := 2000000) (disch := first|assumption|omega|rfl|(simp only[RD];done)|(simp only[RD];omega)) only [RN,Int.reduceBEq,Int.reduceBNe,Int.reduceLT,Int.reduceLE,Int.reduceAdd,Int.reduceSub,Int.reduceMul,Nat.reduceAdd,↓bc_flatz,↓bc_flat16,↓agg_bytez, p14_1, l25]
        rw [← hs2]
        simp -implicitDefEqProofs (maxSteps := 2000000) (disch := first|assumption|omega|rfl|(simp only[RD];done)|(simp only[RD];omega)) only [RN,Int.reduceBEq,Int.reduceBNe,Int.reduceLT,Int.reduceLE,Int.reduceAdd,Int.reduceSub,Int.reduceMul,Nat.reduceAdd,↓bc_flatz,↓bc_flat16,↓agg_bytez, ha2.len, decide_eq_true h8, r1', r4]
        exact no hgk s2 rfl fun _ => rfl
      | true =>
        rw [hki] at r4 hgk
        simp -implicitDefEqProofs (maxSteps := 2000000) (disch := first|assumption|omega|rfl|(simp only[RD];done)|(simp only[RD];omega)) only [RN,Int.reduceBEq,Int.reduceBNe,Int.reduceLT,Int.reduceLE,Int.reduceAdd,Int.reduceSub,Int.reduceMul,Nat.reduceAdd,↓bc_flatz,↓bc_flat16,↓agg_bytez, p14_1, l25]
        rw [← hs2]
        simp -implicitDefEqProofs (maxSteps := 2000000) (disch := first|assumption|omega|rfl|(simp only[RD];done)|(simp only[RD];omega)) only [RN,Int.reduceBEq,Int.reduceBNe,Int.reduceLT,Int.reduceLE,Int.reduceAdd,Int.reduceSub,Int.reduceMul,Nat.reduceAdd,↓bc_flatz,↓bc_flat16,↓agg_bytez, ha2.len, decide_eq_true h8, r1', r4, c2, l25]
        refine keep_ cs2 rfl h.ne1 hmi2 hb fun s3 n3 hm3 g3 => ?_
        try simp -implicitDefEqProofs (maxSteps := 2000000) (disch := first|assumption|omega|rfl|(simp only[RD];done)|(simp only[RD];omega)) only [RN,Int.reduceBEq,Int.reduceBNe,Int.reduceLT,Int.reduceLE,Int.reduceAdd,Int.reduceSub,Int.reduceMul,Nat.reduceAdd,↓bc_flatz,↓bc_flat16,↓agg_bytez]
        refine hnx _ _ (by omega) ⟨i + 1, by omega, by congr 1, by omega, ?_, fun j h1 h2 => by rw [g3 j (by omega) h2, hk2 j h1 h2]⟩
        have : heldI s.held s.wait ks (i + 1) = keepF (heldI s.held s.wait ks i) y b := by
          show (if ks.getD i false then _ else _) = _
          rw [hgk, if_pos rfl, hgd]
        rw [this]; exact hm3
    · have hgk : ks.getD i false = false := by rw [List.getD_eq_getElem?_getD, List.getElem?_eq_none (by omega)]; rfl
      simp -implicitDefEqProofs (maxSteps := 2000000) (disch := first|assumption|omega|rfl|(simp only[RD];done)|(simp only[RD];omega)) only [RN,Int.reduceBEq,Int.reduceBNe,Int.reduceLT,Int.reduceLE,Int.reduceAdd,Int.reduceSub,Int.reduceMul,Nat.reduceAdd,↓bc_flatz,↓bc_flat16,↓agg_bytez, p14_1, l25]
      rw [← hs2]
      simp -implicitDefEqProofs (maxSteps := 2000000) (disch := first|assumption|omega|rfl|(simp only[RD];done)|(simp only[RD];omega)) only [RN,Int.reduceBEq,Int.reduceBNe,Int.reduceLT,Int.reduceLE,Int.reduceAdd,Int.reduceSub,Int.reduceMul,Nat.reduceAdd,↓bc_flatz,↓bc_flat16,↓agg_bytez, ha2.len, decide_eq_false h8]
      exact no hgk s2 rfl fun _ => rfl
  · have hii : i = s.wait.length := by omega
    have m3 : MapAt (st.put d (some (.cells [.int .i64 s.n, .map (some hm), .map (some lm), .slice none 0 0, .slice none 0 0, .int .i64 s.fuse, .bool s.dead, .int .i64 s.made, .int .i64 s.reads, .int .i64 s.claims, .int .i64 s.claim] none))) lm fun x => (lastOf s.wait x).map bv := h.last.same (by rw [get_put_ne' h.ne2, hk lm nlm h.ne3.symm])
    obtain ⟨o, m4, m5⟩ := m3.clr
    simp -implicitDefEqProofs (maxSteps := 2000000) (disch := first|assumption|omega|rfl|(simp only[RD];done)|(simp only[RD];omega)) only [RN,Int.reduceBEq,Int.reduceBNe,Int.reduceLT,Int.reduceLE,Int.reduceAdd,Int.reduceSub,Int.reduceMul,Nat.reduceAdd,↓bc_flatz,↓bc_flat16,↓agg_bytez, decide_eq_false h5]
    simp -implicitDefEqProofs (maxSteps := 2000000) (disch := first|assumption|omega|rfl|(simp only[RD];done)|(simp only[RD];omega)) only [RN,Int.reduceBEq,Int.reduceBNe,Int.reduceLT,Int.reduceLE,Int.reduceAdd,Int.reduceSub,Int.reduceMul,Nat.reduceAdd,↓bc_flatz,↓bc_flat16,↓agg_bytez, p14_3, cst, DS.cells]
    simp -implicitDefEqProofs (maxSteps := 2000000) (disch := first|assumption|omega|rfl|(simp only[RD];done)|(simp only[RD];omega)) only [RN,Int.reduceBEq,Int.reduceBNe,Int.reduceLT,Int.reduceLE,Int.reduceAdd,Int.reduceSub,Int.reduceMul,Nat.reduceAdd,↓bc_flatz,↓bc_flat16,↓agg_bytez, p14_2, cst, DS.cells, m4]
    have hne : lm ≠ d := h.ne2
    have hne' : d ≠ lm := fun e => hne e.symm
    simp -implicitDefEqProofs (maxSteps := 2000000) (disch := first|assumption|omega|rfl|(simp only[RD];done)|(simp only[RD];omega)) only [RN,Int.reduceBEq,Int.reduceBNe,Int.reduceLT,Int.reduceLE,Int.reduceAdd,Int.reduceSub,Int.reduceMul,Nat.reduceAdd,↓bc_flatz,↓bc_flat16,↓agg_bytez, m4, get_put_ne' hne', put_comm hne]
    generalize hs5 : Store.put (Store.put st d _) lm (some o) = s5
    have n5 : s5.next = st.next := by rw [← hs5]; simp only [next_max]; omega
    have g5 : ∀ j, j ≠ d → j ≠ lm → s5.get j = st.get j := fun j h1 h2 => by rw [← hs5, get_put_ne' h2, get_put_ne' h1]
    have c5 : s5.get d = some (.cells ((s.crash ks).cells hm lm (.slice none 0 0) (.slice none 0 0)) none) := by rw [← hs5, get_put_ne' hne', Store.get_put_same]; rfl
    have m6 : MapAt s5 lm fun x => (lastOf (s.crash ks).wait x).map bv := by
      refine m5.same ?_
      rw [← hs5, Store.get_put_same, Store.get_put_same]
    have d8 : DAt s5 d (s.crash ks) hm lm (.slice none 0 0) (.slice none 0 0) := by
      refine ⟨c5, ?_, m6, SlG.nil, SlG.nil, h.ne1, h.ne2, h.ne3, fun x hx => by simp [idsV] at hx, fun x hx => by simp [idsV] at hx⟩
      rw [hii] at hmi
      exact hmi.same (g5 hm h.ne1 h.ne3)
    refine hq s5 d8 ⟨by omega, fun j hj => ⟨d8.lt j hj, ?_⟩, fun j hj hne => ?_⟩
    · simp [ids, idsV] at hj ⊢
      rcases hj with h9 | h9 | h9
      · exact .inl (.inl h9)
      · exact .inl (.inr (.inl h9))
      · exact .inl (.inr (.inr (.inl h9)))
    · simp only [ids, List.mem_cons, List.mem_append, not_or] at hne
      obtain ⟨q1, q2, q3, q4, q5⟩ := hne
      rw [g5 j q1 q3, hk j hj q2]
theorem heldI_len {f : Int → Option (List Int)} {w : List (Int × List Int)} {ks : List Bool} (hw : ∀ p ∈ w, p.2.length = 1024) (hf : ∀ x c, f x = some c → c.length = 1024) : ∀ i, i ≤ w.length → ∀ x c, heldI f w ks i x = some c → c.length = 1024
  | 0, _ => hf
  | i + 1, hi => by
    have ih := heldI_len (ks := ks) hw hf i (by omega)
    have e : w.getD i (0, []) = w[i] := by rw [List.getD_eq_getElem?_getD, List.getElem?_eq_getElem (show i < w.length by omega)]; rfl
    unfold heldI
    split
    · rw [e]; exact keepF_len ih (hw _ (List.getElem_mem _))
    · exact ih
theorem crash_C {ks : List Bool} (h : s.C m) : (s.crash ks).C m := by
  obtain ⟨ok, h1, h2, h3, h4, h5⟩ := h
  obtain ⟨a1, a2, a3, a4, a5, a6, a7, a8, a9, a10⟩ := ok
  exact ⟨⟨a1, a2, by show (-1 : Int) < 2 ^ 63; decide, by show (-1 : Int) ≤ -1; decide, a5, a6, a7, (fun p hp => by cases hp), (fun p hp => by cases hp), heldI_len a8 a10 _ (Nat.le_refl _)⟩, h1, by show (0 : Nat) ≤ _; omega, by show (0 : Nat) ≤ _; omega, h4, h5⟩
theorem crash_o {v : Value} {ks : List Bool} (h : Disk σ d s F) (hC : s.C m) (hm0 : m < 2 ^ 29)
    (hv : ∀ st, σ.next ≤ st.next → (∀ j, j < σ.next → j ∉ F → st.get j = σ.get j) → SlR st 1 v ks.length (bC ks))
    (hq : ∀ σ' F', Disk σ' d (s.crash ks) F' → Upd F σ σ' F' → Q (.int .i64 0) σ') : Does Tryz.prog 14 [.pointer (some ⟨d, 0, none⟩), v] σ Q := by
  obtain ⟨hm, lm, pv, hv', h, rfl⟩ := h
  exact crash_ h hC.ok (by have := hC.wait; omega) hv fun σ' h' u => hq σ' _ ⟨_, _, _, _, h', rfl⟩ u
end Go.Proofs.YthojojlgmaoecaaGreat
