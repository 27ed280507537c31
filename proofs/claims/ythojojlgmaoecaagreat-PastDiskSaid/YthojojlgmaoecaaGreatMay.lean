/- Contracts of past.may, of the closure in it, of slices.ContainsFunc over it. -/
import Derived.Test.YthojojlgmaoecaaGreatPst1
set_option linter.all false
set_option maxRecDepth 100000
set_option maxHeartbeats 400000
namespace Go.Proofs.YthojojlgmaoecaaGreat
open Go.Am
variable {σ : Store} {Q : Value → Store → Prop} {n : Int} {v u : Value} {L : List HB} {O : List OP}
def oddOp (n : Int) (o : OP) : Prop := o.1 ≠ 2 ∧ (o.1 ≠ 1 ∨ o.2.1 < 0 ∨ n ≤ o.2.1)
instance (n : Int) (o : OP) : Decidable (oddOp n o) := by unfold oddOp; infer_instance
theorem odd_ {i : Nat} {k a : Int} {b : List Int} (hb : b.length = 1024) (hi : σ.get i = some (.cells [.int .i64 n, v] none)) (hq : ∀ st, Keeps σ st → Q (.bool (decide (oddOp n (k, a, b)))) st) :
    Does Tryz.prog 35 [.agg ⟨.int .u8 k :: .int .i64 a :: bc b⟩, .pointer (some ⟨i, 0, none⟩)] σ Q := by
  refine d35 ?_
  obtain ⟨s1, hs1⟩ : ∃ s1, s1 = σ.push (.cells (.int .u8 k :: .int .i64 a :: bc b) none) := ⟨_, rfl⟩
  have k1 : Keeps σ s1 := by rw [hs1]; exact (Keeps.refl _).push _
  have c1 : s1.get σ.next = some (.cells (.int .u8 k :: .int .i64 a :: bc b) none) := by rw [hs1]; exact Store.get_push_same _ _
  have ci := k1.get hi
  unfold p35
  rw [box_agg, nop_some, ← hs1]
  by_cases h1 : k = 2
  · have e1 : (k != 2) = false := by simp [h1]
    have e : decide (oddOp n (k, a, b)) = false := decide_eq_false fun h => h.1 h1
    simp -implicitDefEqProofs (maxSteps := 2000000) (disch := first|assumption|omega|rfl|(simp only[RD];done)|(simp only[RD];omega)) only [RN,Int.reduceBEq,Int.reduceBNe,Int.reduceLT,Int.reduceLE,Int.reduceAdd,Int.reduceSub,Int.reduceMul,Nat.reduceAdd,↓bc_flatz,↓bc_flat16,↓agg_bytez, c1, e1]
    rw [e] at hq
    exact hq _ k1
  have e1 : (k != 2) = true := by simp [h1]
  by_cases h2 : k = 1
  · have e2 : (k != 1) = false := by simp [h2]
    by_cases h3 : a < 0
    · have e : decide (oddOp n (k, a, b)) = true := decide_eq_true ⟨h1, .inr (.inl h3)⟩
      simp -implicitDefEqProofs (maxSteps := 2000000) (disch := first|assumption|omega|rfl|(simp only[RD];done)|(simp only[RD];omega)) only [RN,Int.reduceBEq,Int.reduceBNe,Int.reduceLT,Int.reduceLE,Int.reduceAdd,Int.reduceSub,Int.reduceMul,Nat.reduceAdd,↓bc_flatz,↓bc_flat16,↓agg_bytez, c1, e1, e2, decide_eq_true h3]
      rw [e] at hq
      exact hq _ k1
    · by_cases h4 : n ≤ a
      · have e : decide (oddOp n (k, a, b)) = true := decide_eq_true ⟨h1, .inr (.inr h4)⟩
        simp -implicitDefEqProofs (maxSteps := 2000000) (disch := first|assumption|omega|rfl|(simp only[RD];done)|(simp only[RD];omega)) only [RN,Int.reduceBEq,Int.reduceBNe,Int.reduceLT,Int.reduceLE,Int.reduceAdd,Int.reduceSub,Int.reduceMul,Nat.reduceAdd,↓bc_flatz,↓bc_flat16,↓agg_bytez, c1, e1, e2, decide_eq_false h3, ci, decide_eq_true h4]
        rw [e] at hq
        exact hq _ k1
      · have e : decide (oddOp n (k, a, b)) = false := decide_eq_false fun h => by
          rcases h.2 with h | h | h
          · exact h h2
          · exact h3 h
          · exact h4 h
        simp -implicitDefEqProofs (maxSteps := 2000000) (disch := first|assumption|omega|rfl|(simp only[RD];done)|(simp only[RD];omega)) only [RN,Int.reduceBEq,Int.reduceBNe,Int.reduceLT,Int.reduceLE,Int.reduceAdd,Int.reduceSub,Int.reduceMul,Nat.reduceAdd,↓bc_flatz,↓bc_flat16,↓agg_bytez, c1, e1, e2, decide_eq_false h3, ci, decide_eq_false h4]
        rw [e] at hq
        exact hq _ k1
  · have e2 : (k != 1) = true := by simp [h2]
    have e : decide (oddOp n (k, a, b)) = true := decide_eq_true ⟨h1, .inl h2⟩
    simp -implicitDefEqProofs (maxSteps := 2000000) (disch := first|assumption|omega|rfl|(simp only[RD];done)|(simp only[RD];omega)) only [RN,Int.reduceBEq,Int.reduceBNe,Int.reduceLT,Int.reduceLE,Int.reduceAdd,Int.reduceSub,Int.reduceMul,Nat.reduceAdd,↓bc_flatz,↓bc_flat16,↓agg_bytez, c1, e1, e2]
    rw [e] at hq
    exact hq _ k1
theorem hasodd_ {i : Nat} (hv : SlR σ 1026 u O.length (histC O)) (hl : ∀ o ∈ O, o.2.2.length = 1024) (hcap : O.length < 2 ^ 62) (hi : σ.get i = some (.cells [.int .i64 n, v] none)) (hq : ∀ st, Keeps σ st → Q (.bool (decide (∃ o ∈ O, oddOp n o))) st) :
    Does Tryz.prog 36 [u, .func (.func 35) #[] #[.pointer (some ⟨i, 0, none⟩)]] σ Q := by
  refine d36 ?_
  unfold p36
  suffices h : Does Tryz.prog 45 [u, .func (.func 35) #[] #[.pointer (some ⟨i, 0, none⟩)]] σ fun r st => ∃ j : Int, r = .int .i64 j ∧ decide (0 ≤ j) = decide (∃ o ∈ O, oddOp n o) ∧ Keeps σ st by
    refine h.mono ?_
    rintro r st ⟨j, rfl, e, k⟩
    simp -implicitDefEqProofs (maxSteps := 2000000) (disch := first|assumption|omega|rfl|(simp only[RD];done)|(simp only[RD];omega)) only [RN,Int.reduceBEq,Int.reduceBNe,Int.reduceLT,Int.reduceLE,Int.reduceAdd,Int.reduceSub,Int.reduceMul,Nat.reduceAdd,↓bc_flatz,↓bc_flat16,↓agg_bytez, e]
    exact hq _ k
  refine d45 ?_
  simp -implicitDefEqProofs (maxSteps := 2000000) (disch := first|assumption|omega|rfl|(simp only[RD];done)|(simp only[RD];omega)) only [RN,Int.reduceBEq,Int.reduceBNe,Int.reduceLT,Int.reduceLE,Int.reduceAdd,Int.reduceSub,Int.reduceMul,Nat.reduceAdd,↓bc_flatz,↓bc_flat16,↓agg_bytez, p45, hv.len]
  refine lop1 (fun k x st => ∃ j : Nat, k + j = O.length ∧ x = .int .i64 j ∧ Keeps σ st ∧ ∀ o ∈ O.take j, ¬ oddOp n o) O.length ⟨0, rfl, rfl, Keeps.refl _, by simp⟩ ?_
  rintro k x st next ⟨j, hj, rfl, hk, hno⟩ hnx
  by_cases h5 : (j : Int) < O.length
  · have h6 : j < O.length := by omega
    obtain ⟨o, ho⟩ : ∃ o, O[j]? = some o := ⟨_, List.getElem?_eq_getElem h6⟩
    obtain ⟨c, a, b⟩ := o
    have hv3 : SlR st 1026 u O.length (histC O) := hv.keeps fun i o h => hk.get h
    obtain ⟨ib, ob, q1, _, _, _, q2⟩ := op_at hv3 hl ho
    have hb : b.length = 1024 := hl (c, a, b) (List.mem_of_getElem? ho)
    simp -implicitDefEqProofs (maxSteps := 2000000) (disch := first|assumption|omega|rfl|(simp only[RD];done)|(simp only[RD];omega)) only [RN,Int.reduceBEq,Int.reduceBNe,Int.reduceLT,Int.reduceLE,Int.reduceAdd,Int.reduceSub,Int.reduceMul,Nat.reduceAdd,↓bc_flatz,↓bc_flat16,↓agg_bytez, decide_eq_true h5, q1, q2]
    rw [cop_func (by kernel_rfl)]
    refine odd_ hb (hk.get hi) fun st2 k2 => ?_
    have kk := hk.trans k2
    by_cases h7 : oddOp n (c, a, b)
    · simp -implicitDefEqProofs (maxSteps := 2000000) (disch := first|assumption|omega|rfl|(simp only[RD];done)|(simp only[RD];omega)) only [RN,Int.reduceBEq,Int.reduceBNe,Int.reduceLT,Int.reduceLE,Int.reduceAdd,Int.reduceSub,Int.reduceMul,Nat.reduceAdd,↓bc_flatz,↓bc_flat16,↓agg_bytez, decide_eq_true h7]
      refine ⟨j, rfl, ?_, kk⟩
      rw [decide_eq_true (by omega), decide_eq_true ⟨_, List.mem_of_getElem? ho, h7⟩]
    · simp -implicitDefEqProofs (maxSteps := 2000000) (disch := first|assumption|omega|rfl|(simp only[RD];done)|(simp only[RD];omega)) only [RN,Int.reduceBEq,Int.reduceBNe,Int.reduceLT,Int.reduceLE,Int.reduceAdd,Int.reduceSub,Int.reduceMul,Nat.reduceAdd,↓bc_flatz,↓bc_flat16,↓agg_bytez, decide_eq_false h7]
      refine hnx _ _ (by omega) ⟨j + 1, by omega, by congr 1, kk, fun o ho' => ?_⟩
      rw [List.take_succ, ho] at ho'
      rcases List.mem_append.1 ho' with h | h
      · exact hno o h
      · have : o = (c, a, b) := by simpa using h
        rw [this]; exact h7
  · have e : j = O.length := by omega
    simp -implicitDefEqProofs (maxSteps := 2000000) (disch := first|assumption|omega|rfl|(simp only[RD];done)|(simp only[RD];omega)) only [RN,Int.reduceBEq,Int.reduceBNe,Int.reduceLT,Int.reduceLE,Int.reduceAdd,Int.reduceSub,Int.reduceMul,Nat.reduceAdd,↓bc_flatz,↓bc_flat16,↓agg_bytez, decide_eq_false h5]
    refine ⟨-1, rfl, ?_, hk⟩
    rw [e, List.take_length] at hno
    rw [decide_eq_false (by omega), decide_eq_false (fun ⟨o, h1, h2⟩ => hno o h1 h2)]
theorem may_ (hv : SlR σ 1025 v L.length (waitC L)) (hl : ∀ p ∈ L, p.2.length = 1024) (hcap : L.length < 2 ^ 62) (hu : SlR σ 1026 u O.length (histC O)) (hlo : ∀ o ∈ O, o.2.2.length = 1024) (hcapo : O.length < 2 ^ 62)
    (hq1 : okIm n L → (∀ o ∈ O, ¬ oddOp n o) → ∀ st, Keeps σ st → Q (.bool true) st) (hq2 : ¬ (okIm n L ∧ ∀ o ∈ O, ¬ oddOp n o) → ∀ st, Keeps σ st → Q (.bool false) st) :
    Does Tryz.prog 25 [.agg ⟨[.int .i64 n, v]⟩, u] σ Q := by
  refine d25 ?_
  obtain ⟨s1, hs1⟩ : ∃ s1, s1 = σ.push (.cells [.int .i64 n, v] none) := ⟨_, rfl⟩
  have k1 : Keeps σ s1 := by rw [hs1]; exact (Keeps.refl _).push _
  have c1 : s1.get σ.next = some (.cells [.int .i64 n, v] none) := by rw [hs1]; exact Store.get_push_same _ _
  have hv1 : SlR s1 1025 v L.length (waitC L) := hv.keeps fun i o h => k1.get h
  unfold p25
  rw [box_agg, nop_some, ← hs1]
  simp -implicitDefEqProofs (maxSteps := 2000000) (disch := first|assumption|omega|rfl|(simp only[RD];done)|(simp only[RD];omega)) only [RN,Int.reduceBEq,Int.reduceBNe,Int.reduceLT,Int.reduceLE,Int.reduceAdd,Int.reduceSub,Int.reduceMul,Nat.reduceAdd,↓bc_flatz,↓bc_flat16,↓agg_bytez, c1]
  refine pwhole_ hv1 hl (by omega) (fun h1 st1 k2 => ?_) fun h1 st1 k2 => ?_
  · have kk := k1.trans k2
    simp -implicitDefEqProofs (maxSteps := 2000000) (disch := first|assumption|omega|rfl|(simp only[RD];done)|(simp only[RD];omega)) only [RN,Int.reduceBEq,Int.reduceBNe,Int.reduceLT,Int.reduceLE,Int.reduceAdd,Int.reduceSub,Int.reduceMul,Nat.reduceAdd,↓bc_flatz,↓bc_flat16,↓agg_bytez]
    refine hasodd_ (n := n) (v := v) (hu.keeps fun i o h => kk.get h) hlo hcapo (k2.get c1) fun st2 k3 => ?_
    by_cases h2 : ∃ o ∈ O, oddOp n o
    · simp -implicitDefEqProofs (maxSteps := 2000000) (disch := first|assumption|omega|rfl|(simp only[RD];done)|(simp only[RD];omega)) only [RN,Int.reduceBEq,Int.reduceBNe,Int.reduceLT,Int.reduceLE,Int.reduceAdd,Int.reduceSub,Int.reduceMul,Nat.reduceAdd,↓bc_flatz,↓bc_flat16,↓agg_bytez, decide_eq_true h2]
      exact hq2 (fun h => by obtain ⟨o, h3, h4⟩ := h2; exact h.2 o h3 h4) _ (kk.trans k3)
    · simp -implicitDefEqProofs (maxSteps := 2000000) (disch := first|assumption|omega|rfl|(simp only[RD];done)|(simp only[RD];omega)) only [RN,Int.reduceBEq,Int.reduceBNe,Int.reduceLT,Int.reduceLE,Int.reduceAdd,Int.reduceSub,Int.reduceMul,Nat.reduceAdd,↓bc_flatz,↓bc_flat16,↓agg_bytez, decide_eq_false h2]
      exact hq1 h1 (fun o h3 h4 => h2 ⟨o, h3, h4⟩) _ (kk.trans k3)
  · simp -implicitDefEqProofs (maxSteps := 2000000) (disch := first|assumption|omega|rfl|(simp only[RD];done)|(simp only[RD];omega)) only [RN,Int.reduceBEq,Int.reduceBNe,Int.reduceLT,Int.reduceLE,Int.reduceAdd,Int.reduceSub,Int.reduceMul,Nat.reduceAdd,↓bc_flatz,↓bc_flat16,↓agg_bytez]
    exact hq2 (fun h => h1 h.1) _ (k1.trans k2)
end Go.Proofs.YthojojlgmaoecaaGreat
