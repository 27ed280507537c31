/- PastSome, walked. -/
import Derived.Test.YtncdcjebanhcpaaSam5
set_option linter.all false
set_option maxRecDepth 100000
set_option maxHeartbeats 1600000
namespace Go.Proofs.Ytncdcjebanhcpaa
open Go.Am Go.Sort
variable {σ : Store} {Q : Value → Store → Prop} {n k at' : Int} {va vo vk : Value} {L : List HB} {O : List OP} {ks : List Bool}
theorem large_ (h1 : lenSl va = some (.int .i64 (L.length : Nat))) (h2 : lenSl vo = some (.int .i64 (O.length : Nat))) (h3 : lenSl vk = some (.int .i64 (ks.length : Nat)))
    (hq1 : (120 < L.length ∨ 120 < O.length ∨ 120 < ks.length) → ∀ st, Keeps σ st → Q (.bool true) st) (hq2 : L.length ≤ 120 → O.length ≤ 120 → ks.length ≤ 120 → ∀ st, Keeps σ st → Q (.bool false) st) :
    Does Try.prog 15 [.agg ⟨[.int .i64 n, va, vo, .int .i64 k, vk, .int .i64 at']⟩] σ Q := by
  refine d15 ?_
  obtain ⟨s1, hs1⟩ : ∃ s1, s1 = σ.push (.cells [.int .i64 n, va, vo, .int .i64 k, vk, .int .i64 at'] none) := ⟨_, rfl⟩
  have k1 : Keeps σ s1 := by rw [hs1]; exact (Keeps.refl _).push _
  have c1 : s1.get σ.next = some (.cells [.int .i64 n, va, vo, .int .i64 k, vk, .int .i64 at'] none) := by rw [hs1]; exact Store.get_push_same _ _
  unfold p15
  rw [box_agg, nop_some, ← hs1]
  by_cases e1 : (120 : Int) < (L.length : Nat)
  · simp -implicitDefEqProofs (maxSteps := 2000000) (disch := first|assumption|omega|rfl|(simp only[RD];done)|(simp only[RD];omega)) only [RN,Int.reduceBEq,Int.reduceBNe,Int.reduceLT,Int.reduceLE,Int.reduceAdd,Int.reduceSub,Int.reduceMul,Nat.reduceAdd,↓bc_flatz,↓bc_flat16,↓agg_bytez, c1, h1, decide_eq_true e1]
    exact hq1 (.inl (by omega)) _ k1
  by_cases e2 : (120 : Int) < (O.length : Nat)
  · simp -implicitDefEqProofs (maxSteps := 2000000) (disch := first|assumption|omega|rfl|(simp only[RD];done)|(simp only[RD];omega)) only [RN,Int.reduceBEq,Int.reduceBNe,Int.reduceLT,Int.reduceLE,Int.reduceAdd,Int.reduceSub,Int.reduceMul,Nat.reduceAdd,↓bc_flatz,↓bc_flat16,↓agg_bytez, c1, h1, decide_eq_false e1, h2, decide_eq_true e2]
    exact hq1 (.inr (.inl (by omega))) _ k1
  by_cases e3 : (120 : Int) < (ks.length : Nat)
  · simp -implicitDefEqProofs (maxSteps := 2000000) (disch := first|assumption|omega|rfl|(simp only[RD];done)|(simp only[RD];omega)) only [RN,Int.reduceBEq,Int.reduceBNe,Int.reduceLT,Int.reduceLE,Int.reduceAdd,Int.reduceSub,Int.reduceMul,Nat.reduceAdd,↓bc_flatz,↓bc_flat16,↓agg_bytez, c1, h1, decide_eq_false e1, h2, decide_eq_false e2, h3, decide_eq_true e3]
    exact hq1 (.inr (.inr (by omega))) _ k1
  simp -implicitDefEqProofs (maxSteps := 2000000) (disch := first|assumption|omega|rfl|(simp only[RD];done)|(simp only[RD];omega)) only [RN,Int.reduceBEq,Int.reduceBNe,Int.reduceLT,Int.reduceLE,Int.reduceAdd,Int.reduceSub,Int.reduceMul,Nat.reduceAdd,↓bc_flatz,↓bc_flat16,↓agg_bytez, c1, h1, decide_eq_false e1, h2, decide_eq_false e2, h3, decide_eq_false e3]
  exact hq2 (by omega) (by omega) (by omega) _ k1
def oneH (n k : Nat) : List Bool := (List.replicate n false).set k true
end Go.Proofs.Ytncdcjebanhcpaa
