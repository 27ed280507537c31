/- The kit's Pick. -/
import Derived.Test.YthojojlgmaoecaaGreatAm34
import Derived.Test.YthojojlgmaoecaaGreatP1
import Derived.Test.YthojojlgmaoecaaGreatRuns
set_option linter.all false
set_option maxRecDepth 100000
set_option maxHeartbeats 400000
namespace Go.Proofs.YthojojlgmaoecaaGreat
open Go.Am
variable {σ : Store} {Q : Value → Store → Prop}
theorem pick_ {x n : Int} (h0 : 0 < n) (h1 : n < 2 ^ 62) (hq : Q (.int .i64 (x % n)) σ) : Does Tryz.prog 9 [.int .i64 x, .int .i64 n] σ Q := by
  refine d9 ?_
  have e1 : x.tmod n = if x.tmod n < 0 then x % n - n else x % n := by
    rw [Int.tmod_eq_emod]
    have := Int.emod_nonneg x (show n ≠ 0 by omega)
    have h3 := Int.emod_lt_of_pos x h0
    (repeat' split) <;> omega
  have h2 := Int.emod_nonneg x (show n ≠ 0 by omega)
  have h3 := Int.emod_lt_of_pos x h0
  by_cases h : x.tmod n < 0
  · rw [if_pos h] at e1
    simp -implicitDefEqProofs (maxSteps := 2000000) (disch := first|assumption|omega|rfl|(simp only[RD];done)|(simp only[RD];omega)) only [RN,Int.reduceBEq,Int.reduceBNe,Int.reduceLT,Int.reduceLE,Int.reduceAdd,Int.reduceSub,Int.reduceMul,Nat.reduceAdd,↓bc_flatz,↓bc_flat16,↓agg_bytez, p9, decide_eq_true h]
    rw [show x.tmod n + n = x % n by omega]
    exact hq
  · rw [if_neg h] at e1
    simp -implicitDefEqProofs (maxSteps := 2000000) (disch := first|assumption|omega|rfl|(simp only[RD];done)|(simp only[RD];omega)) only [RN,Int.reduceBEq,Int.reduceBNe,Int.reduceLT,Int.reduceLE,Int.reduceAdd,Int.reduceSub,Int.reduceMul,Nat.reduceAdd,↓bc_flatz,↓bc_flat16,↓agg_bytez, p9, decide_eq_false h]
    rw [e1]
    exact hq
end Go.Proofs.YthojojlgmaoecaaGreat
