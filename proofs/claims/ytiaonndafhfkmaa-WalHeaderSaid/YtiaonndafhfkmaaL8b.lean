/- Contracts of what the statements of chapter 08 lean on: numbers, lists, a fresh log. -/
import Derived.Test.YtiaonndafhfkmaaL8
set_option linter.all false
set_option maxRecDepth 100000
set_option maxHeartbeats 400000
namespace Go.Proofs.Ytiaonndafhfkmaa
open Go.Am
variable {σ : Store} {Q : Value → Store → Prop} {g : Geo}
theorem where_ {g : Geo} (hq : Q (.agg ⟨ic g.of⟩) σ) : Does Try.prog 32 [.agg ⟨ic g.cells⟩, .int .i64 0] σ Q := by
  refine Does.pureT (r := .agg ⟨ic g.of⟩) ?_ (by simp [closedT, closed, ic, scalar]) hq
  refine d32 ?_
  have l9 : (ic g.of).length = 9 := by unfold Geo.of; split <;> rfl
  have l3 : (ic g.cells).length = 3 := rfl
  have u9 : (unrle [(9, .int .i64 0)]).length = 9 := rfl
  simp -implicitDefEqProofs (maxSteps := 2000000) (disch := first|assumption|omega|rfl|(simp only[RD];done)|(simp only[RD];omega)) only [RN,Int.reduceBEq,Int.reduceBNe,Int.reduceLT,Int.reduceLE,Int.reduceAdd,Int.reduceSub,Int.reduceMul,Nat.reduceAdd,↓bc_flatz,↓bc_flat16,↓agg_bytez, p32, l3]
  refine rof_ ?_
  simp -implicitDefEqProofs (maxSteps := 2000000) (disch := first|assumption|omega|rfl|(simp only[RD];done)|(simp only[RD];omega)) only [RN,Int.reduceBEq,Int.reduceBNe,Int.reduceLT,Int.reduceLE,Int.reduceAdd,Int.reduceSub,Int.reduceMul,Nat.reduceAdd,↓bc_flatz,↓bc_flat16,↓agg_bytez, u9, l9, p32_4, p32_3, p32_2, p32_1]
  refine ⟨trivial, ?_⟩
  exact (((Keeps.refl σ).push _).push _).push _
/-- The disk behind a log made anew. -/
def fresh0 (g : Geo) : DS := (DS.new g.blocks).readed.claimed
theorem dec_zb {g : Geo} (hg : g.ok) : DecOk g zb := by
  unfold DecOk
  rw [decL_zb]
  refine ⟨?_, List.nodup_nil, fun t ht => absurd ht List.not_mem_nil⟩
  have := hg.1
  show ((0 : Nat) : Int) ≤ g.log - 1
  omega
theorem fresh0_C {g : Geo} (hg : g.ok) : (fresh0 g).C 2 := claimed_C (readed_C (new_C hg.2.2.2.2.1 hg.2.2.2.2.2.1))
end Go.Proofs.Ytiaonndafhfkmaa
