/- A step of a fresh log, written; steps behind it. -/
import Derived.Test.YtkmalbaollffiaaStq
set_option linter.all false
set_option maxRecDepth 100000
set_option maxHeartbeats 400000
namespace Go.Proofs.Ytkmalbaollffiaa
open Go.Am
variable {σ : Store} {Q : Value → Store → Prop} {g : Geo} {s : DS} {w : WS} {m : Nat} {l d nid : Nat} {F G B X : List Nat} {st sB : Store}
theorem write_keeps (w : WS) (x : Int) (b : List Int) : (w.write x b).2.g = w.g ∧ (w.write x b).2.mine = w.mine ∧ (w.write x b).2.opn = w.opn ∧ (w.write x b).2.room = w.room ∧ (w.write x b).2.commits = w.commits ∧ (w.write x b).2.steps = w.steps := by
  unfold WS.write
  (repeat' split) <;> exact ⟨rfl, rfl, rfl, rfl, rfl, rfl⟩
theorem write_yes {x : Int} {b : List Int} (h : (w.write x b).1 = 0) : (w.write x b).2.grp = putG w.grp x b ∧ (w.write x b).2.wrote = addL w.wrote x := by
  unfold WS.write at h ⊢
  (repeat' split) <;> first | exact ⟨rfl, rfl⟩ | (exfalso; simp_all)
end Go.Proofs.Ytkmalbaollffiaa
