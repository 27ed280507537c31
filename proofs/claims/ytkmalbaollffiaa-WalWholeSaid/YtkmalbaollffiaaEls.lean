/- What is read of a slice's elements. -/
import Derived.Test.YtkmalbaollffiaaOpq
set_option linter.all false
set_option maxRecDepth 100000
set_option maxHeartbeats 400000
namespace Go.Proofs.Ytkmalbaollffiaa
open Go.Am
variable {σ : Store} {Q : Value → Store → Prop} {s : DS} {m : Nat}
end Go.Proofs.Ytkmalbaollffiaa
