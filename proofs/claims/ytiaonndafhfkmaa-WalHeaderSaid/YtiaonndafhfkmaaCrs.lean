/- The power goes: Crash with what is kept. -/
import Derived.Test.YtiaonndafhfkmaaOpq
set_option linter.all false
set_option maxRecDepth 100000
set_option maxHeartbeats 400000
namespace Go.Proofs.Ytiaonndafhfkmaa
open Go.Am
variable {σ σ' : Store} {d m hm lm : Nat} {pv hv : Value} {s : DS} {F : List Nat} {Q : Value → Store → Prop}
end Go.Proofs.Ytiaonndafhfkmaa
