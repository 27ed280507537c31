/- Contracts of the package disk: the rest but Image. -/
import Derived.Test.YtncdcjebanhcpaaImg
import Derived.Test.YtncdcjebanhcpaaCrs
set_option linter.all false
set_option maxRecDepth 100000
set_option maxHeartbeats 400000
namespace Go.Proofs.Ytncdcjebanhcpaa
open Go.Am
variable {σ σ' : Store} {d m hm lm : Nat} {pv hv : Value} {s : DS} {F : List Nat} {Q : Value → Store → Prop}
def iC (l : List Int) : List Value := l.map (.int .i64)
/-! ## what is in a disk stays in it -/
end Go.Proofs.Ytncdcjebanhcpaa
