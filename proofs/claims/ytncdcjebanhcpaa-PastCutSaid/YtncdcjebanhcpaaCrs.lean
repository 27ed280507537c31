/- The power goes: Crash with what is kept. -/
import Derived.Test.YtncdcjebanhcpaaOpq
set_option linter.all false
set_option maxRecDepth 100000
set_option maxHeartbeats 400000
namespace Go.Proofs.Ytncdcjebanhcpaa
open Go.Am
variable {σ σ' : Store} {d m hm lm : Nat} {pv hv : Value} {s : DS} {F : List Nat} {Q : Value → Store → Prop}
def bC (ks : List Bool) : List Value := ks.map .bool
end Go.Proofs.Ytncdcjebanhcpaa
