/-
  No cell of these rows narrows 'for every input' (looked for: loops, veiled, ifaces, maps, wideKeys, modest, calm, conditions, laid).
  DERIVED. THE GIVEN ROWS OF THIS SEAT. 3 by the template 'for every input the law returns true; each argument reads behind the call as it read before'; 0 by the template 'total and deterministic' (their statements: YtlogocelkpmkbaaTotals.lean).
  GIVEN WITH THE SEED: the statements are not yours to turn. If you find one false, say at which input.
  Laid BY PROGRAM, IN A SANDBOX (cutbox-rows.mjs): the forced cells as the released guide's own fill.sh prints them over the translation 161883cdaf98e2d2… (all of the seat's roots in one cut). By AI agents, Wed Nov 11 2026. No macro, syntax, notation, axiom, sorry.
-/
import Derived.Test.YtlogocelkpmkbaaChecked
import GoSem.Claim
import GoSem.ClaimJoined
import GoSem.ClaimMapViews
import Derived.JoinedTies
import Derived.KernelRfl
namespace Go.Proofs.Ytlogocelkpmkbaa
/- THE CELL 'sum', in the pinned program and in every row, IS THE sha256 OF THE DUMP (.gsa) THAT YtlogocelkpmkbaaProg.lean LOADS. Nothing in Lean hashes anything: it is a label: what it is worth is what the hold of that sum in a sandbox is worth. -/
noncomputable def Try.pinned : Pinned := { name := "ytlogocelkpmkbaa", sum := "161883cdaf98e2d260bcc7cef255c6721ca8901a36d59471639f798259df5310", checked := Try.checked }
namespace Rows
def none {H : Type} : Left H := { results := [], args := [] }

/-- 'undercroftlaw08.WalCommit': WHATEVER THE INPUT: true; the input reads as it did. -/
def walCommitSpec : ChangeSpec := { name := "walCommit", fn := fun _ => fun
  | [d1, d2] => { results := [.lit (.bool true)], args := [d1, d2] }
  | _ => none }
def walCommitRow : OpenClaim := { program := "ytlogocelkpmkbaa", sum := "161883cdaf98e2d260bcc7cef255c6721ca8901a36d59471639f798259df5310", func := "undercroft/undercroftlaw08.WalCommit", spec := "walCommit", unfollowed := true, recurses := true, apart := false }
def WalCommitSaid : Prop := walCommitRow.holds Try.pinned (OpenSpec.ofChange walCommitSpec)

/-- ITS FALSE NEIGHBOUR: 'it returns false'. Refute it at one input. -/
def walCommitWrong : ChangeSpec := { name := "walCommit", fn := fun _ => fun
  | [d1, d2] => { results := [.lit (.bool false)], args := [d1, d2] }
  | _ => none }
def WalCommitWrongFalsely : Prop := walCommitRow.holds Try.pinned (OpenSpec.ofChange walCommitWrong)

/-- 'undercroftlaw08.WalStep': WHATEVER THE INPUT: true; the input reads as it did. -/
def walStepSpec : ChangeSpec := { name := "walStep", fn := fun _ => fun
  | [d1, d2, d3] => { results := [.lit (.bool true)], args := [d1, d2, d3] }
  | _ => none }
def walStepRow : OpenClaim := { program := "ytlogocelkpmkbaa", sum := "161883cdaf98e2d260bcc7cef255c6721ca8901a36d59471639f798259df5310", func := "undercroft/undercroftlaw08.WalStep", spec := "walStep", unfollowed := true, recurses := true, apart := false }
def WalStepSaid : Prop := walStepRow.holds Try.pinned (OpenSpec.ofChange walStepSpec)

/-- ITS FALSE NEIGHBOUR: 'it returns false'. Refute it at one input. -/
def walStepWrong : ChangeSpec := { name := "walStep", fn := fun _ => fun
  | [d1, d2, d3] => { results := [.lit (.bool false)], args := [d1, d2, d3] }
  | _ => none }
def WalStepWrongFalsely : Prop := walStepRow.holds Try.pinned (OpenSpec.ofChange walStepWrong)

/-- 'undercroftlaw08.WalNames': WHATEVER THE INPUT: true; the input reads as it did. -/
def walNamesSpec : ChangeSpec := { name := "walNames", fn := fun _ => fun
  | [] => { results := [.lit (.bool true)], args := [] }
  | _ => none }
def walNamesRow : OpenClaim := { program := "ytlogocelkpmkbaa", sum := "161883cdaf98e2d260bcc7cef255c6721ca8901a36d59471639f798259df5310", func := "undercroft/undercroftlaw08.WalNames", spec := "walNames", unfollowed := true, recurses := true, apart := false }
def WalNamesSaid : Prop := walNamesRow.holds Try.pinned (OpenSpec.ofChange walNamesSpec)

/-- ITS FALSE NEIGHBOUR: 'it returns false'. Refute it at one input. -/
def walNamesWrong : ChangeSpec := { name := "walNames", fn := fun _ => fun
  | [] => { results := [.lit (.bool false)], args := [] }
  | _ => none }
def WalNamesWrongFalsely : Prop := walNamesRow.holds Try.pinned (OpenSpec.ofChange walNamesWrong)

/- THE SECOND FORM. 'bulk': how many values and letters a reading holds, each counted each time it is reached (what is shared counts as often as it is met; a slice's spare places count too). A statement '..UptoSaid' is the law's where the arguments, and the package variables that the reading takes, are together of bulk at most 1048576: NARROWER than '..Said'. Prove '..Said' where nothing that the law and all that it calls make is longer than what came in: it says more and counts as full. Else prove '..UptoSaid'. A law counts once. -/
mutual
def uptoBulk {H : Type} : DataW H → Nat
  | .lit (.string bytes) => bytes.length + 1
  | .lit _ => 1
  | .nil => 1
  | .ptr d => uptoBulk d + 1
  | .slice elems spare => uptoBulkAll elems + uptoBulkAll spare + 1
  | .agg parts => uptoBulkAll parts + 1
  | .iface _ d => uptoBulk d + 1
  | .map entries => uptoBulkEntries entries + 1
  | .held _ => 1
def uptoBulkAll {H : Type} : List (DataW H) → Nat
  | [] => 0
  | d :: r => uptoBulk d + uptoBulkAll r
def uptoBulkEntries {H : Type} : List (Lit × DataW H) → Nat
  | [] => 0
  | x :: r => uptoBulkEntry x + uptoBulkEntries r
def uptoBulkEntry {H : Type} : Lit × DataW H → Nat
  | (.string bytes, d) => bytes.length + uptoBulk d + 1
  | (_, d) => uptoBulk d + 1
 end
def uptoSmall : (H : Type) → List (DataW H) → Bool := fun _ ds => decide (uptoBulkAll ds ≤ 1048576)
def OpenSpec.upto (s : _root_.Go.ChangeSpec) : _root_.Go.OpenSpec := { _root_.Go.OpenSpec.ofChange s with cond := some uptoSmall }

/-- 'undercroftlaw08.WalCommit', WHERE WHAT IT READS IS OF BULK AT MOST 1048576: true; the input reads as it did. -/
def walCommitUptoRow : OpenClaim := { program := "ytlogocelkpmkbaa", sum := "161883cdaf98e2d260bcc7cef255c6721ca8901a36d59471639f798259df5310", func := "undercroft/undercroftlaw08.WalCommit", spec := "walCommit", unfollowed := true, recurses := true, apart := false, narrowed := true }
def WalCommitUptoSaid : Prop := walCommitUptoRow.holds Try.pinned (OpenSpec.upto walCommitSpec)

/-- 'undercroftlaw08.WalStep', WHERE WHAT IT READS IS OF BULK AT MOST 1048576: true; the input reads as it did. -/
def walStepUptoRow : OpenClaim := { program := "ytlogocelkpmkbaa", sum := "161883cdaf98e2d260bcc7cef255c6721ca8901a36d59471639f798259df5310", func := "undercroft/undercroftlaw08.WalStep", spec := "walStep", unfollowed := true, recurses := true, apart := false, narrowed := true }
def WalStepUptoSaid : Prop := walStepUptoRow.holds Try.pinned (OpenSpec.upto walStepSpec)

/-- 'undercroftlaw08.WalNames', WHERE WHAT IT READS IS OF BULK AT MOST 1048576: true; the input reads as it did. -/
def walNamesUptoRow : OpenClaim := { program := "ytlogocelkpmkbaa", sum := "161883cdaf98e2d260bcc7cef255c6721ca8901a36d59471639f798259df5310", func := "undercroft/undercroftlaw08.WalNames", spec := "walNames", unfollowed := true, recurses := true, apart := false, narrowed := true }
def WalNamesUptoSaid : Prop := walNamesUptoRow.holds Try.pinned (OpenSpec.upto walNamesSpec)

end Rows
end Go.Proofs.Ytlogocelkpmkbaa
