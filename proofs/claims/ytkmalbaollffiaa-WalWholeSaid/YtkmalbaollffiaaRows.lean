/-
  No cell of these rows narrows 'for every input' (looked for: loops, veiled, ifaces, maps, wideKeys, modest, calm, conditions, laid).
  DERIVED. THE GIVEN ROWS OF THIS SEAT. 3 by the template 'for every input the law returns true; each argument reads behind the call as it read before'; 0 by the template 'total and deterministic' (their statements: YtkmalbaollffiaaTotals.lean).
  GIVEN WITH THE SEED: the statements are not yours to turn. If you find one false, say at which input.
  Laid BY PROGRAM, IN A SANDBOX (cutbox-rows.mjs): the forced cells as the released guide's own fill.sh prints them over the translation 1533b0b939826014… (all of the seat's roots in one cut). By AI agents, Wed Nov 11 2026. No macro, syntax, notation, axiom, sorry.
-/
import Derived.Test.YtkmalbaollffiaaChecked
import GoSem.Claim
import GoSem.ClaimJoined
import GoSem.ClaimMapViews
import Derived.JoinedTies
import Derived.KernelRfl
namespace Go.Proofs.Ytkmalbaollffiaa
/- THE CELL 'sum', in the pinned program and in every row, IS THE sha256 OF THE DUMP (.gsa) THAT YtkmalbaollffiaaProg.lean LOADS. Nothing in Lean hashes anything: it is a label: what it is worth is what the hold of that sum in a sandbox is worth. -/
noncomputable def Try.pinned : Pinned := { name := "ytkmalbaollffiaa", sum := "1533b0b93982601459b88d82ed176ad1f9427e5b8bbe84b35e3866951fcff299", checked := Try.checked }
namespace Rows
def none {H : Type} : Left H := { results := [], args := [] }

/-- 'undercroftlaw08.WalGroups': WHATEVER THE INPUT: true; the input reads as it did. -/
def walGroupsSpec : ChangeSpec := { name := "walGroups", fn := fun _ => fun
  | [d] => { results := [.lit (.bool true)], args := [d] }
  | _ => none }
def walGroupsRow : OpenClaim := { program := "ytkmalbaollffiaa", sum := "1533b0b93982601459b88d82ed176ad1f9427e5b8bbe84b35e3866951fcff299", func := "undercroft/undercroftlaw08.WalGroups", spec := "walGroups", unfollowed := true, recurses := true, apart := false }
def WalGroupsSaid : Prop := walGroupsRow.holds Try.pinned (OpenSpec.ofChange walGroupsSpec)

/-- ITS FALSE NEIGHBOUR: 'it returns false'. Refute it at one input. -/
def walGroupsWrong : ChangeSpec := { name := "walGroups", fn := fun _ => fun
  | [d] => { results := [.lit (.bool false)], args := [d] }
  | _ => none }
def WalGroupsWrongFalsely : Prop := walGroupsRow.holds Try.pinned (OpenSpec.ofChange walGroupsWrong)

/-- 'undercroftlaw08.WalWhole': WHATEVER THE INPUT: true; the input reads as it did. -/
def walWholeSpec : ChangeSpec := { name := "walWhole", fn := fun _ => fun
  | [d] => { results := [.lit (.bool true)], args := [d] }
  | _ => none }
def walWholeRow : OpenClaim := { program := "ytkmalbaollffiaa", sum := "1533b0b93982601459b88d82ed176ad1f9427e5b8bbe84b35e3866951fcff299", func := "undercroft/undercroftlaw08.WalWhole", spec := "walWhole", unfollowed := true, recurses := true, apart := false }
def WalWholeSaid : Prop := walWholeRow.holds Try.pinned (OpenSpec.ofChange walWholeSpec)

/-- ITS FALSE NEIGHBOUR: 'it returns false'. Refute it at one input. -/
def walWholeWrong : ChangeSpec := { name := "walWhole", fn := fun _ => fun
  | [d] => { results := [.lit (.bool false)], args := [d] }
  | _ => none }
def WalWholeWrongFalsely : Prop := walWholeRow.holds Try.pinned (OpenSpec.ofChange walWholeWrong)

/-- 'undercroftlaw08.WalSynced': WHATEVER THE INPUT: true; the input reads as it did. -/
def walSyncedSpec : ChangeSpec := { name := "walSynced", fn := fun _ => fun
  | [d] => { results := [.lit (.bool true)], args := [d] }
  | _ => none }
def walSyncedRow : OpenClaim := { program := "ytkmalbaollffiaa", sum := "1533b0b93982601459b88d82ed176ad1f9427e5b8bbe84b35e3866951fcff299", func := "undercroft/undercroftlaw08.WalSynced", spec := "walSynced", unfollowed := true, recurses := true, apart := false }
def WalSyncedSaid : Prop := walSyncedRow.holds Try.pinned (OpenSpec.ofChange walSyncedSpec)

/-- ITS FALSE NEIGHBOUR: 'it returns false'. Refute it at one input. -/
def walSyncedWrong : ChangeSpec := { name := "walSynced", fn := fun _ => fun
  | [d] => { results := [.lit (.bool false)], args := [d] }
  | _ => none }
def WalSyncedWrongFalsely : Prop := walSyncedRow.holds Try.pinned (OpenSpec.ofChange walSyncedWrong)

/- THE SECOND FORM. 'bulk': how many values and letters a reading holds, each counted each time it is reached (what is shared counts as often as it is met; a slice's spare places count too). A statement '..UptoSaid' is the law's where the arguments, and the package variables that the reading takes, are together of bulk at most 1048576: NARROWER than '..Said'. Prove '..Said' where nothing that the law and all that it calls make is longer than what came in: it says more and counts as full. Else prove '..UptoSaid'. A law counts once. -/
mutual
def uptoBulk {H : Type} : DataW H → Nat
  | .lit (.string bytes) => bytes.length + 1
  | .lit _ => 1
  | .nil => 1
  | .ptr d => uptoBulk d + 1
  | .slice elems spare => uptoBulkAll elems + uptoBulkAll spare + 1
  | .agg parts => uptoBulkAll parts + 1
  | .iface _ d => uptoBulk d + 1
  | .map entries => uptoBulkEntries entries + 1
  | .held _ => 1
def uptoBulkAll {H : Type} : List (DataW H) → Nat
  | [] => 0
  | d :: r => uptoBulk d + uptoBulkAll r
def uptoBulkEntries {H : Type} : List (Lit × DataW H) → Nat
  | [] => 0
  | x :: r => uptoBulkEntry x + uptoBulkEntries r
def uptoBulkEntry {H : Type} : Lit × DataW H → Nat
  | (.string bytes, d) => bytes.length + uptoBulk d + 1
  | (_, d) => uptoBulk d + 1
 end
def uptoSmall : (H : Type) → List (DataW H) → Bool := fun _ ds => decide (uptoBulkAll ds ≤ 1048576)
def OpenSpec.upto (s : _root_.Go.ChangeSpec) : _root_.Go.OpenSpec := { _root_.Go.OpenSpec.ofChange s with cond := some uptoSmall }

/-- 'undercroftlaw08.WalGroups', WHERE WHAT IT READS IS OF BULK AT MOST 1048576: true; the input reads as it did. -/
def walGroupsUptoRow : OpenClaim := { program := "ytkmalbaollffiaa", sum := "1533b0b93982601459b88d82ed176ad1f9427e5b8bbe84b35e3866951fcff299", func := "undercroft/undercroftlaw08.WalGroups", spec := "walGroups", unfollowed := true, recurses := true, apart := false, narrowed := true }
def WalGroupsUptoSaid : Prop := walGroupsUptoRow.holds Try.pinned (OpenSpec.upto walGroupsSpec)

/-- 'undercroftlaw08.WalWhole', WHERE WHAT IT READS IS OF BULK AT MOST 1048576: true; the input reads as it did. -/
def walWholeUptoRow : OpenClaim := { program := "ytkmalbaollffiaa", sum := "1533b0b93982601459b88d82ed176ad1f9427e5b8bbe84b35e3866951fcff299", func := "undercroft/undercroftlaw08.WalWhole", spec := "walWhole", unfollowed := true, recurses := true, apart := false, narrowed := true }
def WalWholeUptoSaid : Prop := walWholeUptoRow.holds Try.pinned (OpenSpec.upto walWholeSpec)

/-- 'undercroftlaw08.WalSynced', WHERE WHAT IT READS IS OF BULK AT MOST 1048576: true; the input reads as it did. -/
def walSyncedUptoRow : OpenClaim := { program := "ytkmalbaollffiaa", sum := "1533b0b93982601459b88d82ed176ad1f9427e5b8bbe84b35e3866951fcff299", func := "undercroft/undercroftlaw08.WalSynced", spec := "walSynced", unfollowed := true, recurses := true, apart := false, narrowed := true }
def WalSyncedUptoSaid : Prop := walSyncedUptoRow.holds Try.pinned (OpenSpec.upto walSyncedSpec)

end Rows
end Go.Proofs.Ytkmalbaollffiaa
