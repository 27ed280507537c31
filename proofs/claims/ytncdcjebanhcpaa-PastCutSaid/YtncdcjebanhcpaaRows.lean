/-
  No cell of these rows narrows 'for every input' (looked for: loops, veiled, ifaces, maps, wideKeys, modest, calm, conditions, laid).
  DERIVED. THE GIVEN ROWS OF THIS SEAT. 4 by the template 'for every input the law returns true; each argument reads behind the call as it read before'; 0 by the template 'total and deterministic' (their statements: YtncdcjebanhcpaaTotals.lean).
  GIVEN WITH THE SEED: the statements are not yours to turn. If you find one false, say at which input.
  Laid BY PROGRAM, IN A SANDBOX (cutbox-rows.mjs): the forced cells as the released guide's own fill.sh prints them over the translation d0dced8da05d3511… (all of the seat's roots in one cut). By AI agents, Wed Nov 11 2026. No macro, syntax, notation, axiom, sorry.
-/
import Derived.Test.YtncdcjebanhcpaaChecked
import GoSem.Claim
import GoSem.ClaimJoined
import GoSem.ClaimMapViews
import Derived.JoinedTies
import Derived.KernelRfl
namespace Go.Proofs.Ytncdcjebanhcpaa
/- THE CELL 'sum', in the pinned program and in every row, IS THE sha256 OF THE DUMP (.gsa) THAT YtncdcjebanhcpaaProg.lean LOADS. Nothing in Lean hashes anything: it is a label: what it is worth is what the hold of that sum in a sandbox is worth. -/
noncomputable def Try.pinned : Pinned := { name := "ytncdcjebanhcpaa", sum := "d0dced8da05d3511e84bc3c18ac08f009387d05d602202d5af63861e782a0641", checked := Try.checked }
namespace Rows
def none {H : Type} : Left H := { results := [], args := [] }

/-- 'undercroftlaw05.PastNames': WHATEVER THE INPUT: true; the input reads as it did. -/
def pastNamesSpec : ChangeSpec := { name := "pastNames", fn := fun _ => fun
  | [] => { results := [.lit (.bool true)], args := [] }
  | _ => none }
def pastNamesRow : OpenClaim := { program := "ytncdcjebanhcpaa", sum := "d0dced8da05d3511e84bc3c18ac08f009387d05d602202d5af63861e782a0641", func := "undercroft/undercroftlaw05.PastNames", spec := "pastNames", unfollowed := true, recurses := true, plainKeys := false, apart := false }
def PastNamesSaid : Prop := pastNamesRow.holds Try.pinned (OpenSpec.ofChange pastNamesSpec)

/-- ITS FALSE NEIGHBOUR: 'it returns false'. Refute it at one input. -/
def pastNamesWrong : ChangeSpec := { name := "pastNames", fn := fun _ => fun
  | [] => { results := [.lit (.bool false)], args := [] }
  | _ => none }
def PastNamesWrongFalsely : Prop := pastNamesRow.holds Try.pinned (OpenSpec.ofChange pastNamesWrong)

/-- 'undercroftlaw05.PastSome': WHATEVER THE INPUT: true; the input reads as it did. -/
def pastSomeSpec : ChangeSpec := { name := "pastSome", fn := fun _ => fun
  | [d] => { results := [.lit (.bool true)], args := [d] }
  | _ => none }
def pastSomeRow : OpenClaim := { program := "ytncdcjebanhcpaa", sum := "d0dced8da05d3511e84bc3c18ac08f009387d05d602202d5af63861e782a0641", func := "undercroft/undercroftlaw05.PastSome", spec := "pastSome", unfollowed := true, recurses := true, plainKeys := false, apart := false }
def PastSomeSaid : Prop := pastSomeRow.holds Try.pinned (OpenSpec.ofChange pastSomeSpec)

/-- ITS FALSE NEIGHBOUR: 'it returns false'. Refute it at one input. -/
def pastSomeWrong : ChangeSpec := { name := "pastSome", fn := fun _ => fun
  | [d] => { results := [.lit (.bool false)], args := [d] }
  | _ => none }
def PastSomeWrongFalsely : Prop := pastSomeRow.holds Try.pinned (OpenSpec.ofChange pastSomeWrong)

/-- 'undercroftlaw05.PastCut': WHATEVER THE INPUT: true; the input reads as it did. -/
def pastCutSpec : ChangeSpec := { name := "pastCut", fn := fun _ => fun
  | [d1, d2] => { results := [.lit (.bool true)], args := [d1, d2] }
  | _ => none }
def pastCutRow : OpenClaim := { program := "ytncdcjebanhcpaa", sum := "d0dced8da05d3511e84bc3c18ac08f009387d05d602202d5af63861e782a0641", func := "undercroft/undercroftlaw05.PastCut", spec := "pastCut", unfollowed := true, recurses := true, plainKeys := false, apart := false }
def PastCutSaid : Prop := pastCutRow.holds Try.pinned (OpenSpec.ofChange pastCutSpec)

/-- ITS FALSE NEIGHBOUR: 'it returns false'. Refute it at one input. -/
def pastCutWrong : ChangeSpec := { name := "pastCut", fn := fun _ => fun
  | [d1, d2] => { results := [.lit (.bool false)], args := [d1, d2] }
  | _ => none }
def PastCutWrongFalsely : Prop := pastCutRow.holds Try.pinned (OpenSpec.ofChange pastCutWrong)

/-- 'undercroftlaw05.PastSame': WHATEVER THE INPUT: true; the input reads as it did. -/
def pastSameSpec : ChangeSpec := { name := "pastSame", fn := fun _ => fun
  | [d1, d2, d3] => { results := [.lit (.bool true)], args := [d1, d2, d3] }
  | _ => none }
def pastSameRow : OpenClaim := { program := "ytncdcjebanhcpaa", sum := "d0dced8da05d3511e84bc3c18ac08f009387d05d602202d5af63861e782a0641", func := "undercroft/undercroftlaw05.PastSame", spec := "pastSame", unfollowed := true, recurses := true, plainKeys := false, apart := false }
def PastSameSaid : Prop := pastSameRow.holds Try.pinned (OpenSpec.ofChange pastSameSpec)

/-- ITS FALSE NEIGHBOUR: 'it returns false'. Refute it at one input. -/
def pastSameWrong : ChangeSpec := { name := "pastSame", fn := fun _ => fun
  | [d1, d2, d3] => { results := [.lit (.bool false)], args := [d1, d2, d3] }
  | _ => none }
def PastSameWrongFalsely : Prop := pastSameRow.holds Try.pinned (OpenSpec.ofChange pastSameWrong)

/- THE SECOND FORM. 'bulk': how many values and letters a reading holds, each counted each time it is reached (what is shared counts as often as it is met; a slice's spare places count too). A statement '..UptoSaid' is the law's where the arguments, and the package variables that the reading takes, are together of bulk at most 1048576: NARROWER than '..Said'. Prove '..Said' where nothing that the law and all that it calls make is longer than what came in: it says more and counts as full. Else prove '..UptoSaid'. A law counts once. -/
mutual
def uptoBulk {H : Type} : DataW H → Nat
  | .lit (.string bytes) => bytes.length + 1
  | .lit _ => 1
  | .nil => 1
  | .ptr d => uptoBulk d + 1
  | .slice elems spare => uptoBulkAll elems + uptoBulkAll spare + 1
  | .agg parts => uptoBulkAll parts + 1
  | .iface _ d => uptoBulk d + 1
  | .map entries => uptoBulkEntries entries + 1
  | .held _ => 1
def uptoBulkAll {H : Type} : List (DataW H) → Nat
  | [] => 0
  | d :: r => uptoBulk d + uptoBulkAll r
def uptoBulkEntries {H : Type} : List (Lit × DataW H) → Nat
  | [] => 0
  | x :: r => uptoBulkEntry x + uptoBulkEntries r
def uptoBulkEntry {H : Type} : Lit × DataW H → Nat
  | (.string bytes, d) => bytes.length + uptoBulk d + 1
  | (_, d) => uptoBulk d + 1
 end
def uptoSmall : (H : Type) → List (DataW H) → Bool := fun _ ds => decide (uptoBulkAll ds ≤ 1048576)
def OpenSpec.upto (s : _root_.Go.ChangeSpec) : _root_.Go.OpenSpec := { _root_.Go.OpenSpec.ofChange s with cond := some uptoSmall }

/-- 'undercroftlaw05.PastNames', WHERE WHAT IT READS IS OF BULK AT MOST 1048576: true; the input reads as it did. -/
def pastNamesUptoRow : OpenClaim := { program := "ytncdcjebanhcpaa", sum := "d0dced8da05d3511e84bc3c18ac08f009387d05d602202d5af63861e782a0641", func := "undercroft/undercroftlaw05.PastNames", spec := "pastNames", unfollowed := true, recurses := true, plainKeys := false, apart := false, narrowed := true }
def PastNamesUptoSaid : Prop := pastNamesUptoRow.holds Try.pinned (OpenSpec.upto pastNamesSpec)

/-- 'undercroftlaw05.PastSome', WHERE WHAT IT READS IS OF BULK AT MOST 1048576: true; the input reads as it did. -/
def pastSomeUptoRow : OpenClaim := { program := "ytncdcjebanhcpaa", sum := "d0dced8da05d3511e84bc3c18ac08f009387d05d602202d5af63861e782a0641", func := "undercroft/undercroftlaw05.PastSome", spec := "pastSome", unfollowed := true, recurses := true, plainKeys := false, apart := false, narrowed := true }
def PastSomeUptoSaid : Prop := pastSomeUptoRow.holds Try.pinned (OpenSpec.upto pastSomeSpec)

/-- 'undercroftlaw05.PastCut', WHERE WHAT IT READS IS OF BULK AT MOST 1048576: true; the input reads as it did. -/
def pastCutUptoRow : OpenClaim := { program := "ytncdcjebanhcpaa", sum := "d0dced8da05d3511e84bc3c18ac08f009387d05d602202d5af63861e782a0641", func := "undercroft/undercroftlaw05.PastCut", spec := "pastCut", unfollowed := true, recurses := true, plainKeys := false, apart := false, narrowed := true }
def PastCutUptoSaid : Prop := pastCutUptoRow.holds Try.pinned (OpenSpec.upto pastCutSpec)

/-- 'undercroftlaw05.PastSame', WHERE WHAT IT READS IS OF BULK AT MOST 1048576: true; the input reads as it did. -/
def pastSameUptoRow : OpenClaim := { program := "ytncdcjebanhcpaa", sum := "d0dced8da05d3511e84bc3c18ac08f009387d05d602202d5af63861e782a0641", func := "undercroft/undercroftlaw05.PastSame", spec := "pastSame", unfollowed := true, recurses := true, plainKeys := false, apart := false, narrowed := true }
def PastSameUptoSaid : Prop := pastSameUptoRow.holds Try.pinned (OpenSpec.upto pastSameSpec)

end Rows
end Go.Proofs.Ytncdcjebanhcpaa
