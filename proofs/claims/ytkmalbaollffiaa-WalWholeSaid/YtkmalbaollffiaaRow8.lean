/- What the rows of chapter 08 share. -/
import Derived.Test.YtkmalbaollffiaaRd
import Derived.Test.YtkmalbaollffiaaChg
import Derived.Test.YtkmalbaollffiaaRows
import Derived.Test.YtkmalbaollffiaaShape8
import Derived.Test.YtkmalbaollffiaaAm34
set_option linter.all false
set_option maxRecDepth 100000
namespace Go.Proofs.Ytkmalbaollffiaa
open Go.ChangeShapes Go.WideShapes Go.ChangeAt Go.RowKit Go.Am
theorem own : ownKnob Try.prog.godebug = none := by kernel_rfl
theorem laidOut : laidOutB Try.prog = true := by kernel_rfl
theorem geo_fields : ∃ f0 f1 f2 : Field, Try.prog.underlying 23 = some (.struct #[f0, f1, f2]) ∧ (f0.offset = 0 ∧ Try.prog.cellsOf f0.type = 1 ∧ f0.type = 3) ∧ (f1.offset = 1 ∧ Try.prog.cellsOf f1.type = 1 ∧ f1.type = 3) ∧ (f2.offset = 2 ∧ Try.prog.cellsOf f2.type = 1 ∧ f2.type = 3) :=
  ⟨_, _, _, Try.underlying23, ⟨rfl, by kernel_rfl, rfl⟩, ⟨rfl, by kernel_rfl, rfl⟩, ⟨rfl, by kernel_rfl, rfl⟩⟩
/-- A geometry, in cells. -/
theorem rd_geo {H : Type} {enc : TypeId × Value → H} {w : World} {base : Nat} {spare : Nat → Bool} {held : Bool} {cs : List Value} {fuel : Nat} {x : DataW H × List MemPlace} (h : DataW.trod enc Try.prog w base spare held fuel 23 cs = some x) :
    ∃ g : Geo, cs = ic g.cells ∧ ∀ v ∈ g.cells, -9223372036854775808 ≤ v ∧ v ≤ 9223372036854775807 := by
  obtain ⟨f0, f1, f2, ht, h0, h1, h2⟩ := geo_fields
  have hi : Try.prog.underlying 3 = some (.int .i64) := Try.underlying3
  obtain ⟨b, e1, e2, e3⟩ := rd_nums (fs := #[f0, f1, f2]) ht (fun i f hf => by
    match i with
    | 0 => simp at hf; subst hf; exact ⟨h0.1, h0.2.1, by rw [h0.2.2]; exact hi⟩
    | 1 => simp at hf; subst hf; exact ⟨h1.1, h1.2.1, by rw [h1.2.2]; exact hi⟩
    | 2 => simp at hf; subst hf; exact ⟨h2.1, h2.2.1, by rw [h2.2.2]; exact hi⟩
    | i + 3 => simp at hf) (by kernel_rfl) h
  match b, e2 with
  | [p, q, r], _ => exact ⟨⟨p, q, r⟩, e1, e3⟩
theorem chg_fields : ∃ f0 f1 : Field, Try.prog.underlying 43 = some (.struct #[f0, f1]) ∧ (f0.offset = 0 ∧ Try.prog.cellsOf f0.type = 1 ∧ f0.type = 3) ∧ (f1.offset = 1 ∧ Try.prog.cellsOf f1.type = 1 ∧ f1.type = 5) :=
  ⟨_, _, Try.underlying43, ⟨rfl, by kernel_rfl, rfl⟩, ⟨rfl, by kernel_rfl, rfl⟩⟩
end Go.Proofs.Ytkmalbaollffiaa
