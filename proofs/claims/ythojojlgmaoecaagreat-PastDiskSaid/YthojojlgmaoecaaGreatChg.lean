/- Lists of changes: a place and a byte each, in cells. No program in sight. -/
import Derived.Test.YthojojlgmaoecaaGreatRd
set_option linter.all false
namespace Go.Am
open Go.ChangeShapes Go.WideShapes Go.ChangeAt Go.RowKit
def chgC : List (Int × Int) → List Value
  | [] => []
  | p :: l => .int .i64 p.1 :: .int .u8 p.2 :: chgC l
section
variable {H : Type} {enc : TypeId × Value → H} {P : Program} {w : World} {spare : Nat → Bool} {held : Bool} {r : Reach} {b0 : Nat} {t : TypeId} {v : Value} {d : DataW H} {ps : List MemPlace}
theorem add_none (b o n : Nat) : Addr.add ⟨b, o, none⟩ n = ⟨b, o + n, none⟩ := by
  unfold Addr.add
  by_cases h : n = 0
  · subst h; rfl
  · rw [if_neg h]
theorem cells_get {b o n : Nat} {cs : List Value} (h : w.cells? 0 ⟨b, o, none⟩ n = some cs) {i : Nat} {x : Value} (hx : cs[i]? = some x) : w.cell? ⟨b, o + i, none⟩ = some x := by
  unfold World.cells? at h
  rw [if_pos (Nat.zero_le _)] at h
  have key : ∀ (l : List Nat) (cs : List Value) (i : Nat) (x : Value), l.mapM (fun i => w.cell? (Addr.add ⟨b, o, none⟩ i)) = some cs → cs[i]? = some x → ∃ k, l[i]? = some k ∧ w.cell? (Addr.add ⟨b, o, none⟩ k) = some x := fun l => by
    induction l with
    | nil => intro cs i x h hx; simp at h; subst h; simp at hx
    | cons k l ih =>
      intro cs i x h hx
      rw [List.mapM_cons] at h
      cases h1 : w.cell? (Addr.add ⟨b, o, none⟩ k) with
      | none => rw [h1] at h; simp at h
      | some y =>
        rw [h1] at h
        cases h2 : l.mapM (fun i => w.cell? (Addr.add ⟨b, o, none⟩ i)) with
        | none => rw [h2] at h; simp at h
        | some ys =>
          rw [h2] at h
          simp at h
          subst h
          cases i with
          | zero => simp at hx; subst hx; exact ⟨k, rfl, h1⟩
          | succ i => exact ih ys i x h2 (by simpa using hx)
  obtain ⟨k, hk, hc⟩ := key _ _ _ _ h hx
  have hi : i < n := by
    rcases Nat.lt_or_ge i n with h0 | h0
    · exact h0
    · rw [List.getElem?_eq_none (by simpa using h0)] at hk; cases hk
  rw [List.getElem?_range hi] at hk
  cases hk
  rw [add_none] at hc
  exact hc
end
end Go.Am
