/- Rows of cells among arguments, some of them slices: all of it lent. No program in sight. -/
import Derived.Test.YthojojlgmaoecaaGreatPly
set_option linter.all false
namespace Go.Am
open Go.ChangeShapes Go.WideShapes Go.ChangeAt Go.RowKit
/-- What a cell is: a scalar, or a slice of so many elements with these cells. -/
inductive Dsc where
  | sc
  | sl (n : Nat) (c : List Value)
def OutC (σ : Store) (u v : Value) : Dsc → Prop
  | .sc => u = v
  | .sl n c => (n = 0 ∧ c = [] ∧ (u = .slice none 0 0 ∨ u = hollow)) ∨ ∃ i cap, u = .slice (some ⟨i, 0, none⟩) n cap ∧ σ.get i = some (.lent c)
theorem OutC.keep {σ σ' : Store} {u v : Value} {d : Dsc} (h : OutC σ u v d) (k : Keeps σ σ') : OutC σ' u v d := by
  cases d with
  | sc => exact h
  | sl n c =>
    rcases h with h | ⟨i, cap, rfl, hi⟩
    · exact .inl h
    · exact .inr ⟨i, cap, rfl, k.get hi⟩
section
variable {w : World}
end
/-- A slice of one-cell elements, as it is read. -/
def ElV (σ : Store) (v : Value) (c : List Value) : Prop :=
  lenSl v = some (.int .i64 (c.length : Nat)) ∧ ∀ (i : Nat), i < c.length → ∃ a o, iaddrS 1 v (.int .i64 (i : Nat)) = some (.pointer (some ⟨a, o, none⟩)) ∧ a < σ.next ∧ rdOne (σ.get a) o = c[i]?
theorem ElV.of {σ : Store} {v : Value} {c : List Value} (h : SlR σ 1 v c.length c) : ElV σ v c := ⟨h.len, fun i hi => by
  obtain ⟨a, o, q1, q2, q3, q4⟩ := h.at (by decide) hi
  rw [Nat.mul_one] at q4
  exact ⟨a, o, q1 .i64, q2, q4⟩⟩
theorem ElV.keep {σ σ' : Store} {v : Value} {c : List Value} (h : ElV σ v c) (hg : ∀ i o, σ.get i = some o → σ'.get i = some o) (hn : σ.next ≤ σ'.next) : ElV σ' v c := ⟨h.1, fun i hi => by
  obtain ⟨a, o, q1, q2, q3⟩ := h.2 i hi
  refine ⟨a, o, q1, by omega, ?_⟩
  cases hx : σ.get a with
  | none =>
    rw [hx] at q3
    rw [List.getElem?_eq_getElem hi] at q3
    cases q3
  | some x => rw [hg a x hx, ← hx]; exact q3⟩
theorem OutC.el {σ : Store} {u v : Value} {c : List Value} (h : OutC σ u v (.sl c.length c)) : ElV σ u c := by
  rcases h with ⟨h0, h1, rfl | rfl⟩ | ⟨i, cap, rfl, hi⟩
  · rw [h1]; exact ⟨rfl, fun i hi => by simp at hi⟩
  · rw [h1]; exact ⟨rfl, fun i hi => by simp at hi⟩
  · exact ElV.of ⟨by simp, .inr ⟨i, 0, none, cap, .lent c, c, rfl, .inl rfl, hi, rfl, by rw [List.drop_zero, Nat.mul_one, List.take_length]⟩⟩
section
variable {H : Type} {enc : TypeId × Value → H} {P : Program} {w : World} {held : Bool} {t : TypeId} {v : Value}
end
end Go.Am
