/- Rows of structs among arguments, lent. No program in sight. -/
import Derived.Test.YthojojlgmaoecaaGreatLnd
set_option linter.all false
namespace Go.Am
open Go.ChangeShapes Go.WideShapes Go.ChangeAt Go.RowKit
def rowsL {β : Type} (f : Nat → List β) (n : Nat) : List β := (List.range n).flatMap f
theorem rowsL_succ {β : Type} (f : Nat → List β) (n : Nat) : rowsL f (n + 1) = rowsL f n ++ f n := by simp [rowsL, List.range_succ]
theorem rowsL_len {β : Type} {f : Nat → List β} {k : Nat} : ∀ n, (∀ i, i < n → (f i).length = k) → (rowsL f n).length = n * k
  | 0, _ => by simp [rowsL]
  | n + 1, hf => by rw [rowsL_succ, List.length_append, rowsL_len n (fun i hi => hf i (by omega)), hf n (by omega), Nat.succ_mul]
theorem rowsL_get {β : Type} {f : Nat → List β} {k : Nat} : ∀ n, (∀ i, i < n → (f i).length = k) → ∀ t, t < n * k → (rowsL f n)[t]? = (f (t / k))[t % k]?
  | 0, _, t, h => by simp at h
  | n + 1, hf, t, h => by
    have hl := rowsL_len n fun i hi => hf i (by omega)
    rw [rowsL_succ]
    by_cases ht : t < n * k
    · rw [List.getElem?_append_left (by omega), rowsL_get n (fun i hi => hf i (by omega)) t ht]
    · have e : (n + 1) * k = n * k + k := Nat.succ_mul _ _
      have hk : 0 < k := by omega
      have h1 : t / k = n := Nat.div_eq_of_lt_le (by omega) (by omega)
      have h2 : t % k = t - n * k := by rw [Nat.mod_eq_sub_div_mul, h1]
      rw [List.getElem?_append_right (by omega), hl, h1, h2]
end Go.Am
