/- Rows of structs among arguments, lent. No program in sight. -/
import Derived.Test.YtchfpepbdnjhmaaLnd
set_option linter.all false
namespace Go.Am
open Go.ChangeShapes Go.WideShapes Go.ChangeAt Go.RowKit
def rowsL {β : Type} (f : Nat → List β) (n : Nat) : List β := (List.range n).flatMap f
theorem rowsL_succ {β : Type} (f : Nat → List β) (n : Nat) : rowsL f (n + 1) = rowsL f n ++ f n := by simp [rowsL, List.range_succ]
theorem rowsL_len {β : Type} {f : Nat → List β} {k : Nat} : ∀ n, (∀ i, i < n → (f i).length = k) → (rowsL f n).length = n * k
  | 0, _ => by simp [rowsL]
  | n + 1, hf => by rw [rowsL_succ, List.length_append, rowsL_len n (fun i hi => hf i (by omega)), hf n (by omega), Nat.succ_mul]
theorem rowsL_get {β : Type} {f : Nat → List β} {k : Nat} : ∀ n, (∀ i, i < n → (f i).length = k) → ∀ t, t < n * k → (rowsL f n)[t]? = (f (t / k))[t % k]?
  | 0, _, t, h => by simp at h
  | n + 1, hf, t, h => by
    have hl := rowsL_len n fun i hi => hf i (by omega)
    rw [rowsL_succ]
    by_cases ht : t < n * k
    · rw [List.getElem?_append_left (by omega), rowsL_get n (fun i hi => hf i (by omega)) t ht]
    · have e : (n + 1) * k = n * k + k := Nat.succ_mul _ _
      have hk : 0 < k := by omega
      have h1 : t / k = n := Nat.div_eq_of_lt_le (by omega) (by omega)
      have h2 : t % k = t - n * k := by rw [Nat.mod_eq_sub_div_mul, h1]
      rw [List.getElem?_append_right (by omega), hl, h1, h2]
theorem rowsL_at {β : Type} {f : Nat → List β} {k n i j : Nat} (hf : ∀ i, i < n → (f i).length = k) (hi : i < n) (hj : j < k) : (rowsL f n)[i * k + j]? = (f i)[j]? := by
  have h : i * k + j < n * k := by
    have := Nat.mul_le_mul_right k (show i + 1 ≤ n from hi)
    rw [Nat.succ_mul] at this; omega
  rw [rowsL_get n hf _ h]
  have h1 : (i * k + j) / k = i := Nat.div_eq_of_lt_le (by omega) (by rw [Nat.succ_mul]; omega)
  have h2 : (i * k + j) % k = j := by rw [Nat.mod_eq_sub_div_mul, h1]; omega
  rw [h1, h2]
/-- A slice of structs of k cells, some of these slices. -/
theorem lend_structs {w : World} {σ : Store} {M : Places} {b o k len cap : Nat} {fv : Nat → List Value} {fd : Nat → List Dsc} (hr : Rel M σ w) (ha : AllLent σ) (hb : b < w.heap.size) (hv : ∀ i, i < len → (fv i).length = k) (hd : ∀ i, i < len → (fd i).length = k)
    (hc : ∀ (i j : Nat) (v : Value), i < len → (fv i)[j]? = some v → w.cell? ⟨b, o + (i * k + j), none⟩ = some v) (hin : ∀ (i j : Nat) (v : Value) (d : Dsc), i < len → (fv i)[j]? = some v → (fd i)[j]? = some d → InC w v d) :
    ∃ (σ' : Store) (M' : Places) (us : List Value) (u : Value), Rel M' σ' w ∧ AllLent σ' ∧ Keeps σ σ' ∧ M.le M' ∧ VR M' true u (.slice (some ⟨b, o, none⟩) len cap) ∧ SlR σ' k u len us ∧ ∀ (i j : Nat) (v : Value) (d : Dsc), i < len → (fv i)[j]? = some v → (fd i)[j]? = some d → ∃ x, us[i * k + j]? = some x ∧ OutC σ' x v d := by
  have l1 := rowsL_len len hv
  have l2 := rowsL_len len hd
  have lt : ∀ t, t < len * k → t / k < len ∧ t % k < k := fun t ht => by
    have hk : 0 < k := by
      rcases Nat.eq_zero_or_pos k with h | h
      · subst h; simp at ht
      · exact h
    exact ⟨(Nat.div_lt_iff_lt_mul hk).2 ht, Nat.mod_lt _ hk⟩
  obtain ⟨σ', M', us, u, r1, a1, k1, m1, v1, l3, s1, o1⟩ := lend_slice (vs := rowsL fv len) (ds := rowsL fd len) (b := b) (o := o) (sz := k) (len := len) (cap := cap) hr ha hb l1 (by omega) (fun t v ht => by
    have htl : t < len * k := by have := (List.getElem?_eq_some_iff.1 ht).1; omega
    rw [rowsL_get len hv t htl] at ht
    have := hc _ _ v (lt t htl).1 ht
    rw [Nat.mul_comm, Nat.div_add_mod] at this
    exact this) (fun t v d ht hdt => by
    have htl : t < len * k := by have := (List.getElem?_eq_some_iff.1 ht).1; omega
    rw [rowsL_get len hv t htl] at ht
    rw [rowsL_get len hd t htl] at hdt
    exact hin _ _ v d (lt t htl).1 ht hdt)
  refine ⟨σ', M', us, u, r1, a1, k1, m1, v1, s1, fun i j v d hi hjv hjd => ?_⟩
  have hj : j < k := by have := (List.getElem?_eq_some_iff.1 hjv).1; rw [hv i hi] at this; exact this
  have e1 := rowsL_at hv hi hj
  have e2 := rowsL_at hd hi hj
  rw [hjv] at e1
  rw [hjd] at e2
  have hlt : i * k + j < us.length := by
    have := (List.getElem?_eq_some_iff.1 e1).1
    omega
  exact ⟨us[i * k + j], List.getElem?_eq_getElem hlt, o1 _ _ v d (List.getElem?_eq_getElem hlt) e1 e2⟩
theorem take_six {us : List Value} {t : Nat} {a b c d e f : Value} (h0 : us[t + 0]? = some a) (h1 : us[t + 1]? = some b) (h2 : us[t + 2]? = some c) (h3 : us[t + 3]? = some d) (h4 : us[t + 4]? = some e) (h5 : us[t + 5]? = some f) : (us.drop t).take 6 = [a, b, c, d, e, f] := by
  refine List.ext_getElem? fun j => ?_
  rw [List.getElem?_take]
  split
  · rw [List.getElem?_drop]
    match j with
    | 0 => exact h0
    | 1 => exact h1
    | 2 => exact h2
    | 3 => exact h3
    | 4 => exact h4
    | 5 => exact h5
    | j + 6 => omega
  · rename_i h
    rw [List.getElem?_eq_none (by simp; omega)]
theorem take_two {us : List Value} {t : Nat} {a b : Value} (h0 : us[t + 0]? = some a) (h1 : us[t + 1]? = some b) : (us.drop t).take 2 = [a, b] := by
  refine List.ext_getElem? fun j => ?_
  rw [List.getElem?_take]
  split
  · rw [List.getElem?_drop]
    match j with
    | 0 => exact h0
    | 1 => exact h1
    | j + 2 => omega
  · rename_i h
    rw [List.getElem?_eq_none (by simp; omega)]
end Go.Am
