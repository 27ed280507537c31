/- A header's block says what was laid into it. No program in sight. -/
import Derived.Test.YtkmalbaollffiaaHead2
set_option linter.all false
set_option maxRecDepth 100000
namespace Go.Proofs.Ytkmalbaollffiaa
open Go.Am
theorem set32_get (b : List Int) (x : Nat) (y : Int) (j : Nat) : ∀ i, (set32 b x y i)[j]? = if x ≤ j ∧ j < x + i ∧ j < b.length then some (IntKind.u8.wrap (y.fdiv (2 ^ (8 * (j - x))))) else b[j]?
  | 0 => by rw [if_neg (by omega)]; rfl
  | i + 1 => by
    show ((set32 b x y i).set (x + i) _)[j]? = _
    rw [List.getElem?_set, set32_get b x y j i, set32_len]
    by_cases h : x + i = j
    · subst h
      rw [if_pos rfl]
      by_cases hl : x + i < b.length
      · rw [if_pos hl, if_pos (by omega), show x + i - x = i by omega]
      · rw [if_neg hl, if_neg (by omega), List.getElem?_eq_none (by omega)]
    · rw [if_neg h]
      by_cases h2 : x ≤ j ∧ j < x + i ∧ j < b.length
      · rw [if_pos h2, if_pos (by omega)]
      · rw [if_neg h2, if_neg (by omega)]
theorem u32at_get (b : List Int) (x : Nat) : u32at b x = (b.getD x 0).toNat + 256 * (b.getD (x + 1) 0).toNat + 65536 * (b.getD (x + 2) 0).toNat + 16777216 * (b.getD (x + 3) 0).toNat := by
  have key : ∀ i, i < 4 → (((b.drop x).take 4).map Int.toNat).getD i 0 = (b.getD (x + i) 0).toNat := fun i hi => by
    rw [List.getD_eq_getElem?_getD, List.getD_eq_getElem?_getD, List.getElem?_map, List.getElem?_take, if_pos hi, List.getElem?_drop]
    cases b[x + i]? <;> rfl
  unfold u32at u32
  rw [key 0 (by omega), key 1 (by omega), key 2 (by omega), key 3 (by omega)]
  rfl
theorem u32at_set {b : List Int} {x : Nat} {n : Int} (hx : x + 4 ≤ b.length) (h0 : 0 ≤ n) (h1 : n < 4294967296) : ((u32at (set32 b x n 4) x : Nat) : Int) = n := by
  have key : ∀ i, i < 4 → (set32 b x n 4).getD (x + i) 0 = n / (2 ^ (8 * i) : Nat) % 256 := fun i hi => by
    rw [List.getD_eq_getElem?_getD, set32_get, if_pos (by omega), Option.getD_some, u8_wrap, show x + i - x = i by omega]
    have e : ((2 : Int) ^ (8 * i)) = ((2 ^ (8 * i) : Nat) : Int) := by simp
    rw [e, Int.fdiv_eq_ediv_of_nonneg _ (Int.natCast_nonneg _)]
  have k0 := key 0 (by omega)
  have k1 := key 1 (by omega)
  have k2 := key 2 (by omega)
  have k3 := key 3 (by omega)
  simp only [Nat.mul_zero, Nat.add_zero, Nat.pow_zero] at k0
  rw [show (2 : Nat) ^ (8 * 1) = 256 from rfl] at k1
  rw [show (2 : Nat) ^ (8 * 2) = 65536 from rfl] at k2
  rw [show (2 : Nat) ^ (8 * 3) = 16777216 from rfl] at k3
  rw [u32at_get, k0, k1, k2, k3]
  omega
theorem u32at_other {b : List Int} {x z : Nat} {n : Int} (h : z + 4 ≤ x ∨ x + 4 ≤ z) : u32at (set32 b x n 4) z = u32at b z := by
  have key : ∀ i, i < 4 → (set32 b x n 4).getD (z + i) 0 = b.getD (z + i) 0 := fun i hi => by
    rw [List.getD_eq_getElem?_getD, List.getD_eq_getElem?_getD, set32_get, if_neg (by omega)]
  rw [u32at_get, u32at_get, key 1 (by omega), key 2 (by omega), key 3 (by omega)]
  rw [show (set32 b x n 4).getD z 0 = b.getD z 0 from key 0 (by omega)]
theorem head_n {l : List Int} (hl : l.length ≤ 255) : ∀ i, i ≤ l.length → u32at (headI l i) 0 = l.length
  | 0, _ => by
    have := u32at_set (b := zb) (x := 0) (n := IntKind.u32.wrap l.length) (by rw [zb_len]; omega) (by rw [u32_wrap (by omega) (by omega)]; omega) (by rw [u32_wrap (by omega) (by omega)]; omega)
    rw [u32_wrap (by omega) (by omega)] at this
    show u32at (set32 zb 0 (IntKind.u32.wrap l.length) 4) 0 = _
    rw [u32_wrap (by omega) (by omega)]
    omega
  | i + 1, h => by
    show u32at (set32 (headI l i) (4 * (i + 1)) _ 4) 0 = _
    rw [u32at_other (by omega), head_n hl i (by omega)]
theorem head_at {l : List Int} (hl : l.length ≤ 255) (hb : ∀ t ∈ l, 0 ≤ t ∧ t < 4294967296) {j : Nat} {t : Int} (hj : l[j]? = some t) : ∀ i, j < i → i ≤ l.length → ((u32at (headI l i) (4 * (j + 1)) : Nat) : Int) = t
  | 0, h, _ => by omega
  | i + 1, h, h2 => by
    show ((u32at (set32 (headI l i) (4 * (i + 1)) (IntKind.u32.wrap (l.getD i 0)) 4) (4 * (j + 1)) : Nat) : Int) = _
    by_cases e : j = i
    · subst e
      have ht := hb t (List.mem_of_getElem? hj)
      rw [List.getD_eq_getElem?_getD, hj, Option.getD_some, u32_wrap ht.1 ht.2]
      exact u32at_set (by rw [headI_len]; omega) ht.1 ht.2
    · rw [u32at_other (by omega)]
      exact head_at hl hb hj i (by omega) (by omega)
theorem decL_head {l : List Int} (hl : l.length ≤ 255) (hb : ∀ t ∈ l, 0 ≤ t ∧ t < 4294967296) : decL (headB l) = l := by
  have hn : u32at (headB l) 0 = l.length := head_n hl _ (Nat.le_refl _)
  refine List.ext_getElem? fun i => ?_
  by_cases h : i < l.length
  · obtain ⟨t, ht⟩ : ∃ t, l[i]? = some t := ⟨_, List.getElem?_eq_getElem h⟩
    rw [decL_get (by omega), ht]
    exact congrArg some (head_at hl hb ht _ h (Nat.le_refl _))
  · rw [List.getElem?_eq_none (by rw [decL_len]; omega), List.getElem?_eq_none (by omega)]
theorem set32_bytes {b : List Int} (h : BytesOk b) (x : Nat) (y : Int) : ∀ i, BytesOk (set32 b x y i)
  | 0 => h
  | i + 1 => fun v hv => by
    rcases List.mem_or_eq_of_mem_set hv with hv | hv
    · exact set32_bytes h x y i v hv
    · rw [hv, u8_wrap]; omega
theorem headI_bytes (l : List Int) : ∀ i, BytesOk (headI l i)
  | 0 => set32_bytes zb_bytes _ _ _
  | i + 1 => set32_bytes (headI_bytes l i) _ _ _
theorem headB_bytes (l : List Int) : BytesOk (headB l) := headI_bytes l _
end Go.Proofs.Ytkmalbaollffiaa
