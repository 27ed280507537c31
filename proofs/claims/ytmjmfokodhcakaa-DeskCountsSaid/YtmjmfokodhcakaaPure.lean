/- What is asked of a desk's counts, in plain lists: no program. -/
import Derived.Test.YtmjmfokodhcakaaUmap
namespace Go.Proofs.Ytmjmfokodhcakaa
open Go.Uc

/-- what stands at a key; 0, if nothing does -/
def dc (m : List (Int × Int)) (x : Int) : Int := (mget m x).getD 0
def cnt (l : List Int) : Nat := (l.filter (fun v => decide (0 < v))).length
structure Inv (most : Int) (m : List (Int × Int)) (l : List Int) (k : Nat) : Prop where
  len : l.length = 20
  zero : l.getD 0 0 = 0
  low : ∀ j, 0 ≤ l.getD j 0
  high : ∀ j, l.getD j 0 ≤ k
  get : ∀ x : Int, mget m x = if 1 ≤ x ∧ 0 < l.getD x.toNat 0 then some (l.getD x.toNat 0) else none
  size : m.length = cnt l
  most : (m.length : Int) ≤ most

theorem cnt_set (l : List Int) (i : Nat) (v : Int) (h : i < l.length) : cnt (l.set i v) + (if 0 < l.getD i 0 then 1 else 0) = cnt l + (if 0 < v then 1 else 0) := by
  unfold cnt
  induction l generalizing i with
  | nil => simp at h
  | cons a l ih =>
    cases i with
    | zero =>
      simp only [List.set_cons_zero, List.filter_cons, List.getD_cons_zero]
      by_cases h1 : 0 < a <;> by_cases h2 : 0 < v <;> simp [h1, h2]
    | succ i =>
      have := ih i (by simpa using h)
      simp only [List.set_cons_succ, List.filter_cons, List.getD_cons_succ]
      by_cases h1 : 0 < a <;> simp [h1] <;> simp at this <;> omega
theorem getD_set (l : List Int) (i j : Nat) (v : Int) (h : i < l.length) : (l.set i v).getD j 0 = if i = j then v else l.getD j 0 := by
  by_cases e : i = j
  · subst e; simp [h]
  · simp [e]

section
variable {most : Int} {m : List (Int × Int)} {l : List Int} {k : Nat}
theorem Inv.dc_eq (h : Inv most m l k) (j : Nat) (hj : 1 ≤ j) : dc m (j : Int) = l.getD j 0 := by
  unfold dc
  rw [h.get]
  have := h.low j
  simp only [Int.toNat_natCast]
  split
  · rfl
  · simp only [Option.getD_none]; omega
theorem Inv.start (h : 0 ≤ most) (k : Nat) : Inv most [] (List.replicate 20 0) k := by
  have e : ∀ j, (List.replicate 20 (0 : Int)).getD j 0 = 0 := by intro j; rw [List.getD_eq_getElem?_getD, List.getElem?_replicate]; split <;> rfl
  exact ⟨by simp, e 0, fun j => by rw [e]; omega, fun j => by rw [e]; omega, fun x => by rw [e]; simp [mget_nil], by simp [cnt], by simpa using h⟩
theorem Inv.more (h : Inv most m l k) : Inv most m l (k + 1) := ⟨h.len, h.zero, h.low, fun j => by have := h.high j; omega, h.get, h.size, h.most⟩
theorem Inv.mem (h : Inv most m l k) (j : Nat) (hj : 1 ≤ j) : (j : Int) ∈ mkeys m ↔ 0 < l.getD j 0 := by
  rw [mem_mkeys, h.get]
  simp only [Int.toNat_natCast]
  constructor
  · rintro ⟨v, hv⟩; split at hv
    · rename_i h; exact h.2
    · cases hv
  · intro hv; exact ⟨_, by rw [if_pos ⟨by omega, hv⟩]⟩
theorem Inv.set (h : Inv most m l k) (j : Nat) (hj : 1 ≤ j) (hj' : j < 20) (c : Int) (hc : 0 < c) (hk : c ≤ (k : Int) + 1) (hm : 0 < l.getD j 0 ∨ (m.length : Int) < most) : Inv most (mset m (j : Int) c) (l.set j c) (k + 1) := by
  have hl : j < l.length := by rw [h.len]; exact hj'
  have g := fun i => getD_set l j i c hl
  have hc2 := cnt_set l j c hl
  have hmem := h.mem j hj
  have hlen := length_mset m (j : Int) c
  have hsz := h.size
  refine ⟨by simp [h.len], by rw [g, if_neg (by omega)]; exact h.zero, ?_, ?_, ?_, ?_, ?_⟩
  · intro i; rw [g]; have := h.low i; split <;> omega
  · intro i; rw [g]; have := h.high i; split <;> omega
  · intro x
    rw [mget_mset, h.get, g]
    by_cases hx : x = j
    · subst hx; simp; omega
    · rw [if_neg hx]
      by_cases hx1 : 1 ≤ x
      · have e : ¬ j = x.toNat := by omega
        simp only [e, if_false]
      · rw [if_neg (by omega), if_neg (by omega)]
  · rw [hlen]
    by_cases hp : 0 < l.getD j 0
    · rw [if_pos (hmem.2 hp)]; rw [if_pos hp, if_pos hc] at hc2; omega
    · rw [if_neg (fun e => hp (hmem.1 e))]; rw [if_neg hp, if_pos hc] at hc2; omega
  · rw [hlen]
    have := h.most
    split
    · exact this
    · rename_i hn
      rcases hm with hm | hm
      · exact absurd (hmem.2 hm) hn
      · omega
theorem Inv.del (h : Inv most m l k) (hd : (mkeys m).Nodup) (j : Nat) (hj : 1 ≤ j) (hj' : j < 20) (hp : 0 < l.getD j 0) : Inv most (mdel (mset m (j : Int) 0) (j : Int)) (l.set j 0) (k + 1) := by
  have hl : j < l.length := by rw [h.len]; exact hj'
  have g := fun i => getD_set l j i 0 hl
  have hc2 := cnt_set l j 0 hl
  have hmem := h.mem j hj
  have hsz := h.size
  have hlen : (mdel (mset m (j : Int) 0) (j : Int)).length = m.length - 1 := by
    rw [length_mdel, mkeys_mset, if_pos (hmem.2 hp), if_pos (hmem.2 hp), length_mset, if_pos (hmem.2 hp)]
  refine ⟨by simp [h.len], by rw [g, if_neg (by omega)]; exact h.zero, ?_, ?_, ?_, ?_, ?_⟩
  · intro i; rw [g]; have := h.low i; split <;> omega
  · intro i; rw [g]; have := h.high i; split <;> omega
  · intro x
    rw [mget_mdel (mset_nodup hd _ _), mget_mset, h.get, g]
    by_cases hx : x = j
    · subst hx; simp
    · rw [if_neg hx, if_neg hx]
      by_cases hx1 : 1 ≤ x
      · have e : ¬ j = x.toNat := by omega
        simp only [e, if_false]
      · rw [if_neg (by omega), if_neg (by omega)]
  · rw [hlen]; rw [if_pos hp] at hc2; simp at hc2; omega
  · rw [hlen]; have := h.most; omega
/-- those that are held among the first i -/
theorem cnt_take_succ (l : List Int) (i : Nat) (h : i < l.length) : cnt (l.take (i + 1)) = cnt (l.take i) + (if 0 < l.getD i 0 then 1 else 0) := by
  unfold cnt
  rw [List.take_succ_eq_append_getElem h, List.filter_append, List.length_append]
  congr 1
  simp only [List.filter_cons, List.filter_nil, List.getD, List.getElem?_eq_getElem h, Option.getD_some]
  by_cases h0 : 0 < l[i] <;> simp [h0]
theorem cnt_take_one (h : Inv most m l k) : cnt (l.take 1) = 0 := by
  have hl : 0 < l.length := by rw [h.len]; omega
  have := cnt_take_succ l 0 hl
  rw [h.zero] at this
  simpa [cnt] using this
theorem cnt_le (l : List Int) (i : Nat) : cnt (l.take i) ≤ i := Nat.le_trans (List.length_filter_le _ _) (List.length_take_le _ _)
end
end Go.Proofs.Ytmjmfokodhcakaa
