/- Slices of slices among arguments: cells that are lent. No program in sight. -/
import Derived.Test.YthojojlgmaoecaaGreatChg
set_option linter.all false
namespace Go.Am
open Go.ChangeShapes Go.WideShapes Go.ChangeAt Go.RowKit
def AllLent (σ : Store) : Prop := ∀ i o, σ.get i = some o → o.own = false
theorem AllLent.empty : AllLent Store.empty := fun i o h => by rw [empty_get] at h; cases h
theorem AllLent.push {σ : Store} (h : AllLent σ) (c : List Value) : AllLent (σ.push (.lent c)) := fun i o hi => by
  rw [Store.get_push] at hi
  split at hi
  · cases hi; rfl
  · exact h i o hi
section
variable {H : Type} {enc : TypeId × Value → H} {P : Program} {w : World} {held : Bool} {r : Reach} {b0 : Nat} {t : TypeId} {v : Value}
/-- A slice among a call's own cells. -/
theorem top_slice {e : TypeId} (ht : P.underlying t = some (.slice e)) (h : Cell.okWide P w r b0 t v) : v = .slice none 0 0 ∨ ∃ b o len cap, v = .slice (some ⟨b, o, none⟩) len cap ∧ b < w.heap.size := by
  have h : Cell.ok P w r b0 t v := by
    unfold Cell.okWide at h
    rw [ht] at h
    simpa using h
  unfold Cell.ok at h
  rw [ht] at h
  split at h
  all_goals first
    | (rename_i e1 _; cases e1; done)
    | (rename_i e1; cases e1; done)
    | (left; rfl)
    | exact h.elim
    | skip
  rename_i a len cap _ _
  obtain ⟨_, _, _, hs, row, cells, hsh, _⟩ := h
  obtain ⟨b, o, s⟩ := a
  have hs : s = none := hs
  subst hs
  refine .inr ⟨b, o, len, cap, rfl, ?_⟩
  unfold World.shape? at hsh
  by_cases hb : b < w.heap.size
  · exact hb
  · rw [Array.getElem?_eq_none (by simpa using hb)] at hsh; cases hsh
theorem cell_at {a : Addr} {x : Value} (h : w.cell? a = some x) : a.spot = none ∧ a.block < w.heap.size := by
  unfold World.cell? at h
  split at h
  · rename_i hb
    refine ⟨?_, (Array.getElem?_eq_some_iff.1 hb).1⟩
    cases hs : a.spot with
    | none => rfl
    | some y => rw [hs] at h; simp at h
  · cases h
theorem add_zero (a : Addr) : a.add 0 = a := by unfold Addr.add; rw [if_pos rfl]
/-- A slice among other cells: it may be hollow. -/
theorem in_slice {e : TypeId} {fuel : Nat} {x : DataW H × List MemPlace} (ht : P.underlying t = some (.slice e)) (hce : 0 < P.cellsOf e) (h : DataW.trod enc P w 0 (fun _ => true) held fuel t [v] = some x) :
    v = .slice none 0 0 ∨ (∃ a, v = .slice (some a) 0 0) ∨ ∃ b o len cap, v = .slice (some ⟨b, o, none⟩) len cap ∧ len ≤ maxLen ∧ b < w.heap.size ∧ ∀ i, i < len → ∃ cs fuel x, w.cells? 0 ⟨b, o + i * P.cellsOf e, none⟩ (P.cellsOf e) = some cs ∧ DataW.trod enc P w 0 (fun _ => true) held fuel e cs = some x := by
  rcases DataW.trod_slice ht h with ⟨e1, _⟩ | ⟨a, len, cap, el, rest, n, _, e1, _, _, hlc, hcm, hl, hx, hsp, _⟩
  · left; simpa using e1
  · have e2 : v = .slice (some a) len cap := by simpa using e1
    subst e2
    rcases Nat.eq_zero_or_pos cap with h0 | h0
    · have : len = 0 := by omega
      subst h0 this
      exact .inr (.inl ⟨a, rfl⟩)
    · have hone : ∃ cs, w.cells? 0 a (P.cellsOf e) = some cs := by
        rcases Nat.eq_zero_or_pos len with h1 | h1
        · obtain ⟨hr, hj⟩ := hsp rfl
          have := hj 0 (by omega)
          rw [h1, Nat.zero_add, Nat.zero_mul, add_zero, List.getElem?_eq_getElem (by omega)] at this
          cases hcs : w.cells? 0 a (P.cellsOf e) with
          | none => rw [hcs] at this; cases this
          | some cs => exact ⟨cs, rfl⟩
        · have := hx 0 h1
          rw [Nat.zero_mul, add_zero, List.getElem?_eq_getElem (by omega)] at this
          cases hcs : w.cells? 0 a (P.cellsOf e) with
          | none => rw [hcs] at this; cases this
          | some cs => exact ⟨cs, rfl⟩
      obtain ⟨cs, hcs⟩ := hone
      have hc0 : ∃ y, w.cell? a = some y := by
        unfold World.cells? at hcs
        rw [if_pos (Nat.zero_le _)] at hcs
        obtain ⟨m, hm⟩ : ∃ m, P.cellsOf e = m + 1 := ⟨P.cellsOf e - 1, by omega⟩
        rw [hm, List.range_succ_eq_map, List.mapM_cons, add_zero] at hcs
        cases hy : w.cell? a with
        | none => rw [hy] at hcs; simp at hcs
        | some y => exact ⟨y, rfl⟩
      obtain ⟨y, hy⟩ := hc0
      obtain ⟨hs, hb⟩ := cell_at hy
      obtain ⟨b, o, s⟩ := a
      have hs : s = none := hs
      subst hs
      refine .inr (.inr ⟨b, o, len, cap, rfl, by omega, hb, fun i hi => ?_⟩)
      have := hx i hi
      rw [List.getElem?_eq_getElem (by omega)] at this
      rw [add_none] at this
      cases hcs : w.cells? 0 ⟨b, o + i * P.cellsOf e, none⟩ (P.cellsOf e) with
      | none => rw [hcs] at this; cases this
      | some cs => rw [hcs] at this; exact ⟨cs, n, _, rfl, this⟩
/-- What a slice of a store holds: none, hollow, or cells that are lent. -/
def LentSl (σ : Store) (v : Value) (l : List (Int × Int)) : Prop := (l = [] ∧ (v = .slice none 0 0 ∨ v = hollow)) ∨ ∃ i cap, v = .slice (some ⟨i, 0, none⟩) l.length cap ∧ σ.get i = some (.lent (chgC l))
theorem LentSl.keep {σ σ' : Store} {v : Value} {l : List (Int × Int)} (h : LentSl σ v l) (k : Keeps σ σ') : LentSl σ' v l := by
  rcases h with h | ⟨i, cap, rfl, hi⟩
  · exact .inl h
  · exact .inr ⟨i, cap, rfl, k.get hi⟩
theorem keeps_lent (σ : Store) (c : List Value) : Keeps σ (σ.push (.lent c)) := (Keeps.refl σ).push _
end
end Go.Am
