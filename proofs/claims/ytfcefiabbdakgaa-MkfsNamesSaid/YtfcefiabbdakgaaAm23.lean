/- The abstract machine, part 23: maps over whole numbers. No program in sight. -/
import Derived.Test.YtfcefiabbdakgaaAm22
set_option linter.all false
namespace Go.Am
open Go.RowKit
variable {P : Program} {σ : Store}

abbrev Ents := List (Int × Value × Nat)
def ents (l : Ents) : List MapEntry := l.map fun p => { key := .int .i64 p.1, val := p.2.1, born := p.2.2 }
def efind : Ents → Int → Nat → Option (Nat × Value)
  | [], _, _ => none
  | p :: l, x, i => if p.1 = x then some (i, p.2.1) else efind l x (i + 1)
def eget (l : Ents) (x : Int) : Option Value := (efind l x 0).map (·.2)
theorem findNow_ents (x : Int) : ∀ (l : Ents) (i : Nat), Instr.findNow (.int .i64) (.int .i64 x) (ents l) i = some (efind l x i)
  | [], _ => rfl
  | p :: l, i => by
    have ih := findNow_ents x l (i + 1)
    unfold ents at ih
    simp only [ents, List.map_cons, Instr.findNow, Instr.sameNow, efind, if_true]
    by_cases h : p.1 = x
    · subst h; simp
    · have h2 : (x == p.1) = false := by simp; exact fun e => h e.symm
      simp [h, h2, ih]
/-- A key is given a value. -/
def eset : Ents → Int → Value → Ents
  | [], _, _ => []
  | p :: l, x, v => if p.1 = x then (x, v, p.2.2) :: l else p :: eset l x v
def eput (l : Ents) (ck : Nat) (x : Int) (v : Value) : Ents × Nat :=
  match efind l x 0 with
  | some _ => (eset l x v, ck)
  | none => (l ++ [(x, v, ck)], ck + 1)
theorem eset_modify (x : Int) (v : Value) : ∀ (l : Ents) (i j : Nat) (u : Value), efind l x i = some (j, u) → i ≤ j ∧ (ents l).modify (j - i) (fun e => { e with key := .int .i64 x, val := v }) = ents (eset l x v)
  | [], _, _, _, h => by cases h
  | p :: l, i, j, u, h => by
    unfold efind at h
    unfold eset
    by_cases hp : p.1 = x
    · rw [if_pos hp] at h
      cases h
      rw [if_pos hp]
      refine ⟨Nat.le_refl _, ?_⟩
      simp [ents]
    · rw [if_neg hp] at h
      rw [if_neg hp]
      obtain ⟨h1, h2⟩ := eset_modify x v l (i + 1) j u h
      refine ⟨by omega, ?_⟩
      have e : j - i = (j - (i + 1)) + 1 := by omega
      rw [e]
      unfold ents at h2 ⊢
      simp only [List.map_cons, List.modify_succ_cons, h2]
theorem update_ents {t kt et : TypeId} {r ck : Nat} {l : Ents} {x : Int} {v : Value} (hu : P.underlying t = some (.map kt et)) (hk : P.underlying kt = some (.int .i64)) (h : σ.get r = some (.map (ents l) ck)) :
    mapUpdateV P t (.map (some r)) (.int .i64 x) v σ = some (junk, σ.put r (some (.map (ents (eput l ck x v).1) (eput l ck x v).2))) := by
  simp only [mapUpdateV, hu, keyDesc, hk, h, findNow_ents]
  cases hf : efind l x 0 with
  | none =>
    simp [eput, hf, ents]
  | some iu =>
    obtain ⟨i, u⟩ := iu
    obtain ⟨_, h2⟩ := eset_modify x v l 0 i u hf
    simp only [Nat.sub_zero] at h2
    simp [eput, hf, h2]
theorem efind_get (y : Int) : ∀ (l : Ents) (i j : Nat), (efind l y i).map (·.2) = (efind l y j).map (·.2)
  | [], _, _ => rfl
  | p :: l, i, j => by
    unfold efind
    split
    · rfl
    · exact efind_get y l _ _
theorem eget_cons (p : Int × Value × Nat) (l : Ents) (y : Int) : eget (p :: l) y = if p.1 = y then some p.2.1 else eget l y := by
  unfold eget
  conv => lhs; unfold efind
  split
  · rfl
  · exact efind_get y l _ _
theorem eget_eset (x : Int) (v : Value) (y : Int) : ∀ (l : Ents), (eget l x).isSome → eget (eset l x v) y = if y = x then some v else eget l y
  | [], h => by simp [eget, efind] at h
  | p :: l, h => by
    unfold eset
    by_cases hp : p.1 = x
    · rw [if_pos hp, eget_cons, eget_cons]
      by_cases hy : y = x
      · subst hy; simp
      · have h1 : ¬ x = y := fun e => hy e.symm
        rw [if_neg h1, if_neg hy, if_neg (by rw [hp]; exact h1)]
    · rw [if_neg hp, eget_cons, eget_cons]
      rw [eget_cons, if_neg hp] at h
      by_cases hy : y = x
      · subst hy
        rw [if_neg hp, eget_eset y v y l h, if_pos rfl, if_pos rfl]
      · rw [eget_eset x v y l h, if_neg hy, if_neg hy]
theorem eget_append (l k : Ents) (y : Int) : eget (l ++ k) y = (eget l y).or (eget k y) := by
  induction l with
  | nil => simp [eget, efind]
  | cons p l ih =>
    rw [List.cons_append, eget_cons, eget_cons, ih]
    split <;> simp
theorem eget_eput (l : Ents) (ck : Nat) (x : Int) (v : Value) (y : Int) : eget (eput l ck x v).1 y = if y = x then some v else eget l y := by
  unfold eput
  cases hf : efind l x 0 with
  | none =>
    have h0 : eget l x = none := by simp [eget, hf]
    rw [eget_append, eget_cons]
    by_cases hy : y = x
    · subst hy; simp [h0]
    · have h1 : ¬ x = y := fun e => hy e.symm
      simp [hy, h1, eget, efind]
  | some iu =>
    exact eget_eset x v y l (by simp [eget, hf])
theorem lookup_ents {t kt et : TypeId} {z : Value} {r ck : Nat} {l : Ents} {x : Int} {g : Nat → Option SObj} (hu : P.underlying t = some (.map kt et)) (hk : P.underlying kt = some (.int .i64)) (hz : tZero P et = some z) (h : g r = some (.map (ents l) ck)) :
    lookupV P t (.map (some r)) (.int .i64 x) true g = some (match eget l x with | some v => .tuple #[v, .bool true] | none => .tuple #[z, .bool false]) := by
  simp only [lookupV, hu, keyDesc, hk, hz, h, findNow_ents, eget]
  cases efind l x 0 with
  | none => rfl
  | some iu => rfl
theorem lookup_ents1 {t kt et : TypeId} {z : Value} {r ck : Nat} {l : Ents} {x : Int} {g : Nat → Option SObj} (hu : P.underlying t = some (.map kt et)) (hk : P.underlying kt = some (.int .i64)) (hz : tZero P et = some z) (h : g r = some (.map (ents l) ck)) :
    lookupV P t (.map (some r)) (.int .i64 x) false g = some ((eget l x).getD z) := by
  simp only [lookupV, hu, keyDesc, hk, hz, h, findNow_ents, eget]
  cases efind l x 0 with
  | none => rfl
  | some iu => rfl
/-! ## what is only read -/
theorem load_lent {n i o : Nat} {g : Nat → Option SObj} {c : List Value} (h : g i = some (.lent c)) (hl : o + n ≤ c.length) : loadV true n (.pointer (some ⟨i, o, none⟩)) g = some (.agg ((c.drop o).take n).toArray) := by
  simp [loadV, h, part?, Nat.ble_eq_true_of_le hl]
theorem load_lent1 {n i o : Nat} {g : Nat → Option SObj} {c : List Value} {v : Value} (h : g i = some (.lent c)) (hv : c[o]? = some v) : loadV false n (.pointer (some ⟨i, o, none⟩)) g = some v := by
  simp [loadV, h, part?, hv]
/-- Cells of the world become an id's, to be read. -/
theorem Rel.lend {M : Places} {w : World} (h : Rel M σ w) {c : List Value} {b o : Nat} (hc : ∀ (j : Nat) (v : Value), c[j]? = some v → ∃ v', w.cell? ⟨b, o + j, none⟩ = some v' ∧ VR M true v v') (hb : b < w.heap.size)
    (hap : ∀ i x l, σ.get i = some x → x.own = true → M i = some l → l.block ≠ b) : Rel (M.upd σ.next ⟨b, o, none⟩) (σ.push (.lent c)) w := by
  have hle : M.le (M.upd σ.next ⟨b, o, none⟩) := Places.le_upd _ (h.dom _ (Nat.le_refl _))
  refine ⟨fun i x hi => ?_, fun i j x y li lj hi hj hx hne hli hlj => ?_, fun i hi => ?_⟩
  · by_cases e : i = σ.next
    · subst e
      rw [Store.get_push_same] at hi; cases hi
      refine ⟨_, Places.upd_same _ _ _, rfl, hb, fun j v hv => ?_⟩
      obtain ⟨v', h1, h2⟩ := hc j v hv
      exact ⟨v', h1, h2.mono hle⟩
    · rw [Store.get_push, if_neg e] at hi
      obtain ⟨l', hl', hs'⟩ := h.shows i x hi
      exact ⟨l', by rw [Places.upd_ne _ e]; exact hl', hs'.mono hle⟩
  · by_cases ei : i = σ.next
    · subst ei
      rw [Store.get_push_same] at hi; cases hi
      cases hx
    · rw [Store.get_push, if_neg ei] at hi
      rw [Places.upd_ne _ ei] at hli
      by_cases ej : j = σ.next
      · subst ej
        rw [Places.upd_same] at hlj; cases hlj
        exact hap i x li hi hx hli
      · rw [Store.get_push, if_neg ej] at hj
        rw [Places.upd_ne _ ej] at hlj
        exact h.apart i j x y li lj hi hj hx hne hli hlj
  · rw [Store.next_push] at hi
    rw [Places.upd_ne _ (by omega)]
    exact h.dom i (by omega)
/-- One run of cells, from nothing. -/
theorem rel_lent {w : World} {c : List Value} {b o : Nat} (hb : b < w.heap.size) (hc : ∀ (j : Nat) (v : Value), c[j]? = some v → scalar v = true ∧ w.cell? ⟨b, o + j, none⟩ = some v) : Rel (Places.upd (fun _ => none) 0 ⟨b, o, none⟩) (Store.empty.push (.lent c)) w :=
  (rel_empty w).lend (fun j v hv => ⟨v, (hc j v hv).2, .scalar v (hc j v hv).1⟩) hb fun i x l hi => by rw [empty_get] at hi; cases hi
end Go.Am
