/- Lists of changes: a place and a byte each, in cells. No program in sight. -/
import Derived.Test.YtkmalbaollffiaaRd
set_option linter.all false
namespace Go.Am
open Go.ChangeShapes Go.WideShapes Go.ChangeAt Go.RowKit
def chgC : List (Int × Int) → List Value
  | [] => []
  | p :: l => .int .i64 p.1 :: .int .u8 p.2 :: chgC l
theorem chgC_len : ∀ l : List (Int × Int), (chgC l).length = l.length * 2
  | [] => rfl
  | p :: l => by simp [chgC, chgC_len l]; omega
theorem chgC_get : ∀ {l : List (Int × Int)} {i : Nat} {p : Int × Int}, l[i]? = some p → (chgC l)[i * 2]? = some (.int .i64 p.1) ∧ (chgC l)[i * 2 + 1]? = some (.int .u8 p.2)
  | [], i, p, h => by simp at h
  | q :: l, 0, p, h => by simp at h; subst h; exact ⟨rfl, rfl⟩
  | q :: l, i + 1, p, h => by
    have h' : l[i]? = some p := by simpa using h
    have := chgC_get h'
    rw [show (i + 1) * 2 = i * 2 + 1 + 1 by omega, show i * 2 + 1 + 1 + 1 = (i * 2 + 1) + 1 + 1 by omega]
    exact this
theorem chgC_scalar : ∀ (l : List (Int × Int)), ∀ v ∈ chgC l, scalar v = true
  | [], v, h => by cases h
  | p :: l, v, h => by
    rcases List.mem_cons.1 h with rfl | h
    · rfl
    · rcases List.mem_cons.1 h with rfl | h
      · rfl
      · exact chgC_scalar l v h
theorem chg_at {σ : Store} {v : Value} {l : List (Int × Int)} (h : SlR σ 2 v l.length (chgC l)) {i : Nat} {p : Int × Int} (hp : l[i]? = some p) :
    ∃ a o, iaddrS 2 v (.int .i64 (i : Nat)) = some (.pointer (some ⟨a, o, none⟩)) ∧ a < σ.next ∧ rdOne (σ.get a) o = some (.int .i64 p.1) ∧ rdOne (σ.get a) (o + 1) = some (.int .u8 p.2) := by
  have hi : i < l.length := (List.getElem?_eq_some_iff.1 hp).1
  obtain ⟨g1, g2⟩ := chgC_get hp
  rcases h.2 with ⟨h0, _⟩ | ⟨b, o, g, k, obj, d, rfl, hg, hb, hd, hc⟩
  · omega
  · have rd : ∀ t, rdOne (some obj) t = d[t]? := fun t => by
      cases obj with
      | cells c g => simp [objCells] at hd; subst hd; rfl
      | lent c => simp [objCells] at hd; subst hd; rfl
      | map es c => simp [objCells] at hd
      | iter m s e c => simp [objCells] at hd
    have key : ∀ t, t < l.length * 2 → d[o + t]? = (chgC l)[t]? := fun t ht => by
      rw [← hc, List.getElem?_take, if_pos ht, List.getElem?_drop]
    refine ⟨b, o + i * 2, ?_, Store.lt_of_get hb, ?_, ?_⟩
    · rcases hg with rfl | rfl
      · rw [iaddrS_eq (by omega) (by omega)]; simp
      · rw [iaddrS_grown (by omega) (by omega)]; simp
    · rw [hb, rd, key _ (by omega), g1]
    · rw [hb, rd, Nat.add_assoc, key _ (by omega), g2]
section
variable {H : Type} {enc : TypeId × Value → H} {P : Program} {w : World} {spare : Nat → Bool} {held : Bool} {r : Reach} {b0 : Nat} {t : TypeId} {v : Value} {d : DataW H} {ps : List MemPlace}
theorem add_none (b o n : Nat) : Addr.add ⟨b, o, none⟩ n = ⟨b, o + n, none⟩ := by
  unfold Addr.add
  by_cases h : n = 0
  · subst h; rfl
  · rw [if_neg h]
theorem rd_slice {e : TypeId} (ht : P.underlying t = some (.slice e)) (hv : Value.okWide P w r b0 t v) (hd : DataW.Trod enc P w 0 spare held t v d ps) :
    v = .slice none 0 0 ∨ ∃ b o len cap, v = .slice (some ⟨b, o, none⟩) len cap ∧ b < w.heap.size ∧ ∀ i, i < len → ∃ cs fuel x, w.cells? 0 ⟨b, o + i * P.cellsOf e, none⟩ (P.cellsOf e) = some cs ∧ DataW.trod enc P w 0 spare held fuel e cs = some x := by
  obtain ⟨fuel, h⟩ := hd
  have hv' : Cell.ok P w r b0 t v := by
    unfold Value.okWide at hv
    rw [ht] at hv
    unfold Cell.okWide at hv
    rw [ht] at hv
    simpa using hv
  have hc : v.cells.toList = [v] ∨ ∃ xs, v = .agg xs := by cases v <;> first | (left; rfl) | (right; exact ⟨_, rfl⟩)
  rcases hc with hc | ⟨xs, rfl⟩
  · rw [hc] at h
    rcases DataW.trod_slice ht h with ⟨e1, _⟩ | ⟨a, len, cap, el, rest, n, _, e1, _, _, _, _, hl, hx, _⟩
    · left; simpa using e1
    · right
      have e2 : v = .slice (some a) len cap := by simpa using e1
      subst e2
      unfold Cell.ok at hv'
      rw [ht] at hv'
      obtain ⟨_, _, _, hs, row, cells, hsh, _⟩ := hv'
      obtain ⟨b, o, s⟩ := a
      have hs : s = none := hs
      subst hs
      refine ⟨b, o, len, cap, rfl, ?_, fun i hi => ?_⟩
      · unfold World.shape? at hsh
        by_cases hb : b < w.heap.size
        · exact hb
        · rw [Array.getElem?_eq_none (by simpa using hb)] at hsh; cases hsh
      · have := hx i hi
        rw [List.getElem?_eq_getElem (by omega)] at this
        rw [add_none] at this
        cases hcs : w.cells? 0 ⟨b, o + i * P.cellsOf e, none⟩ (P.cellsOf e) with
        | none => rw [hcs] at this; cases this
        | some cs => rw [hcs] at this; exact ⟨cs, n, _, rfl, this⟩
  · unfold Cell.ok at hv'
    rw [ht] at hv'
    cases hv'
theorem cells_get {b o n : Nat} {cs : List Value} (h : w.cells? 0 ⟨b, o, none⟩ n = some cs) {i : Nat} {x : Value} (hx : cs[i]? = some x) : w.cell? ⟨b, o + i, none⟩ = some x := by
  unfold World.cells? at h
  rw [if_pos (Nat.zero_le _)] at h
  have key : ∀ (l : List Nat) (cs : List Value) (i : Nat) (x : Value), l.mapM (fun i => w.cell? (Addr.add ⟨b, o, none⟩ i)) = some cs → cs[i]? = some x → ∃ k, l[i]? = some k ∧ w.cell? (Addr.add ⟨b, o, none⟩ k) = some x := fun l => by
    induction l with
    | nil => intro cs i x h hx; simp at h; subst h; simp at hx
    | cons k l ih =>
      intro cs i x h hx
      rw [List.mapM_cons] at h
      cases h1 : w.cell? (Addr.add ⟨b, o, none⟩ k) with
      | none => rw [h1] at h; simp at h
      | some y =>
        rw [h1] at h
        cases h2 : l.mapM (fun i => w.cell? (Addr.add ⟨b, o, none⟩ i)) with
        | none => rw [h2] at h; simp at h
        | some ys =>
          rw [h2] at h
          simp at h
          subst h
          cases i with
          | zero => simp at hx; subst hx; exact ⟨k, rfl, h1⟩
          | succ i => exact ih ys i x h2 (by simpa using hx)
  obtain ⟨k, hk, hc⟩ := key _ _ _ _ h hx
  have hi : i < n := by
    rcases Nat.lt_or_ge i n with h0 | h0
    · exact h0
    · rw [List.getElem?_eq_none (by simpa using h0)] at hk; cases hk
  rw [List.getElem?_range hi] at hk
  cases hk
  rw [add_none] at hc
  exact hc
/-- A slice of changes among arguments: cells that are lent. -/
theorem rd_changes {e : TypeId} {f0 f1 : Field} (ht : P.underlying t = some (.slice e)) (he : P.underlying e = some (.struct #[f0, f1])) (h0 : f0.offset = 0 ∧ P.cellsOf f0.type = 1 ∧ P.underlying f0.type = some (.int .i64)) (h1 : f1.offset = 1 ∧ P.cellsOf f1.type = 1 ∧ P.underlying f1.type = some (.int .u8)) (hce : P.cellsOf e = 2)
    (hv : Value.okWide P w r b0 t v) (hd : DataW.Trod enc P w 0 spare held t v d ps) :
    ∃ (l : List (Int × Int)), (∀ p ∈ l, (-9223372036854775808 ≤ p.1 ∧ p.1 ≤ 9223372036854775807) ∧ 0 ≤ p.2 ∧ p.2 < 256) ∧
      ((l = [] ∧ v = .slice none 0 0) ∨ ∃ b o cap, v = .slice (some ⟨b, o, none⟩) l.length cap ∧ Rel (Places.upd (fun _ => none) 0 ⟨b, o, none⟩) (Store.empty.push (.lent (chgC l))) w) := by
  rcases rd_slice ht hv hd with rfl | ⟨b, o, len, cap, rfl, hb, hx⟩
  · exact ⟨[], ⟨(fun p hp => by cases hp), .inl ⟨rfl, rfl⟩⟩⟩
  · have key : ∀ i, i < len → ∃ p : Int × Int, ((-9223372036854775808 ≤ p.1 ∧ p.1 ≤ 9223372036854775807) ∧ 0 ≤ p.2 ∧ p.2 < 256) ∧ w.cell? ⟨b, o + i * 2, none⟩ = some (.int .i64 p.1) ∧ w.cell? ⟨b, o + i * 2 + 1, none⟩ = some (.int .u8 p.2) := fun i hi => by
      obtain ⟨cs, fuel, x, hcs, htr⟩ := hx i hi
      rw [hce] at hcs
      obtain ⟨xs, m, rfl, rfl, hl, hxl, hf⟩ := DataW.trod_struct he htr
      rw [hce] at hl
      have t0 := hf 0 f0 rfl
      have t1 := hf 1 f1 rfl
      rw [h0.1, h0.2.1, List.getElem?_eq_getElem (by simp at hxl ⊢; omega)] at t0
      rw [h1.1, h1.2.1, List.getElem?_eq_getElem (by simp at hxl ⊢; omega)] at t1
      obtain ⟨n0, e0, _, w0⟩ := DataW.trod_int h0.2.2 t0
      obtain ⟨n1, e1, _, w1⟩ := DataW.trod_int h1.2.2 t1
      exact ⟨(n0, n1), ⟨wf_i64 w0, wf_u8 w1⟩, cells_get hcs (take1 e0), cells_get hcs (take1 e1)⟩
    obtain ⟨f, hf⟩ := Go.Deep.choose_lt key
    refine ⟨(List.range len).map f, fun p hp => ?_, .inr ⟨b, o, cap, by simp, rel_lent hb fun j v hv => ?_⟩⟩
    · obtain ⟨i, hi, rfl⟩ := List.mem_map.1 hp
      exact (hf i (by simpa using hi)).1
    · refine ⟨chgC_scalar _ v (List.mem_of_getElem? hv), ?_⟩
      have hlt : j < len * 2 := by
        have := (List.getElem?_eq_some_iff.1 hv).1
        rw [chgC_len] at this; simpa using this
      have hi : j / 2 < len := by omega
      have hg : ((List.range len).map f)[j / 2]? = some (f (j / 2)) := by rw [List.getElem?_map, List.getElem?_range hi]; rfl
      obtain ⟨g1, g2⟩ := chgC_get hg
      obtain ⟨_, k1, k2⟩ := hf (j / 2) hi
      rcases Nat.mod_two_eq_zero_or_one j with h | h
      · rw [show j = j / 2 * 2 by omega, g1] at hv
        rw [show j = j / 2 * 2 by omega, k1, ← hv]
      · rw [show j = j / 2 * 2 + 1 by omega, g2] at hv
        rw [show o + j = o + j / 2 * 2 + 1 by omega, k2, ← hv]
end
end Go.Am
