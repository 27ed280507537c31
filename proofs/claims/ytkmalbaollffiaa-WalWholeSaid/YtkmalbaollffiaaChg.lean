/- Lists of changes: a place and a byte each, in cells. No program in sight. -/
import Derived.Test.YtkmalbaollffiaaRd
set_option linter.all false
namespace Go.Am
open Go.ChangeShapes Go.WideShapes Go.ChangeAt Go.RowKit
def chgC : List (Int × Int) → List Value
  | [] => []
  | p :: l => .int .i64 p.1 :: .int .u8 p.2 :: chgC l
theorem chgC_len : ∀ l : List (Int × Int), (chgC l).length = l.length * 2
  | [] => rfl
  | p :: l => by simp [chgC, chgC_len l]; omega
theorem chgC_get : ∀ {l : List (Int × Int)} {i : Nat} {p : Int × Int}, l[i]? = some p → (chgC l)[i * 2]? = some (.int .i64 p.1) ∧ (chgC l)[i * 2 + 1]? = some (.int .u8 p.2)
  | [], i, p, h => by simp at h
  | q :: l, 0, p, h => by simp at h; subst h; exact ⟨rfl, rfl⟩
  | q :: l, i + 1, p, h => by
    have h' : l[i]? = some p := by simpa using h
    have := chgC_get h'
    rw [show (i + 1) * 2 = i * 2 + 1 + 1 by omega, show i * 2 + 1 + 1 + 1 = (i * 2 + 1) + 1 + 1 by omega]
    exact this
theorem chgC_scalar : ∀ (l : List (Int × Int)), ∀ v ∈ chgC l, scalar v = true
  | [], v, h => by cases h
  | p :: l, v, h => by
    rcases List.mem_cons.1 h with rfl | h
    · rfl
    · rcases List.mem_cons.1 h with rfl | h
      · rfl
      · exact chgC_scalar l v h
theorem chg_at {σ : Store} {v : Value} {l : List (Int × Int)} (h : SlR σ 2 v l.length (chgC l)) {i : Nat} {p : Int × Int} (hp : l[i]? = some p) :
    ∃ a o, iaddrS 2 v (.int .i64 (i : Nat)) = some (.pointer (some ⟨a, o, none⟩)) ∧ a < σ.next ∧ rdOne (σ.get a) o = some (.int .i64 p.1) ∧ rdOne (σ.get a) (o + 1) = some (.int .u8 p.2) := by
  have hi : i < l.length := (List.getElem?_eq_some_iff.1 hp).1
  obtain ⟨g1, g2⟩ := chgC_get hp
  rcases h.2 with ⟨h0, _⟩ | ⟨b, o, g, k, obj, d, rfl, hg, hb, hd, hc⟩
  · omega
  · have rd : ∀ t, rdOne (some obj) t = d[t]? := fun t => by
      cases obj with
      | cells c g => simp [objCells] at hd; subst hd; rfl
      | lent c => simp [objCells] at hd; subst hd; rfl
      | map es c => simp [objCells] at hd
      | iter m s e c => simp [objCells] at hd
    have key : ∀ t, t < l.length * 2 → d[o + t]? = (chgC l)[t]? := fun t ht => by
      rw [← hc, List.getElem?_take, if_pos ht, List.getElem?_drop]
    refine ⟨b, o + i * 2, ?_, Store.lt_of_get hb, ?_, ?_⟩
    · rcases hg with rfl | rfl
      · rw [iaddrS_eq (by omega) (by omega)]; simp
      · rw [iaddrS_grown (by omega) (by omega)]; simp
    · rw [hb, rd, key _ (by omega), g1]
    · rw [hb, rd, Nat.add_assoc, key _ (by omega), g2]
section
variable {H : Type} {enc : TypeId × Value → H} {P : Program} {w : World} {spare : Nat → Bool} {held : Bool} {r : Reach} {b0 : Nat} {t : TypeId} {v : Value} {d : DataW H} {ps : List MemPlace}
theorem add_none (b o n : Nat) : Addr.add ⟨b, o, none⟩ n = ⟨b, o + n, none⟩ := by
  unfold Addr.add
  by_cases h : n = 0
  · subst h; rfl
  · rw [if_neg h]
theorem cells_get {b o n : Nat} {cs : List Value} (h : w.cells? 0 ⟨b, o, none⟩ n = some cs) {i : Nat} {x : Value} (hx : cs[i]? = some x) : w.cell? ⟨b, o + i, none⟩ = some x := by
  unfold World.cells? at h
  rw [if_pos (Nat.zero_le _)] at h
  have key : ∀ (l : List Nat) (cs : List Value) (i : Nat) (x : Value), l.mapM (fun i => w.cell? (Addr.add ⟨b, o, none⟩ i)) = some cs → cs[i]? = some x → ∃ k, l[i]? = some k ∧ w.cell? (Addr.add ⟨b, o, none⟩ k) = some x := fun l => by
    induction l with
    | nil => intro cs i x h hx; simp at h; subst h; simp at hx
    | cons k l ih =>
      intro cs i x h hx
      rw [List.mapM_cons] at h
      cases h1 : w.cell? (Addr.add ⟨b, o, none⟩ k) with
      | none => rw [h1] at h; simp at h
      | some y =>
        rw [h1] at h
        cases h2 : l.mapM (fun i => w.cell? (Addr.add ⟨b, o, none⟩ i)) with
        | none => rw [h2] at h; simp at h
        | some ys =>
          rw [h2] at h
          simp at h
          subst h
          cases i with
          | zero => simp at hx; subst hx; exact ⟨k, rfl, h1⟩
          | succ i => exact ih ys i x h2 (by simpa using hx)
  obtain ⟨k, hk, hc⟩ := key _ _ _ _ h hx
  have hi : i < n := by
    rcases Nat.lt_or_ge i n with h0 | h0
    · exact h0
    · rw [List.getElem?_eq_none (by simpa using h0)] at hk; cases hk
  rw [List.getElem?_range hi] at hk
  cases hk
  rw [add_none] at hc
  exact hc
end
end Go.Am
