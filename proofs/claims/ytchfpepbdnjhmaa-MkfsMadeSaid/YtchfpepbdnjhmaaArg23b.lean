/- A row of bools among arguments, lent. -/
import Derived.Test.YtchfpepbdnjhmaaArg23
set_option linter.all false
set_option maxRecDepth 100000
namespace Go.Proofs.Ytchfpepbdnjhmaa
open Go.ChangeShapes Go.WideShapes Go.ChangeAt Go.RowKit Go.Am
section
variable {H : Type} {enc : TypeId × Value → H} {w : World} {held : Bool} {r : Reach} {b0 : Nat} {v : Value} {d : DataW H} {ps : List MemPlace} {σ : Store} {M : Places}
theorem top_in {P : Program} {t e : TypeId} (ht : P.underlying t = some (.slice e)) (hce : 0 < P.cellsOf e) (hv : Value.okWide P w r b0 t v) (hd : DataW.Trod enc P w 0 (fun _ => true) held t v d ps) :
    v = .slice none 0 0 ∨ ∃ b o len cap, v = .slice (some ⟨b, o, none⟩) len cap ∧ len ≤ maxLen ∧ b < w.heap.size ∧ ∀ i, i < len → ∃ cs fuel x, w.cells? 0 ⟨b, o + i * P.cellsOf e, none⟩ (P.cellsOf e) = some cs ∧ DataW.trod enc P w 0 (fun _ => true) held fuel e cs = some x := by
  obtain ⟨fuel, h⟩ := hd
  have hv' : Cell.okWide P w r b0 t v := by
    unfold Value.okWide at hv
    rw [ht] at hv
    exact hv
  rcases top_slice ht hv' with rfl | ⟨b, o, len, cap, rfl, hb⟩
  · exact .inl rfl
  · rcases in_slice ht hce h with h1 | ⟨a, h1⟩ | ⟨b', o', len', cap', h1, h2, h3, h4⟩
    · cases h1
    · cases h1; exact .inr ⟨b, o, 0, 0, rfl, Nat.zero_le _, hb, fun i hi => absurd hi (Nat.not_lt_zero _)⟩
    · cases h1; exact .inr ⟨b, o, len, cap, rfl, h2, hb, h4⟩
/-- A row of bools. -/
theorem lend_bools (hr : Rel M σ w) (ha : AllLent σ) (hv : Value.okWide Try.prog w r b0 50 v) (hd : DataW.Trod enc Try.prog w 0 (fun _ => true) held 50 v d ps) :
    ∃ (σ' : Store) (M' : Places) (u : Value) (ks : List Bool), Rel M' σ' w ∧ AllLent σ' ∧ Keeps σ σ' ∧ M.le M' ∧ VR M' true u v ∧ ks.length ≤ maxLen ∧ SlR σ' 1 u ks.length (ks.map Value.bool) := by
  have hce : Try.prog.cellsOf 4 = 1 := by kernel_rfl
  rcases top_in Try.underlying50 (by rw [hce]; decide) hv hd with rfl | ⟨b, o, len, cap, rfl, hml, hb, hx⟩
  · exact ⟨σ, M, .slice none 0 0, [], hr, ha, Keeps.refl _, M.le_refl, .scalar _ rfl, Nat.zero_le _, SlR.nil⟩
  · have key : ∀ i, i < len → ∃ k : Bool, w.cell? ⟨b, o + i, none⟩ = some (.bool k) := fun i hi => by
      obtain ⟨cs, fu, y, hcs, htr⟩ := hx i hi
      rw [hce, Nat.mul_one] at hcs
      obtain ⟨n, rfl, _⟩ := DataW.trod_bool Try.underlying4 htr
      exact ⟨n, by simpa using cells_get hcs (i := 0) rfl⟩
    obtain ⟨f, hf⟩ := Go.Deep.choose_lt key
    obtain ⟨σ', M', u, j1, j2, j3, j4, j5, j6⟩ := lend_cells (cap := cap) (us := ((List.range len).map f).map Value.bool) (len := len) hr ha hb (by simp) fun j u hu => by
      have hj : j < len := by have := (List.getElem?_eq_some_iff.1 hu).1; simpa using this
      rw [List.getElem?_map, List.getElem?_map, List.getElem?_range hj] at hu
      have hu : Value.bool (f j) = u := by simpa using hu
      exact ⟨u, by rw [← hu]; exact hf j hj, by rw [← hu]; exact .scalar _ rfl⟩
    have hl : ((List.range len).map f).length = len := by simp
    exact ⟨σ', M', u, (List.range len).map f, j1, j2, j3, j4, j5, by rw [hl]; exact hml, by rw [hl]; exact j6⟩
end
end Go.Proofs.Ytchfpepbdnjhmaa
