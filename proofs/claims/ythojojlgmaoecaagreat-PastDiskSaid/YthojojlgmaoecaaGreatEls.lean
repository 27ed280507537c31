/- What is read of a slice's elements. -/
import Derived.Test.YthojojlgmaoecaaGreatOpq
set_option linter.all false
set_option maxRecDepth 100000
set_option maxHeartbeats 400000
namespace Go.Proofs.YthojojlgmaoecaaGreat
open Go.Am
variable {σ : Store} {Q : Value → Store → Prop} {s : DS} {m : Nat}
/-- An element of a slice: its place; each of its cells and parts is read. -/
theorem el_at {sz n : Nat} {v : Value} {c : List Value} (h : SlR σ sz v n c) (hs : 0 < sz) {j : Nat} (hj : j < n) : ∃ i o, (∀ k : IntKind, iaddrS sz v (.int k (j : Nat)) = some (.pointer (some ⟨i, o, none⟩))) ∧ i < σ.next ∧ (∀ t, t < sz → rdOne (σ.get i) (o + t) = ((c.drop (j * sz)).take sz)[t]?) ∧
    ∀ t k, t + k ≤ sz → rdPart (σ.get i) (o + t) k = some (.agg ⟨(((c.drop (j * sz)).take sz).drop t).take k⟩) := by
  rcases h.2 with ⟨rfl, _⟩ | ⟨i, o, g, k, obj, d, rfl, hg, hi, hd, hc⟩
  · omega
  · have hlen := h.1
    have hle : (j + 1) * sz ≤ n * sz := Nat.mul_le_mul_right _ hj
    have e : (j + 1) * sz = j * sz + sz := Nat.succ_mul _ _
    have hcl : ((d.drop o).take (n * sz)).length = n * sz := by rw [hc]; exact hlen
    rw [List.length_take, List.length_drop] at hcl
    refine ⟨i, o + j * sz, fun k' => ?_, Store.lt_of_get hi, fun t ht => ?_, fun t k' ht => ?_⟩
    · rcases hg with rfl | rfl
      · rw [iaddrS_eq (by omega) (by omega)]; simp
      · rw [iaddrS_grown (by omega) (by omega)]; simp
    · have key : d[o + j * sz + t]? = ((c.drop (j * sz)).take sz)[t]? := by
        rw [← hc, List.getElem?_take, if_pos ht, List.getElem?_drop, List.getElem?_take, if_pos (by omega), List.getElem?_drop]
        congr 1; omega
      rw [hi]
      cases obj with
      | cells c' g' => cases hd; exact key
      | lent c' => cases hd; exact key
      | map _ _ => cases hd
      | iter _ _ _ _ => cases hd
    · have key : (d.drop (o + j * sz + t)).take k' = (((c.drop (j * sz)).take sz).drop t).take k' := by
        refine List.ext_getElem? fun x => ?_
        by_cases hx : x < k'
        · rw [← hc, List.getElem?_take, if_pos hx, List.getElem?_drop, List.getElem?_take, if_pos hx, List.getElem?_drop, List.getElem?_take, if_pos (by omega), List.getElem?_drop, List.getElem?_take, if_pos (by omega), List.getElem?_drop]
          congr 1; omega
        · rw [List.getElem?_eq_none (by rw [List.length_take]; omega), List.getElem?_eq_none (by rw [List.length_take]; omega)]
      have hb : Nat.ble (o + j * sz + t + k') d.length = true := Nat.ble_eq_true_of_le (by omega)
      rw [hi]
      cases obj with
      | cells c' g' => cases hd; simp [rdPart, part?, hb, key]
      | lent c' => cases hd; simp [rdPart, part?, hb, key]
      | map _ _ => cases hd
      | iter _ _ _ _ => cases hd
/-- A byte or a bit of a slice. -/
theorem one_at {n : Nat} {v : Value} {c : List Value} (h : SlR σ 1 v n c) {j : Nat} {x : Value} (e : c[j]? = some x) (hj : j < n) : ∃ i o, iaddrS 1 v (.int .i64 (j : Nat)) = some (.pointer (some ⟨i, o, none⟩)) ∧ rdOne (σ.get i) o = some x := by
  obtain ⟨i, o, q1, _, _, q4⟩ := h.at (by decide) hj
  rw [Nat.mul_one, e] at q4
  exact ⟨i, o, q1 .i64, q4⟩
end Go.Proofs.YthojojlgmaoecaaGreat
