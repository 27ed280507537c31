/- The abstract machine, part 32: slices that are read. No program in sight. -/
import Derived.Test.YtfcefiabbdakgaaAm31
set_option linter.all false
namespace Go.Am
open Go.RowKit
variable {P : Program} {σ σ' : Store}

def objCells : SObj → Option (List Value)
  | .cells c _ => some c
  | .lent c => some c
  | _ => none
/-- A slice of n elements of sz cells, and its cells. -/
def SlR (σ : Store) (sz : Nat) (v : Value) (n : Nat) (c : List Value) : Prop :=
  c.length = n * sz ∧ ((n = 0 ∧ ∃ k, v = .slice none 0 k) ∨ ∃ i o g k obj d, v = .slice (some ⟨i, o, g⟩) n k ∧ (g = none ∨ g = some sz) ∧ σ.get i = some obj ∧ objCells obj = some d ∧ (d.drop o).take (n * sz) = c)
theorem SlR.len {sz n : Nat} {v : Value} {c : List Value} (h : SlR σ sz v n c) : lenSl v = some (.int .i64 (n : Nat)) := by
  rcases h.2 with ⟨rfl, k, rfl⟩ | ⟨i, o, g, k, obj, d, rfl, _⟩
  · rfl
  · rfl
theorem SlR.at {sz n : Nat} {v : Value} {c : List Value} (h : SlR σ sz v n c) (hs : 0 < sz) {j : Nat} (hj : j < n) :
    ∃ i o, (∀ k : IntKind, iaddrS sz v (.int k (j : Nat)) = some (.pointer (some ⟨i, o, none⟩))) ∧ i < σ.next ∧ rdPart (σ.get i) o sz = some (.agg ⟨(c.drop (j * sz)).take sz⟩) ∧ rdOne (σ.get i) o = c[j * sz]? := by
  rcases h.2 with ⟨rfl, _⟩ | ⟨i, o, g, k, obj, d, rfl, hg, hi, hd, hc⟩
  · omega
  · have hlen := h.1
    have hle : (j + 1) * sz ≤ n * sz := Nat.mul_le_mul_right _ hj
    have e : (j + 1) * sz = j * sz + sz := Nat.succ_mul _ _
    have hcl : ((d.drop o).take (n * sz)).length = n * sz := by rw [hc]; exact hlen
    rw [List.length_take, List.length_drop] at hcl
    refine ⟨i, o + j * sz, fun k' => ?_, Store.lt_of_get hi, ?_, ?_⟩
    · rcases hg with rfl | rfl
      · rw [iaddrS_eq (by omega) (by omega)]; simp
      · rw [iaddrS_grown (by omega) (by omega)]; simp
    · have key : (d.drop (o + j * sz)).take sz = (c.drop (j * sz)).take sz := by
        rw [← hc, List.drop_take, List.take_take, List.drop_drop]
        congr 1
        omega
      have hb : Nat.ble (o + j * sz + sz) d.length = true := Nat.ble_eq_true_of_le (by omega)
      rw [hi]
      cases obj with
      | cells c' g' => cases hd; simp [rdPart, part?, hb, key]
      | lent c' => cases hd; simp [rdPart, part?, hb, key]
      | map _ _ => cases hd
    · rw [hi]
      have key : d[o + j * sz]? = c[j * sz]? := by
        rw [← hc, List.getElem?_take, if_pos (by omega), List.getElem?_drop]
      cases obj with
      | cells c' g' => cases hd; exact key
      | lent c' => cases hd; exact key
      | map _ _ => cases hd
theorem SlR.keeps {sz n : Nat} {v : Value} {c : List Value} (h : SlR σ sz v n c) (hk : ∀ i o, σ.get i = some o → σ'.get i = some o) : SlR σ' sz v n c := by
  refine ⟨h.1, ?_⟩
  rcases h.2 with h0 | ⟨i, o, g, k, obj, d, h1, h2, h3, h4, h5⟩
  · exact .inl h0
  · exact .inr ⟨i, o, g, k, obj, d, h1, h2, hk _ _ h3, h4, h5⟩
theorem SlR.new {sz n k i : Nat} {g g' : Option Nat} {c : List Value} (hg : g = none ∨ g = some sz) (h : σ.get i = some (.cells c g')) (hl : c.length = n * sz) : SlR σ sz (.slice (some ⟨i, 0, g⟩) n k) n c :=
  ⟨hl, .inr ⟨i, 0, g, k, _, c, rfl, hg, h, rfl, by rw [List.drop_zero, ← hl, List.take_length]⟩⟩
theorem SlR.nil {sz k : Nat} : SlR σ sz (.slice none 0 k) 0 [] := ⟨by simp, .inl ⟨rfl, k, rfl⟩⟩
end Go.Am
