/- What is done up to a barrier and then the rest: without a program; and what is put behind a slice. -/
import Derived.Test.YthojojlgmaoecaaGreatSam5
set_option linter.all false
set_option maxRecDepth 100000
set_option maxHeartbeats 800000
namespace Go.Proofs.YthojojlgmaoecaaGreat
open Go.Am Go.Sort
variable {σ : Store} {f g : Int → Option (List Int)} {O M P : List OP} {ks : List Bool}
theorem getD_left {j : Nat} (h : j < O.length) : (O ++ M).getD j (0, 0, []) = O.getD j (0, 0, []) := by
  rw [List.getD_eq_getElem?_getD, List.getD_eq_getElem?_getD, List.getElem?_append_left h]
theorem getD_right {j : Nat} : (O ++ M).getD (O.length + j) (0, 0, []) = M.getD j (0, 0, []) := by
  rw [List.getD_eq_getElem?_getD, List.getD_eq_getElem?_getD, List.getElem?_append_right (by omega), show O.length + j - O.length = j by omega]
def bar : OP := (2, 0, zb)
theorem SlG_cap {sz n : Nat} {v : Value} {c : List Value} (h : SlG σ sz v n c) : CapOk v := by
  rcases h.2 with ⟨_, rfl⟩ | ⟨i, rfl, _⟩
  · intro p n k e; cases e; exact Nat.le_refl _
  · intro p n k e; cases e; exact Nat.le_refl _
end Go.Proofs.YthojojlgmaoecaaGreat
