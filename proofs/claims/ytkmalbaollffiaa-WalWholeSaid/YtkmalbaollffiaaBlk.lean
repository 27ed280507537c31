/- Arrays of blocks; what is read of a slice's elements. -/
import Derived.Test.YtkmalbaollffiaaOpq
import Derived.Test.YtkmalbaollffiaaEls
set_option linter.all false
set_option maxRecDepth 100000
set_option maxHeartbeats 400000
namespace Go.Proofs.Ytkmalbaollffiaa
open Go.Am
variable {σ : Store} {Q : Value → Store → Prop} {s : DS} {m : Nat}
/-- Bytes laid over others. -/
def layB (b : List Int) (x : Nat) (l : List Int) : List Int := b.take x ++ l ++ b.drop (x + l.length)
theorem layB_len {b l : List Int} {x : Nat} (h : x + l.length ≤ b.length) : (layB b x l).length = b.length := by
  simp [layB]; omega
theorem layB_at {b l : List Int} {x y : Nat} (hl : l.length = 1024) (h : (x + 1) * 1024 ≤ b.length) (hy : (y + 1) * 1024 ≤ b.length) : ((layB b (x * 1024) l).drop (y * 1024)).take 1024 = if y = x then l else (b.drop (y * 1024)).take 1024 := by
  have e : ∀ i, (layB b (x * 1024) l)[i]? = if i < x * 1024 then b[i]? else if i < x * 1024 + 1024 then l[i - x * 1024]? else b[i]? := fun i => by
    unfold layB
    by_cases h1 : i < x * 1024
    · rw [if_pos h1, List.append_assoc, List.getElem?_append_left (by rw [List.length_take]; omega), List.getElem?_take, if_pos h1]
    · rw [if_neg h1]
      by_cases h2 : i < x * 1024 + 1024
      · rw [if_pos h2, List.append_assoc, List.getElem?_append_right (by rw [List.length_take]; omega), List.getElem?_append_left (by rw [List.length_take]; omega), List.length_take, Nat.min_eq_left (by omega)]
      · rw [if_neg h2, List.getElem?_append_right (by rw [List.length_append, List.length_take]; omega), List.getElem?_drop, List.length_append, List.length_take, Nat.min_eq_left (by omega), hl]
        congr 1; omega
  refine List.ext_getElem? fun i => ?_
  by_cases hi : i < 1024
  · rw [List.getElem?_take, if_pos hi, List.getElem?_drop, e]
    by_cases hyx : y = x
    · subst hyx
      rw [if_neg (by omega), if_pos (by omega), if_pos rfl]
      congr 1; omega
    · rw [if_neg hyx, List.getElem?_take, if_pos hi, List.getElem?_drop]
      rcases Nat.lt_or_gt_of_ne hyx with hlt | hlt
      · rw [if_pos (by omega)]
      · rw [if_neg (by omega), if_neg (by omega)]
  · rw [List.getElem?_eq_none (by rw [List.length_take]; omega), List.getElem?_eq_none]
    split
    · omega
    · rw [List.length_take]; omega
theorem splice_bc (b l : List Int) (o : Nat) : splice (bc b) o (bc l) = bc (layB b o l) := by
  unfold splice layB
  cases o with
  | zero => simp [bc_drop, bc_app]
  | succ o => simp [bc_drop, bc_app, bc_take]
theorem store_bytes {i o n : Nat} {b l : List Int} {g : Option Nat} {σ : Store} (h : σ.get i = some (.cells (bc b) g)) (hl : l.length = n) (hb : o + n ≤ b.length) : storeV n (.pointer (some ⟨i, o, none⟩)) (.agg ⟨bc l⟩) σ = some (junk, σ.put i (some (.cells (bc (layB b o l)) g))) := by
  rw [store_cells h (vs := bc l) (by simp [asCells, cellsL, hl]) (by rw [bc_len]; exact hb), splice_bc]
/-- An array of blocks tells what is held. -/
def Hd (B : List Int) (n : Nat) (f : Int → Option (List Int)) : Prop := B.length = n * 1024 ∧ ∀ y : Nat, y < n → (B.drop (y * 1024)).take 1024 = (f (y : Int)).getD zb
theorem Hd.keep {B b : List Int} {n : Nat} {f : Int → Option (List Int)} (h : Hd B n f) {x : Nat} (hx : x < n) (hb : b.length = 1024) : Hd (layB B (x * 1024) b) n (keepF f (x : Int) b) := by
  have h1 := h.1
  refine ⟨by rw [layB_len (by omega), h1], fun y hy => ?_⟩
  rw [layB_at hb (by omega) (by omega)]
  unfold keepF
  by_cases e : y = x
  · rw [if_pos e, if_pos (by rw [e])]
    split
    · rename_i hz; rw [hz]; rfl
    · rfl
  · rw [if_neg e, if_neg (by omega), h.2 y hy]
theorem Hd.new {n : Nat} : Hd (List.replicate (n * 1024) 0) n fun _ => none := by
  refine ⟨by simp, fun y hy => ?_⟩
  rw [List.drop_replicate, List.take_replicate, Nat.min_eq_left (by omega)]
  rfl
end Go.Proofs.Ytkmalbaollffiaa
