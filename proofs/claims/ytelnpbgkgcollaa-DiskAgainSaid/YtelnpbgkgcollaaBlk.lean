/- Arrays of blocks; what is read of a slice's elements. -/
import Derived.Test.YtelnpbgkgcollaaOpq
set_option linter.all false
set_option maxRecDepth 100000
set_option maxHeartbeats 400000
namespace Go.Proofs.Ytelnpbgkgcollaa
open Go.Am
variable {σ : Store} {Q : Value → Store → Prop} {s : DS} {m : Nat}
/-- Bytes laid over others. -/
def layB (b : List Int) (x : Nat) (l : List Int) : List Int := b.take x ++ l ++ b.drop (x + l.length)
theorem layB_len {b l : List Int} {x : Nat} (h : x + l.length ≤ b.length) : (layB b x l).length = b.length := by
  simp [layB]; omega
theorem layB_at {b l : List Int} {x y : Nat} (hl : l.length = 1024) (h : (x + 1) * 1024 ≤ b.length) (hy : (y + 1) * 1024 ≤ b.length) : ((layB b (x * 1024) l).drop (y * 1024)).take 1024 = if y = x then l else (b.drop (y * 1024)).take 1024 := by
  have e : ∀ i, (layB b (x * 1024) l)[i]? = if i < x * 1024 then b[i]? else if i < x * 1024 + 1024 then l[i - x * 1024]? else b[i]? := fun i => by
    unfold layB
    by_cases h1 : i < x * 1024
    · rw [if_pos h1, List.append_assoc, List.getElem?_append_left (by rw [List.length_take]; omega), List.getElem?_take, if_pos h1]
    · rw [if_neg h1]
      by_cases h2 : i < x * 1024 + 1024
      · rw [if_pos h2, List.append_assoc, List.getElem?_append_right (by rw [List.length_take]; omega), List.getElem?_append_left (by rw [List.length_take]; omega), List.length_take, Nat.min_eq_left (by omega)]
      · rw [if_neg h2, List.getElem?_append_right (by rw [List.length_append, List.length_take]; omega), List.getElem?_drop, List.length_append, List.length_take, Nat.min_eq_left (by omega), hl]
        congr 1; omega
  refine List.ext_getElem? fun i => ?_
  by_cases hi : i < 1024
  · rw [List.getElem?_take, if_pos hi, List.getElem?_drop, e]
    by_cases hyx : y = x
    · subst hyx
      rw [if_neg (by omega), if_pos (by omega), if_pos rfl]
      congr 1; omega
    · rw [if_neg hyx, List.getElem?_take, if_pos hi, List.getElem?_drop]
      rcases Nat.lt_or_gt_of_ne hyx with hlt | hlt
      · rw [if_pos (by omega)]
      · rw [if_neg (by omega), if_neg (by omega)]
  · rw [List.getElem?_eq_none (by rw [List.length_take]; omega), List.getElem?_eq_none]
    split
    · omega
    · rw [List.length_take]; omega
theorem splice_bc (b l : List Int) (o : Nat) : splice (bc b) o (bc l) = bc (layB b o l) := by
  unfold splice layB
  cases o with
  | zero => simp [bc_drop, bc_app]
  | succ o => simp [bc_drop, bc_app, bc_take]
theorem store_bytes {i o n : Nat} {b l : List Int} {g : Option Nat} {σ : Store} (h : σ.get i = some (.cells (bc b) g)) (hl : l.length = n) (hb : o + n ≤ b.length) : storeV n (.pointer (some ⟨i, o, none⟩)) (.agg ⟨bc l⟩) σ = some (junk, σ.put i (some (.cells (bc (layB b o l)) g))) := by
  rw [store_cells h (vs := bc l) (by simp [asCells, cellsL, hl]) (by rw [bc_len]; exact hb), splice_bc]
theorem make_blocks {n : Nat} {k : IntKind} (h : n ≤ 10000) : makeS (bc zb) 1024 (.int k (n : Nat)) (.int k (n : Nat)) = some (.cells (bc (List.replicate (n * 1024) 0)) none, fun i => .slice (some ⟨i, 0, none⟩) n n) := by
  have h1 : (0 : Int) ≤ (n : Nat) ∧ ((n : Nat) : Int) = (n : Nat) ∧ ((n : Nat) : Int) ≤ 9223372036854775807 ∧ ((1024 : Nat) : Int) * (n : Nat) ≤ 281474976710656 := by omega
  have h2 : ∀ n : Nat, (List.replicate n (bc zb)).flatten = bc (List.replicate (n * 1024) 0) := fun n => by
    induction n with
    | zero => simp [bc]
    | succ n ih =>
      rw [List.replicate_succ, List.flatten_cons, ih, bc_app]
      congr 1
      unfold zb
      rw [List.replicate_append_replicate]
      congr 1; omega
  unfold makeS
  show (if _ then _ else none) = _
  rw [if_pos h1, Int.toNat_natCast, h2]
/-- An element of a slice: its place; each of its cells and parts is read. -/
theorem el_at {sz n : Nat} {v : Value} {c : List Value} (h : SlR σ sz v n c) (hs : 0 < sz) {j : Nat} (hj : j < n) : ∃ i o, (∀ k : IntKind, iaddrS sz v (.int k (j : Nat)) = some (.pointer (some ⟨i, o, none⟩))) ∧ i < σ.next ∧ (∀ t, t < sz → rdOne (σ.get i) (o + t) = ((c.drop (j * sz)).take sz)[t]?) ∧
    ∀ t k, t + k ≤ sz → rdPart (σ.get i) (o + t) k = some (.agg ⟨(((c.drop (j * sz)).take sz).drop t).take k⟩) := by
  rcases h.2 with ⟨rfl, _⟩ | ⟨i, o, g, k, obj, d, rfl, hg, hi, hd, hc⟩
  · omega
  · have hlen := h.1
    have hle : (j + 1) * sz ≤ n * sz := Nat.mul_le_mul_right _ hj
    have e : (j + 1) * sz = j * sz + sz := Nat.succ_mul _ _
    have hcl : ((d.drop o).take (n * sz)).length = n * sz := by rw [hc]; exact hlen
    rw [List.length_take, List.length_drop] at hcl
    refine ⟨i, o + j * sz, fun k' => ?_, Store.lt_of_get hi, fun t ht => ?_, fun t k' ht => ?_⟩
    · rcases hg with rfl | rfl
      · rw [iaddrS_eq (by omega) (by omega)]; simp
      · rw [iaddrS_grown (by omega) (by omega)]; simp
    · have key : d[o + j * sz + t]? = ((c.drop (j * sz)).take sz)[t]? := by
        rw [← hc, List.getElem?_take, if_pos ht, List.getElem?_drop, List.getElem?_take, if_pos (by omega), List.getElem?_drop]
        congr 1; omega
      rw [hi]
      cases obj with
      | cells c' g' => cases hd; exact key
      | lent c' => cases hd; exact key
      | map _ _ => cases hd
      | iter _ _ _ _ => cases hd
    · have key : (d.drop (o + j * sz + t)).take k' = (((c.drop (j * sz)).take sz).drop t).take k' := by
        refine List.ext_getElem? fun x => ?_
        by_cases hx : x < k'
        · rw [← hc, List.getElem?_take, if_pos hx, List.getElem?_drop, List.getElem?_take, if_pos hx, List.getElem?_drop, List.getElem?_take, if_pos (by omega), List.getElem?_drop, List.getElem?_take, if_pos (by omega), List.getElem?_drop]
          congr 1; omega
        · rw [List.getElem?_eq_none (by rw [List.length_take]; omega), List.getElem?_eq_none (by rw [List.length_take]; omega)]
      have hb : Nat.ble (o + j * sz + t + k') d.length = true := Nat.ble_eq_true_of_le (by omega)
      rw [hi]
      cases obj with
      | cells c' g' => cases hd; simp [rdPart, part?, hb, key]
      | lent c' => cases hd; simp [rdPart, part?, hb, key]
      | map _ _ => cases hd
      | iter _ _ _ _ => cases hd
/-- A put. -/
theorem two_at {n : Nat} {v x y : Value} {c : List Value} (h : SlR σ 2 v n c) {j : Nat} (hj : j < n) (e : (c.drop (j * 2)).take 2 = [x, y]) : ∃ i o, iaddrS 2 v (.int .i64 (j : Nat)) = some (.pointer (some ⟨i, o, none⟩)) ∧ rdOne (σ.get i) o = some x ∧ rdOne (σ.get i) (o + 1) = some y := by
  obtain ⟨i, o, q1, _, q2, _⟩ := el_at h (by decide) hj
  have a0 := q2 0 (by decide)
  have a1 := q2 1 (by decide)
  rw [e] at a0 a1
  exact ⟨i, o, q1 .i64, a0, a1⟩
/-- A write that waits. -/
theorem held_at {w : List (Int × List Int)} {v : Value} (h : SlR σ 1025 v w.length (waitC w)) (hw : ∀ p ∈ w, p.2.length = 1024) {j : Nat} {x : Int} {b : List Int} (e : w[j]? = some (x, b)) :
    ∃ i o, iaddrS 1025 v (.int .i64 (j : Nat)) = some (.pointer (some ⟨i, o, none⟩)) ∧ rdOne (σ.get i) o = some (.int .i64 x) ∧ rdPart (σ.get i) (o + 1) 1024 = some (.agg ⟨bc b⟩) := by
  have hj : j < w.length := (List.getElem?_eq_some_iff.1 e).1
  obtain ⟨i, o, q1, _, q2, q3⟩ := el_at h (by decide) hj
  have a0 := q2 0 (by decide)
  have a1 := q3 1 1024 (by decide)
  rw [waitC_at hw e] at a0 a1
  have hb : b.length = 1024 := hw (x, b) (List.mem_of_getElem? e)
  refine ⟨i, o, q1 .i64, a0, ?_⟩
  rw [a1, List.drop_one, List.tail_cons, List.take_of_length_le (by rw [bc_len]; omega)]
/-- A byte or a bit of a slice. -/
theorem one_at {n : Nat} {v : Value} {c : List Value} (h : SlR σ 1 v n c) {j : Nat} {x : Value} (e : c[j]? = some x) (hj : j < n) : ∃ i o, iaddrS 1 v (.int .i64 (j : Nat)) = some (.pointer (some ⟨i, o, none⟩)) ∧ rdOne (σ.get i) o = some x := by
  obtain ⟨i, o, q1, _, _, q4⟩ := h.at (by decide) hj
  rw [Nat.mul_one, e] at q4
  exact ⟨i, o, q1 .i64, q4⟩
/-- An array of blocks tells what is held. -/
def Hd (B : List Int) (n : Nat) (f : Int → Option (List Int)) : Prop := B.length = n * 1024 ∧ ∀ y : Nat, y < n → (B.drop (y * 1024)).take 1024 = (f (y : Int)).getD zb
theorem Hd.keep {B b : List Int} {n : Nat} {f : Int → Option (List Int)} (h : Hd B n f) {x : Nat} (hx : x < n) (hb : b.length = 1024) : Hd (layB B (x * 1024) b) n (keepF f (x : Int) b) := by
  have h1 := h.1
  refine ⟨by rw [layB_len (by omega), h1], fun y hy => ?_⟩
  rw [layB_at hb (by omega) (by omega)]
  unfold keepF
  by_cases e : y = x
  · rw [if_pos e, if_pos (by rw [e])]
    split
    · rename_i hz; rw [hz]; rfl
    · rfl
  · rw [if_neg e, if_neg (by omega), h.2 y hy]
theorem Hd.new {n : Nat} : Hd (List.replicate (n * 1024) 0) n fun _ => none := by
  refine ⟨by simp, fun y hy => ?_⟩
  rw [List.drop_replicate, List.take_replicate, Nat.min_eq_left (by omega)]
  rfl
end Go.Proofs.Ytelnpbgkgcollaa
