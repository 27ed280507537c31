/- What a disk's blocks read as, behind writes and barriers. No program in sight but the disk's state. -/
import Derived.Test.YtiaonndafhfkmaaOpq
set_option linter.all false
set_option maxRecDepth 100000
namespace Go.Proofs.Ytiaonndafhfkmaa
open Go.Am
inductive DOp where
  | w (i : Int) (b : List Int)
  | bar
def DS.op (s : DS) : DOp → Int × DS
  | .w i b => s.write i b
  | .bar => s.barrier
/-- One behind the other, as far as they go. -/
def DS.run (s : DS) : List DOp → Int × DS
  | [] => (0, s)
  | o :: r => if (s.op o).1 = 0 then (s.op o).2.run r else (3, (s.op o).2)
theorem run_cons (s : DS) (o : DOp) (r : List DOp) : s.run (o :: r) = if (s.op o).1 = 0 then (s.op o).2.run r else (3, (s.op o).2) := rfl
theorem run_app : ∀ (a b : List DOp) (s : DS), s.run (a ++ b) = if (s.run a).1 = 0 then (s.run a).2.run b else s.run a
  | [], b, s => by simp [DS.run]
  | o :: a, b, s => by
    rw [List.cons_append, run_cons, run_cons]
    by_cases h : (s.op o).1 = 0
    · rw [if_pos h, if_pos h, run_app a b]
    · rw [if_neg h, if_neg h, if_neg (by show (3 : Int) ≠ 0; decide)]
theorem write_n (s : DS) (i : Int) (b : List Int) : (s.write i b).2.n = s.n := by
  unfold DS.write
  have := (burnt_same s).1
  (repeat' split) <;> first | rfl | exact this
theorem barrier_n (s : DS) : s.barrier.2.n = s.n := by
  unfold DS.barrier
  have := (burnt_same s).1
  (repeat' split) <;> first | rfl | exact this
theorem op_n (s : DS) (o : DOp) : (s.op o).2.n = s.n := by cases o <;> first | exact write_n _ _ _ | exact barrier_n _
theorem run_n (s : DS) (l : List DOp) : (s.run l).2.n = s.n := by
  induction l generalizing s with
  | nil => rfl
  | cons o l ih =>
    rw [run_cons]
    split
    · rw [ih, op_n]
    · exact op_n _ _
theorem burnt_at (s : DS) (x : Int) : s.burnt.at x = s.at x := by
  unfold DS.at
  rw [(burnt_same s).2.2.1, (burnt_same s).2.1]
theorem barHeld_at : ∀ (w : List (Int × List Int)) (f : Int → Option (List Int)) (x : Int), (barHeld f w x).getD zb = (match lastOf w x with | some b => b | none => (f x).getD zb)
  | [], f, x => rfl
  | (i, b) :: w, f, x => by
    show (barHeld (keepF f i b) w x).getD zb = _
    rw [barHeld_at w]
    simp only [lastOf]
    cases hl : lastOf w x with
    | some c => simp
    | none =>
      simp only [Option.none_or]
      unfold keepF
      by_cases hx : i = x
      · rw [if_pos hx.symm, if_pos hx]
        by_cases hb : b = zb
        · rw [if_pos hb]; simp [hb]
        · rw [if_neg hb]; simp
      · rw [if_neg (fun e => hx e.symm), if_neg hx]
theorem barrier_at (s : DS) (x : Int) : s.barrier.2.at x = s.at x := by
  unfold DS.barrier
  split
  · rfl
  · split
    · exact burnt_at s x
    · show (match lastOf [] x with | some b => b | none => (barHeld s.held s.wait x).getD zb) = _
      simp only [lastOf]
      rw [barHeld_at]
      rfl
theorem write_at (s : DS) (i : Int) (b : List Int) (x : Int) : (s.write i b).2.at x = if (s.write i b).1 = 0 ∧ x = i then b else s.at x := by
  unfold DS.write
  split
  · simp
  · split
    · simp
    · split
      · simp [burnt_at]
      · simp only [true_and]
        show (match lastOf (s.wait ++ [(i, b)]) x with | some b => b | none => (s.burnt.held x).getD zb) = _
        rw [lastOf_app, (burnt_same s).2.1]
        by_cases hx : x = i
        · rw [if_pos hx.symm, if_pos hx]
        · rw [if_neg (fun e => hx e.symm), if_neg hx]; rfl
theorem write_err {s : DS} {i : Int} {b : List Int} (h0 : 0 ≤ i) (h1 : i < s.n) : (s.write i b).1 = 0 ∨ ((s.write i b).1 = 3 ∧ (s.write i b).2.dead = true) := by
  unfold DS.write
  cases hd : s.dead
  · rw [if_neg (by simp), if_neg (by omega)]
    by_cases hf : s.fuse = 0
    · rw [if_pos hf]
      right
      refine ⟨rfl, ?_⟩
      unfold DS.burnt
      rw [if_pos hf]
    · rw [if_neg hf]; exact .inl rfl
  · rw [if_pos rfl]; exact .inr ⟨rfl, hd⟩
theorem barrier_err {s : DS} : s.barrier.1 = 0 ∨ (s.barrier.1 = 3 ∧ s.barrier.2.dead = true) := by
  unfold DS.barrier
  cases hd : s.dead
  · rw [if_neg (by simp)]
    by_cases hf : s.fuse = 0
    · rw [if_pos hf]
      right
      refine ⟨rfl, ?_⟩
      unfold DS.burnt
      rw [if_pos hf]
    · rw [if_neg hf]; exact .inl rfl
  · rw [if_pos rfl]; exact .inr ⟨rfl, hd⟩
theorem burnt_dead {s : DS} (h : s.fuse ≠ 0) : s.burnt.dead = s.dead := by unfold DS.burnt; rw [if_neg h]
theorem write_mine {s : DS} {i : Int} {b : List Int} {k : Int} (h : (s.write i b).1 = 0) : (s.write i b).2.mine k = s.mine k := by
  unfold DS.write at h ⊢
  split
  · rfl
  · split
    · rfl
    · split
      · rename_i h1 h2 h3
        rw [if_neg h1, if_neg h2, if_pos h3] at h; simp at h
      · rename_i h3
        unfold DS.mine
        show (!s.burnt.dead && decide (0 < k) && decide (s.burnt.claim = k)) = _
        rw [burnt_dead h3, (burnt_same s).2.2.2.2.2.2]
theorem barrier_mine {s : DS} {k : Int} (h : s.barrier.1 = 0) : s.barrier.2.mine k = s.mine k := by
  unfold DS.barrier at h ⊢
  split
  · rfl
  · split
    · rename_i h1 h3
      rw [if_neg h1, if_pos h3] at h; simp at h
    · rename_i h3
      unfold DS.mine
      show (!s.burnt.dead && decide (0 < k) && decide (s.burnt.claim = k)) = _
      rw [burnt_dead h3, (burnt_same s).2.2.2.2.2.2]
theorem mine_dead {s : DS} {k : Int} (h : s.mine k = true) : s.dead = false := by unfold DS.mine at h; cases hh : s.dead <;> simp_all
/-- The number of things done adds up. -/
theorem run_C {s : DS} {m : Nat} (h : s.C m) : ∀ {l : List DOp}, (∀ i b, DOp.w i b ∈ l → b.length = 1024) → (s.run l).2.C (m + l.length) := by
  intro l
  induction l generalizing s m with
  | nil => intro _; exact h
  | cons o l ih =>
    intro hl
    have ho : (s.op o).2.C (m + 1) := by
      cases o with
      | w i b => exact write_C h (hl i b List.mem_cons_self)
      | bar => exact barrier_C h
    rw [run_cons, List.length_cons]
    split
    · exact (ih ho fun i b hb => hl i b (List.mem_cons_of_mem _ hb)).le (by omega)
    · exact ho.le (by omega)
end Go.Proofs.Ytiaonndafhfkmaa
