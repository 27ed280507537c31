/- What the statements of chapter 08 on steps lean on: live disks, sizes, arrays of blocks. -/
import Derived.Test.YtkmalbaollffiaaL8c
set_option linter.all false
set_option maxRecDepth 100000
set_option maxHeartbeats 400000
namespace Go.Proofs.Ytkmalbaollffiaa
open Go.Am
variable {σ : Store} {Q : Value → Store → Prop} {g : Geo} {s : DS} {w : WS} {m : Nat}
/-- A disk that does not stop. -/
def DS.live (s : DS) : Prop := s.dead = false ∧ s.fuse < 0
theorem live_write (h : s.live) {i : Int} {b : List Int} (h0 : 0 ≤ i) (h1 : i < s.n) : (s.write i b).1 = 0 ∧ (s.write i b).2.live := by
  obtain ⟨hd, hf⟩ := h
  unfold DS.write
  rw [hd, if_neg (by simp), if_neg (by omega), if_neg (by omega)]
  refine ⟨rfl, ?_, ?_⟩
  · show s.burnt.dead = false
    unfold DS.burnt; rw [if_neg (by omega)]; exact hd
  · show s.burnt.fuse < 0
    unfold DS.burnt; rw [if_neg (by omega)]
    show (if 0 < s.fuse then s.fuse - 1 else s.fuse) < 0
    rw [if_neg (by omega)]; exact hf
theorem live_barrier (h : s.live) : s.barrier.1 = 0 ∧ s.barrier.2.live := by
  obtain ⟨hd, hf⟩ := h
  unfold DS.barrier
  rw [hd, if_neg (by simp), if_neg (by omega)]
  refine ⟨rfl, ?_, ?_⟩
  · show s.burnt.dead = false
    unfold DS.burnt; rw [if_neg (by omega)]; exact hd
  · show s.burnt.fuse < 0
    unfold DS.burnt; rw [if_neg (by omega)]
    show (if 0 < s.fuse then s.fuse - 1 else s.fuse) < 0
    rw [if_neg (by omega)]; exact hf
theorem live_run : ∀ {l : List DOp} {s : DS}, s.live → (∀ i b, DOp.w i b ∈ l → 0 ≤ i ∧ i < s.n) → (s.run l).1 = 0 ∧ (s.run l).2.live
  | [], s, h, _ => ⟨rfl, h⟩
  | o :: l, s, h, hl => by
    have ho : (s.op o).1 = 0 ∧ (s.op o).2.live := by
      cases o with
      | w i b => exact live_write h (hl i b (List.mem_cons_self ..)).1 (hl i b (List.mem_cons_self ..)).2
      | bar => exact live_barrier h
    rw [run_cons, if_pos ho.1]
    exact live_run ho.2 fun i b hb => by rw [op_n]; exact hl i b (List.mem_cons_of_mem _ hb)
theorem logOps_in {o : List (Int × List Int)} : ∀ n, ∀ i b, DOp.w i b ∈ logOps o n → 2 ≤ i ∧ i < 2 + n
  | 0, i, b, hb => by cases hb
  | n + 1, i, b, hb => by
    rcases List.mem_append.1 hb with hb | hb
    · have := logOps_in n i b hb; omega
    · have : i = 2 + n := by
        have h := List.mem_singleton.1 hb
        cases h; rfl
      omega
theorem commit_C' (h : s.C m) (hW : WOk w) : (s.run (commitOps w.grp)).2.C (m + 600) := by
  have := run_C h (commitOps_ok hW.len)
  rw [commitOps_len] at this
  have hm := hW.many
  have hg := hW.g
  unfold Geo.ok at hg
  exact this.le (by omega)
