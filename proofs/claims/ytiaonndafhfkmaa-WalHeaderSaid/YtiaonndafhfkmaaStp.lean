/- What the statements of chapter 08 on steps lean on: live disks, sizes, arrays of blocks. -/
import Derived.Test.YtiaonndafhfkmaaL8c
set_option linter.all false
set_option maxRecDepth 100000
set_option maxHeartbeats 400000
namespace Go.Proofs.Ytiaonndafhfkmaa
open Go.Am
variable {σ : Store} {Q : Value → Store → Prop} {g : Geo} {s : DS} {w : WS} {m : Nat}
/-- A disk that does not stop. -/
def DS.live (s : DS) : Prop := s.dead = false ∧ s.fuse < 0
theorem live_write (h : s.live) {i : Int} {b : List Int} (h0 : 0 ≤ i) (h1 : i < s.n) : (s.write i b).1 = 0 ∧ (s.write i b).2.live := by
  obtain ⟨hd, hf⟩ := h
  unfold DS.write
  rw [hd, if_neg (by simp), if_neg (by omega), if_neg (by omega)]
  refine ⟨rfl, ?_, ?_⟩
  · show s.burnt.dead = false
    unfold DS.burnt; rw [if_neg (by omega)]; exact hd
  · show s.burnt.fuse < 0
    unfold DS.burnt; rw [if_neg (by omega)]
    show (if 0 < s.fuse then s.fuse - 1 else s.fuse) < 0
    rw [if_neg (by omega)]; exact hf
theorem live_barrier (h : s.live) : s.barrier.1 = 0 ∧ s.barrier.2.live := by
  obtain ⟨hd, hf⟩ := h
  unfold DS.barrier
  rw [hd, if_neg (by simp), if_neg (by omega)]
  refine ⟨rfl, ?_, ?_⟩
  · show s.burnt.dead = false
    unfold DS.burnt; rw [if_neg (by omega)]; exact hd
  · show s.burnt.fuse < 0
    unfold DS.burnt; rw [if_neg (by omega)]
    show (if 0 < s.fuse then s.fuse - 1 else s.fuse) < 0
    rw [if_neg (by omega)]; exact hf
