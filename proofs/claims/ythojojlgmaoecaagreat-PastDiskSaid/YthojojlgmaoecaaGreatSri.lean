/- The abstract machine: slices.Sort over a slice of whole numbers of its owner's, as a call. No program in sight. -/
import Derived.Test.YthojojlgmaoecaaGreatSrf
import Derived.Test.YthojojlgmaoecaaGreatDsm
import Derived.Shelf.Slices.In.SortNone
set_option linter.all false
namespace Go.Am
open Go.Sort Go.RowKit Go.Proofs Go.Proofs.YthojojlgmaoecaaGreat
variable {P : Program} {σ σ' : Store}
def one1 (x : Int) : List Value := [.int .i64 x]
theorem flat_one (L : List Int) : flatL one1 L = iC L := by
  unfold flatL iC one1
  induction L with
  | nil => rfl
  | cons a L ih => simp at ih ⊢; exact ih
theorem holds_one {w : World} {b o : Nat} {L : List Int} (h : HoldsK one1 1 w b o L.toArray) : Go.Sort.Holds (Value.int .i64) w b o L.toArray := by
  unfold HoldsK at h
  rw [flatK_list (enc := one1) (k := 1) (fun _ => rfl), flat_one] at h
  intro j hj
  have hj' : j < L.length := by simpa using hj
  have h1 := h j (by simpa [iC] using hj')
  rw [getElem!_pos _ j (by simpa [iC] using hj')] at h1
  rw [getElem!_pos _ j (by simpa using hj')]
  simpa [iC] using h1
theorem put_one (w : World) (b o : Nat) (d : List Int) : putRow (Value.int .i64) w b o d.toArray = putRow id w b o (iC d).toArray := by
  unfold putRow
  congr 1
  funext c
  unfold putCells
  congr 1
  funext k x
  have hs : (iC d).toArray.size = d.toArray.size := by simp [iC]
  rw [hs]
  by_cases h : o ≤ k ∧ k < o + d.toArray.size
  · rw [if_pos h, if_pos h]
    have hk : k - o < d.length := by have := h.2; simp at this; omega
    rw [getElem!_pos _ (k - o) (by simpa using hk), getElem!_pos _ (k - o) (by simpa [iC] using hk)]
    simp [iC]
  · rw [if_neg h, if_neg h]
theorem sorti_sim {f : FuncId} {i n : Nat} {L : List Int}
    (hsort : ∀ (w : World) (blk off c : Nat) (zs : List Int), Go.Sort.Holds (Value.int .i64) w blk off zs.toArray → blk < w.heap.size → zs.length < 4611686018427387904 →
      Calls P f #[.slice (some ⟨blk, off, none⟩) zs.length c] w fun e w' => e = .returned (.tuple #[]) ∧ ∃ n os, w' = grow (putRow (Value.int .i64) (Sort.ahead w n) blk off (zs.mergeSort fun x y => decide (x ≤ y)).toArray) os)
    (hi : σ.get i = some (.cells (iC L) (some 1))) (hn : L.length = n) (hsz : n < 4611686018427387904) :
    Sim P f [.slice (some ⟨i, 0, some 1⟩) n n] σ (.tuple #[]) (σ.put i (some (.cells (iC (L.mergeSort fun x y => decide (x ≤ y))) (some 1)))) := by
  refine ⟨by rw [Store.next_put_lt _ _ (Store.lt_of_get hi)]; exact Nat.le_refl _, fun M w cargs hr ha => ?_⟩
  obtain ⟨u0, rfl, v0⟩ : ∃ u0, cargs = #[u0] ∧ VR M false (.slice (some ⟨i, 0, some 1⟩) n n) u0 := by
    obtain ⟨hs, hv⟩ := ha
    have hs : cargs.size = 1 := by simpa using hs.symm
    refine ⟨cargs[0], ?_, hv 0 _ _ rfl (by simp)⟩
    apply Array.ext
    · simp [hs]
    · intro j h1 h2
      have : j = 0 := by simp at h2; omega
      subst this; rfl
  obtain ⟨l, cp, hl, rfl, _, _⟩ := v0.slice_
  have hi' := hi
  rw [← flat_one] at hi'
  obtain ⟨hH, hblk⟩ := holds_row (enc := one1) (k := 1) (fun _ => rfl) (fun _ => rfl) hr hi' hl
  refine Calls.mono (by
    have h := hsort w l.block l.base cp L (holds_one hH) hblk (by omega)
    rw [hn] at h
    have e0 : l.base + 0 = l.base := rfl
    exact h) ?_
  rintro e w' ⟨rfl, m, os, rfl⟩
  have hlen : (iC (L.mergeSort fun x y => decide (x ≤ y))).length = (iC L).length := by simp [iC]
  obtain ⟨r1, r2⟩ := rel_row (n := m) (os := os) hr hi hl (by simp [iC, scalar]) hlen
  rw [put_one]
  exact ⟨M, .tuple #[], rfl, .tuple _ _ rfl fun i v v' hv => by simp at hv, r1, r2⟩
end Go.Am
