/- The abstract machine: slices.SortFunc over a slice of its owner's, as a call. No program in sight. -/
import Derived.Test.YthojojlgmaoecaaGreatSrt
import Derived.Shelf.SlSortCmp.WholeK
set_option linter.all false
namespace Go.Am
open Go.Sort Go.RowKit Go.Proofs
variable {P : Program} {σ σ' : Store} {α : Type} [Inhabited α]
theorem sortf_sim {f g : FuncId} {enc : α → List Value} {k : Nat} {key : α → Int} {i n : Nat} {L : List α}
    (hk : ∀ x, (enc x).length = k) (hsc : ∀ x, (enc x).all scalar = true)
    (hsort : ∀ (w : World) (blk off c : Nat) (d : Array α), d.size < 4611686018427387904 → CmpLays P g #[] enc k (fun x y => key x - key y) blk off d.size w → HoldsK enc k w blk off d → blk < w.heap.size →
      Calls P f #[.slice (some ⟨blk, off, none⟩) d.size c, .func (.func g) #[] #[]] w fun e w' => e = .returned (.tuple #[]) ∧ ∃ n os, w' = sortWorldK enc k w blk off n (pdq (ltOf fun x y => key x - key y) d 0 d.size (Lib.bitLen d.size) true true) os)
    (hcmp : ∀ (W : World) (x y : α), Calls P g #[.agg (enc x).toArray, .agg (enc y).toArray] W fun e w' => e = .returned (.int .i64 (key x - key y)) ∧ ∃ q os', w' = grow (W.drewN q) os')
    (hi : σ.get i = some (.cells (flatL enc L) (some k))) (hn : L.length = n) (hO : SWO (ltOf fun x y : α => key x - key y)) (hsz : n < 4611686018427387904) :
    Sim P f [.slice (some ⟨i, 0, some k⟩) n n, .func (.func g) #[] #[]] σ (.tuple #[]) (σ.put i (some (.cells (flatL enc (srt (ltOf fun x y => key x - key y) L)) (some k)))) := by
  refine ⟨by rw [Store.next_put_lt _ _ (Store.lt_of_get hi)]; exact Nat.le_refl _, fun M w cargs hr ha => ?_⟩
  obtain ⟨u0, u1, rfl, v0, v1⟩ := ha.ex2
  obtain ⟨l, cp, hl, rfl, _, _⟩ := v0.slice_
  obtain ⟨g', xs, ys, hg, rfl, hx, hy, hxs, hys⟩ := v1.func_
  cases hg
  have hx0 : xs = #[] := Array.eq_empty_of_size_eq_zero (by simpa using hx.symm)
  subst hx0
  have hy0 : ys = #[] := Array.eq_empty_of_size_eq_zero (by simpa using hy.symm)
  subst hy0
  obtain ⟨hH, hblk⟩ := holds_row hk hsc hr hi hl
  have hsz0 : L.toArray.size = n := by simpa using hn
  have hC : CmpLays P g #[] enc k (fun x y => key x - key y) l.block l.base L.toArray.size w := fun m os dk hs x y => by simpa using hcmp _ x y
  refine Calls.mono (by
    have h := hsort w l.block l.base cp L.toArray (by omega) hC hH hblk
    rw [hsz0] at h
    exact h) ?_
  rintro e w' ⟨rfl, m, os, rfl⟩
  have hlen : (flatL enc (srt (ltOf fun x y => key x - key y) L)).length = (flatL enc L).length := by
    rw [flatL_len hk, flatL_len hk, srt_len hO]
  obtain ⟨r1, r2⟩ := rel_row (n := m) (os := os) hr hi hl (flat_scalar hsc (srt (ltOf fun x y => key x - key y) L)) hlen
  have he : sortWorldK enc k w l.block l.base m (pdq (ltOf fun x y => key x - key y) L.toArray 0 n (Lib.bitLen n) true true) os = grow (putRow id (Sort.ahead w m) l.block l.base (flatL enc (srt (ltOf fun x y => key x - key y) L)).toArray) os := by
    unfold sortWorldK putRowK
    rw [← flatK_list hk]
    simp only [srt, hsz0]
  rw [he]
  exact ⟨M, .tuple #[], rfl, .tuple _ _ rfl fun i v v' hv => by simp at hv, r1, r2⟩
end Go.Am
