/- past.image's order: the closure that slices.SortFunc calls; slices.SortFunc as past.image calls it. -/
import Derived.Test.YthojojlgmaoecaaGreatSrf
import Derived.Test.YthojojlgmaoecaaGreatImg
import Derived.Test.YthojojlgmaoecaaGreatLayF
import Derived.Deep.QuietTactic
import Derived.WalkKit
import Derived.Shelf.SlSortCmp.NoneTotal
set_option linter.all false
set_option maxRecDepth 100000
namespace Go.Proofs.YthojojlgmaoecaaGreat
open Go.Shelf Go.RowKit Go.Lib Go.Sort Go.Am
set_option maxHeartbeats 2000000 in
theorem him_cmp (r r' : List Value) (x y : Int) (W : World) :
    Calls Tryz.prog 38 #[.agg (Value.int .i64 x :: r).toArray, .agg (Value.int .i64 y :: r').toArray] W fun e w' => e = .returned (.int .i64 (IntKind.i64.wrap (x - y))) ∧ ∃ q os', w' = grow (W.drewN q) os' := by
  go_enter Tryz.func38, Tryz.ntmps38
  go_wp2
  go_ret
  refine ⟨congrArg (fun z => Ending.returned (Value.int .i64 z)) (IntWalk.i64_left (x - y)).symm, 0, _, by rw [alloc_eq_grow, alloc_eq_grow, grow_grow]; rfl⟩
/-- A key that is a place of a block. -/
def kP (x : HB) : Int := x.1 % 1099511627776
def encP (x : HB) : List Value := encH (kP x, x.2)
theorem encP_len (x : HB) : (encP x).length = 1025 := encH_len _
theorem encP_sc (x : HB) : (encP x).all scalar = true := encH_sc _
theorem swo_P : SWO (ltOf fun x y : HB => kP x - kP y) :=
  ⟨fun x => by simp [ltOf], fun x y z h1 h2 => by simp only [ltOf, decide_eq_true_eq] at *; omega, fun x y z h1 h2 => by simp only [ltOf, decide_eq_false_iff_not] at *; omega⟩
theorem himP (x y : HB) (W : World) : Calls Tryz.prog 38 #[.agg (encP x).toArray, .agg (encP y).toArray] W fun e w' => e = .returned (.int .i64 (kP x - kP y)) ∧ ∃ q os', w' = grow (W.drewN q) os' := by
  have h := him_cmp (bc ((x.2 ++ zb).take 1024)) (bc ((y.2 ++ zb).take 1024)) (kP x) (kP y) W
  have e : IntKind.i64.wrap (kP x - kP y) = kP x - kP y := by
    unfold kP
    exact wrap_i64 (by omega) (by omega)
  rw [e] at h
  exact h
theorem flat_P {L : List HB} (h : ∀ p ∈ L, 0 ≤ p.1 ∧ p.1 < 1099511627776) : flatL encP L = flatL encH L := by
  unfold flatL
  congr 1
  refine List.map_congr_left fun p hp => ?_
  have := h p hp
  unfold encP kP
  rw [Int.emod_eq_of_lt this.1 this.2]
variable {st : Store} {Q : Value → Store → Prop}
theorem him_sort {i n : Nat} {L : List HB} (hr : ∀ p ∈ L, 0 ≤ p.1 ∧ p.1 < 1099511627776) (hi : st.get i = some (.cells (flatL encH L) (some 1025))) (hn : L.length = n) (hsz : n < 4611686018427387904)
    (hq : ∀ st', st'.next = st.next → st'.get i = some (.cells (flatL encH (srt (ltOf fun x y : HB => kP x - kP y) L)) (some 1025)) → (∀ k, k ≠ i → st'.get k = st.get k) → Q (.tuple #[]) st') :
    Does Tryz.prog 37 [.slice (some ⟨i, 0, some 1025⟩) n n, .func (.func 38) #[] #[]] st Q := by
  rw [← flat_P hr] at hi
  have hp := srt_perm swo_P L
  refine ⟨_, _, sortf_sim (key := kP) encP_len encP_sc (fun w blk off c d hsz hC hH hblk => ?_) (fun W x y => himP x y W) hi hn swo_P hsz, hq _ (Store.next_put_lt _ _ (Store.lt_of_get hi)) ?_ fun k hk => Store.get_put_ne _ _ hk⟩
  · exact AnyQ.slices_SortFunc_eq slF 1025 Tryz.isAgg58 Tryz.sizeOf58 encP encP_len (fun x v hv => by
      have := List.all_eq_true.1 (encP_sc x) v hv
      cases v <;> first | rfl | (simp [scalar] at this)) _ swo_P 38 #[] blk off c d w (enters_of Tryz.func38 (by kernel_rfl) rfl) hC hH hblk hsz
  · rw [Store.get_put_same, flat_P fun p hp' => hr p (hp.mem_iff.1 hp')]
theorem him_none (hq : Q (.tuple #[]) st) : Does Tryz.prog 37 [.slice none 0 0, .func (.func 38) #[] #[]] st Q := by
  refine ⟨_, _, ⟨Nat.le_refl _, fun M w cargs hr ha => ?_⟩, hq⟩
  obtain ⟨u0, u1, rfl, v0, v1⟩ := ha.ex2
  obtain rfl := VR.scalar_eq rfl v0
  refine Calls.mono (AnyF.slices_SortFunc_none slF none 0 u1 w) ?_
  rintro e w' ⟨rfl, rfl⟩
  exact ⟨M, .tuple #[], rfl, .tuple _ _ rfl fun i v v' hv => by simp at hv, hr, Step.refl _ _ _⟩
end Go.Proofs.YthojojlgmaoecaaGreat
