/- PastDisk: the law answers true. No condition. -/
import Derived.Test.YthojojlgmaoecaaGreatArg5
import Derived.Test.YthojojlgmaoecaaGreatPd5
set_option linter.all false
set_option maxRecDepth 100000
namespace Go.Proofs.YthojojlgmaoecaaGreat
open Go.ChangeShapes Go.WideShapes Go.ChangeAt Go.RowKit Go.Am
section
variable {H : Type} {enc : TypeId × Value → H} {w : World} {held : Bool} {r : Reach} {b0 : Nat} {v0 : Value} {d0 : DataW H} {p0 : List MemPlace}
theorem pdisk_calls (hv : Value.okWide Tryz.prog w r b0 28 v0) (hd : DataW.Trod enc Tryz.prog w 0 (fun _ => true) held 28 v0 d0 p0) :
    Calls Tryz.prog 3 #[v0] w fun e w' => e = .returned (.bool true) ∧ Below w.heap.size w w' := by
  obtain ⟨σ1, M1, n, k, at', va, vo, vk, L, O, ks, r1, a1, _, _, q1, hl, s1, hlo, s2, hcap, s3, hml⟩ := lend_scene (rel_empty w) AllLent.empty hv hd
  obtain ⟨e, σ3, hs, rfl⟩ := pastdisk_ (σ := σ1) (Q := fun x _ => x = .bool true) (n := n) (k := k) (at' := at') s1 hl (by unfold maxLen at hml; omega) s2 hlo s3 fun _ _ => rfl
  refine Calls.mono (hs.below r1 (VRs.one q1) a1) ?_
  rintro e w' ⟨M2, v2, rfl, h2, _, h4⟩
  rw [h2.bool_]
  exact ⟨rfl, h4⟩
end
/-- An input at which all is well. -/
def wsD : Input := ⟨#[], #[.agg ⟨[.int .i64 0, .slice none 0 0, .slice none 0 0, .int .i64 0, .slice none 0 0, .int .i64 0]⟩], []⟩
theorem pdisk_lifted (os : Os) (started : os.Started) (H : Type) (enc : TypeId × Value → H) :
    ReturnsInHanded {} Tryz.checked os 3 .any (Rows.pastDiskSpec.pre6 enc Tryz.prog Tryz.f3 Rows.pastDiskRow.domain false) (Rows.pastDiskSpec.post enc Tryz.prog Tryz.f3 false true false false) := by
  refine returnsInHanded_of_change (C := Tryz.checked) own5 started (by kernel_rfl) Tryz.func3
    (ChangeSpec.witness6 (enc := enc) (C := Tryz.checked) false wsD 8 (by kernel_rfl) (by kernel_rfl) (by kernel_rfl) (by kernel_rfl)) ?_
  intro W base args ds gs before hval0 hW hcnd _
  have hval : ∀ (j : Nat) t v, Tryz.f3.params[j]? = some t → args[j]? = some v → Value.okWide Tryz.prog W .any base t v := hval0
  have hW' := hW
  obtain ⟨p, q, hA0, hV, rfl, hfz, hnd⟩ := hW
  have hA : DataW.TrodAll enc Tryz.prog W 0 (fun _ => true) true Tryz.f3.params.toList args.toList ds p := hA0
  have hp : Tryz.f3.params.toList = [28] := by kernel_rfl
  rw [hp] at hA
  obtain ⟨v0, d0, rfl, rfl, h0⟩ := trodAll_one hA
  obtain ⟨rfl, rfl⟩ := trodVars_none hV
  have hpa : ∀ j t, [28][j]? = some t → Tryz.f3.params[j]? = some t := fun j t hj => by
    rw [← hp] at hj; rw [← Array.getElem?_toList]; exact hj
  have lt : ∀ {t v d p}, DataW.Trod enc Tryz.prog W 0 (fun _ => true) true t v d p → ∀ y ∈ p, y.block < W.heap.size := fun h => by obtain ⟨m, hm⟩ := h; exact DataW.trod_lt m _ _ _ hm
  refine (pdisk_calls (hval 0 _ v0 (hpa 0 _ rfl) rfl) h0).mono fun e W' ⟨he, bel⟩ => ?_
  subst he
  exact ⟨_, rfl, _, _, _, [], _, [], hW', trodAll_mk1 (shut_bool Tryz.underlying4 _), trodAll_mk1 (Below.trod laidOut (by kernel_rfl) (of_decide_eq_true (by kernel_rfl)) h0 bel (lt h0)), rfl, bel.frame _, fun h => by cases h⟩

/-- THE STATEMENT -/
theorem pdisk_holds : Rows.PastDiskSaid :=
  OpenClaim.holds_of_wide 3 Tryz.f3 rfl rfl rfl rfl rfl rfl rfl ⟨rfl, rfl, rfl, rfl, rfl⟩ rfl rfl rfl rfl rfl (by kernel_rfl) Tryz.func3 (by kernel_rfl)
    (of_decide_eq_true (by kernel_rfl)) (by unfold Func.isWrapper; first | (rw [if_pos (by decide +kernel)]; kernel_rfl) | (rw [if_neg (by decide +kernel)]; exact ⟨rfl, rfl⟩))
    (fun os started H enc _ => pdisk_lifted os started H enc)
#print axioms pdisk_holds
end Go.Proofs.YthojojlgmaoecaaGreat
