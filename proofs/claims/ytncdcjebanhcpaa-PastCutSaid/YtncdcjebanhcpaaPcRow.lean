/- PastCut: the law answers true. No condition. -/
import Derived.Test.YtncdcjebanhcpaaArg5
import Derived.Test.YtncdcjebanhcpaaPc5
set_option linter.all false
set_option maxRecDepth 100000
namespace Go.Proofs.Ytncdcjebanhcpaa
open Go.ChangeShapes Go.WideShapes Go.ChangeAt Go.RowKit Go.Am
section
variable {H : Type} {enc : TypeId × Value → H} {w : World} {held : Bool} {r : Reach} {b0 : Nat} {v0 v1 : Value} {d0 d1 : DataW H} {p0 p1 : List MemPlace}
theorem cut_calls (hv : Value.okWide Try.prog w r b0 49 v0) (hd : DataW.Trod enc Try.prog w 0 (fun _ => true) held 49 v0 d0 p0) (hv1 : Value.okWide Try.prog w r b0 31 v1) (hd1 : DataW.Trod enc Try.prog w 0 (fun _ => true) held 31 v1 d1 p1) :
    Calls Try.prog 5 #[v0, v1] w fun e w' => e = .returned (.bool true) ∧ Below w.heap.size w w' := by
  obtain ⟨σ1, M1, n, k, at', va, vo, vk, L, O, ks, r1, a1, _, _, q1, hl, s1, hlo, s2, hcap, s3⟩ := lend_scene (rel_empty w) AllLent.empty hv hd
  obtain ⟨σ2, M2, vm, M, r2, a2, kk, mm, q2, _, hlm, s4, hmc⟩ := lend_more r1 a1 hv1 hd1
  obtain ⟨e, σ3, hs, rfl⟩ := pastcut_ (σ := σ2) (Q := fun x _ => x = .bool true) (n := n) (k := k) (at' := at') (s1.keeps fun i o h => kk.get h) hl (s2.keeps fun i o h => kk.get h) hlo (s3.keeps fun i o h => kk.get h) s4 hlm hmc fun _ _ => rfl
  refine Calls.mono (hs.below r2 (VRs.two (q1.mono mm) (.cell _ _ q2)) a2) ?_
  rintro e w' ⟨M2, v2, rfl, h2, _, h4⟩
  rw [h2.bool_]
  exact ⟨rfl, h4⟩
end
/-- An input at which all is well. -/
def wsC : Input := ⟨#[], #[.agg ⟨[.int .i64 0, .slice none 0 0, .slice none 0 0, .int .i64 0, .slice none 0 0, .int .i64 0]⟩, .slice none 0 0], []⟩
theorem cut_lifted (os : Os) (started : os.Started) (H : Type) (enc : TypeId × Value → H) :
    ReturnsInHanded {} Try.checked os 5 .any (Rows.pastCutSpec.pre6 enc Try.prog Try.f5 Rows.pastCutRow.domain false) (Rows.pastCutSpec.post enc Try.prog Try.f5 false true false false) := by
  refine returnsInHanded_of_change (C := Try.checked) own5 started (by kernel_rfl) Try.func5
    (ChangeSpec.witness6 (enc := enc) (C := Try.checked) false wsC 8 (by kernel_rfl) (by kernel_rfl) (by kernel_rfl) (by kernel_rfl)) ?_
  intro W base args ds gs before hval0 hW hcnd _
  have hval : ∀ (j : Nat) t v, Try.f5.params[j]? = some t → args[j]? = some v → Value.okWide Try.prog W .any base t v := hval0
  have hW' := hW
  obtain ⟨p, q, hA0, hV, rfl, hfz, hnd⟩ := hW
  have hA : DataW.TrodAll enc Try.prog W 0 (fun _ => true) true Try.f5.params.toList args.toList ds p := hA0
  have hp : Try.f5.params.toList = [49, 31] := by kernel_rfl
  rw [hp] at hA
  obtain ⟨v0, v1, d0, d1, p0, p1, rfl, rfl, rfl, h0, h1⟩ := trodAll_two hA
  obtain ⟨rfl, rfl⟩ := trodVars_none hV
  have hpa : ∀ j t, [49, 31][j]? = some t → Try.f5.params[j]? = some t := fun j t hj => by
    rw [← hp] at hj; rw [← Array.getElem?_toList]; exact hj
  have lt : ∀ {t v d p}, DataW.Trod enc Try.prog W 0 (fun _ => true) true t v d p → ∀ y ∈ p, y.block < W.heap.size := fun h => by obtain ⟨m, hm⟩ := h; exact DataW.trod_lt m _ _ _ hm
  refine (cut_calls (hval 0 _ v0 (hpa 0 _ rfl) rfl) h0 (hval 1 _ v1 (hpa 1 _ rfl) rfl) h1).mono fun e W' ⟨he, bel⟩ => ?_
  subst he
  exact ⟨_, rfl, _, _, _, [], _, [], hW', trodAll_mk1 (shut_bool Try.underlying4 _), trodAll_mk2 (Below.trod laidOut (by kernel_rfl) (of_decide_eq_true (by kernel_rfl)) h0 bel (lt h0)) (Below.trod laidOut (by kernel_rfl) (of_decide_eq_true (by kernel_rfl)) h1 bel (lt h1)), rfl, bel.frame _, fun h => by cases h⟩

/-- THE STATEMENT -/
theorem cut_holds : Rows.PastCutSaid :=
  OpenClaim.holds_of_wide 5 Try.f5 rfl rfl rfl rfl rfl rfl rfl ⟨rfl, rfl, rfl, rfl, rfl⟩ rfl rfl rfl rfl rfl (by kernel_rfl) Try.func5 (by kernel_rfl)
    (of_decide_eq_true (by kernel_rfl)) (by unfold Func.isWrapper; first | (rw [if_pos (by decide +kernel)]; kernel_rfl) | (rw [if_neg (by decide +kernel)]; exact ⟨rfl, rfl⟩))
    (fun os started H enc _ => cut_lifted os started H enc)
#print axioms cut_holds
end Go.Proofs.Ytncdcjebanhcpaa
