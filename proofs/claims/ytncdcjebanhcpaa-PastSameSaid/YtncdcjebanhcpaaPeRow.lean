/- PastSame: the law answers true. No condition. -/
import Derived.Test.YtncdcjebanhcpaaArg5
import Derived.Test.YtncdcjebanhcpaaPe5
set_option linter.all false
set_option maxRecDepth 100000
namespace Go.Proofs.Ytncdcjebanhcpaa
open Go.ChangeShapes Go.WideShapes Go.ChangeAt Go.RowKit Go.Am
section
variable {H : Type} {enc : TypeId × Value → H} {w : World} {held : Bool} {r : Reach} {b0 : Nat} {v0 v1 : Value} {d0 d1 : DataW H} {p0 p1 : List MemPlace}
theorem same_calls {at' : Int} (hv : Value.okWide Try.prog w r b0 24 v0) (hd : DataW.Trod enc Try.prog w 0 (fun _ => true) held 24 v0 d0 p0) (hv1 : Value.okWide Try.prog w r b0 24 v1) (hd1 : DataW.Trod enc Try.prog w 0 (fun _ => true) held 24 v1 d1 p1) :
    Calls Try.prog 6 #[v0, v1, .int .i64 at'] w fun e w' => e = .returned (.bool true) ∧ Below w.heap.size w w' := by
  obtain ⟨σ1, M1, n, va, L, r1, a1, _, _, q1, _, hl, s1⟩ := lend_im5 (rel_empty w) AllLent.empty hv hd
  obtain ⟨σ2, M2, m, vb, A, r2, a2, kk, mm, q2, _, hla, s2⟩ := lend_im5 r1 a1 hv1 hd1
  obtain ⟨e, σ3, hs, rfl⟩ := pastsame_ (σ := σ2) (Q := fun x _ => x = .bool true) (n := n) (m := m) (at' := at') (s1.keeps fun i o h => kk.get h) hl s2 hla fun _ _ => rfl
  refine Calls.mono (hs.below r2 (VRs.three (q1.mono mm) q2 (VR.of_closed (by simp [closed, scalar]))) a2) ?_
  rintro e w' ⟨M2, v2, rfl, h2, _, h4⟩
  rw [h2.bool_]
  exact ⟨rfl, h4⟩
end
/-- An input at which all is well. -/
def wsE : Input := ⟨#[], #[.agg ⟨[.int .i64 0, .slice none 0 0]⟩, .agg ⟨[.int .i64 0, .slice none 0 0]⟩, .int .i64 0], []⟩
theorem same_lifted (os : Os) (started : os.Started) (H : Type) (enc : TypeId × Value → H) :
    ReturnsInHanded {} Try.checked os 6 .any (Rows.pastSameSpec.pre6 enc Try.prog Try.f6 Rows.pastSameRow.domain false) (Rows.pastSameSpec.post enc Try.prog Try.f6 false true false false) := by
  refine returnsInHanded_of_change (C := Try.checked) own5 started (by kernel_rfl) Try.func6
    (ChangeSpec.witness6 (enc := enc) (C := Try.checked) false wsE 8 (by kernel_rfl) (by kernel_rfl) (by kernel_rfl) (by kernel_rfl)) ?_
  intro W base args ds gs before hval0 hW hcnd _
  have hval : ∀ (j : Nat) t v, Try.f6.params[j]? = some t → args[j]? = some v → Value.okWide Try.prog W .any base t v := hval0
  have hW' := hW
  obtain ⟨p, q, hA0, hV, rfl, hfz, hnd⟩ := hW
  have hA : DataW.TrodAll enc Try.prog W 0 (fun _ => true) true Try.f6.params.toList args.toList ds p := hA0
  have hp : Try.f6.params.toList = [24, 24, 3] := by kernel_rfl
  rw [hp] at hA
  obtain ⟨v0, v1, v2, d0, d1, d2, p0, p1, p2, rfl, rfl, rfl, h0, h1, h2⟩ := trodAll_three hA
  obtain ⟨rfl, rfl⟩ := trodVars_none hV
  have hpa : ∀ j t, [24, 24, 3][j]? = some t → Try.f6.params[j]? = some t := fun j t hj => by
    rw [← hp] at hj; rw [← Array.getElem?_toList]; exact hj
  have lt : ∀ {t v d p}, DataW.Trod enc Try.prog W 0 (fun _ => true) true t v d p → ∀ y ∈ p, y.block < W.heap.size := fun h => by obtain ⟨m, hm⟩ := h; exact DataW.trod_lt m _ _ _ hm
  obtain ⟨n, rfl, _, _⟩ := okWide_int Try.underlying3 (hval 2 _ v2 (hpa 2 _ rfl) rfl)
  refine (same_calls (at' := n) (hval 0 _ v0 (hpa 0 _ rfl) rfl) h0 (hval 1 _ v1 (hpa 1 _ rfl) rfl) h1).mono fun e W' ⟨he, bel⟩ => ?_
  subst he
  exact ⟨_, rfl, _, _, _, [], _, [], hW', trodAll_mk1 (shut_bool Try.underlying4 _), trodAll_mk3 (Below.trod laidOut (by kernel_rfl) (of_decide_eq_true (by kernel_rfl)) h0 bel (lt h0)) (Below.trod laidOut (by kernel_rfl) (of_decide_eq_true (by kernel_rfl)) h1 bel (lt h1)) (Below.trod laidOut (by kernel_rfl) (of_decide_eq_true (by kernel_rfl)) h2 bel (lt h2)), rfl, bel.frame _, fun h => by cases h⟩

/-- THE STATEMENT -/
theorem same_holds : Rows.PastSameSaid :=
  OpenClaim.holds_of_wide 6 Try.f6 rfl rfl rfl rfl rfl rfl rfl ⟨rfl, rfl, rfl, rfl, rfl⟩ rfl rfl rfl rfl rfl (by kernel_rfl) Try.func6 (by kernel_rfl)
    (of_decide_eq_true (by kernel_rfl)) (by unfold Func.isWrapper; first | (rw [if_pos (by decide +kernel)]; kernel_rfl) | (rw [if_neg (by decide +kernel)]; exact ⟨rfl, rfl⟩))
    (fun os started H enc _ => same_lifted os started H enc)
#print axioms same_holds
end Go.Proofs.Ytncdcjebanhcpaa
