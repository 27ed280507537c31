/- DiskAgain: the row. No condition. -/
import Derived.Test.YtelnpbgkgcollaaArg4
import Derived.Test.YtelnpbgkgcollaaAgain
set_option linter.all false
set_option maxRecDepth 100000
namespace Go.Proofs.Ytelnpbgkgcollaa
open Go.ChangeShapes Go.WideShapes Go.ChangeAt Go.RowKit Go.Am
section
variable {H : Type} {enc : TypeId × Value → H} {w : World} {held : Bool} {r : Reach} {b0 : Nat} {v1 : Value} {d1 : DataW H} {p1 : List MemPlace}
theorem again_calls {x : Int} (hv1 : Value.okWide Try.prog w r b0 53 v1) (hd1 : DataW.Trod enc Try.prog w 0 (fun _ => true) held 53 v1 d1 p1) :
    Calls Try.prog 5 #[.int .i64 x, v1] w fun e w' => e = .returned (.bool true) ∧ Below w.heap.size w w' := by
  obtain ⟨σ1, M1, u1, n, us, r1, a1, _, _, q1, hn, s1, g1⟩ := lend_puts (rel_empty w) AllLent.empty hv1 hd1
  have g2 : ∀ i, i < n → ∃ t : Int × Value × List Int, (us.drop (i * 2)).take 2 = [.int .i64 t.1, t.2.1] ∧ ElV σ1 t.2.1 (bc t.2.2) := fun i hi => by
    obtain ⟨at_, pv, p, h1, h2, _⟩ := g1 i hi
    exact ⟨(at_, pv, p), h1, h2⟩
  obtain ⟨f, hf⟩ := Go.Deep.choose_lt g2
  obtain ⟨e, σ3, hs, rfl⟩ := again_ (σ := σ1) (Q := fun x _ => x = .bool true) (sv := u1) (n := n) (us := us) (blocks := x) (f := f) (by unfold maxLen at hn; omega) s1 hf fun _ => rfl
  refine Calls.mono (hs.below r1 (VRs.two (VR.of_closed rfl) (.cell _ _ q1)) a1) ?_
  rintro e w' ⟨M2, v2, rfl, h2, _, h4⟩
  rw [h2.bool_]
  exact ⟨rfl, h4⟩
end
/-- An input at which all is well. -/
def wa4 : Input := ⟨#[], #[.int .i64 0, .slice none 0 0], []⟩
theorem again_lifted (os : Os) (started : os.Started) (H : Type) (enc : TypeId × Value → H) :
    ReturnsInHanded {} Try.checked os 5 .any (Rows.diskAgainSpec.pre6 enc Try.prog Try.f5 Rows.diskAgainRow.domain false) (Rows.diskAgainSpec.post enc Try.prog Try.f5 false true false false) := by
  refine returnsInHanded_of_change (C := Try.checked) own4 started (by kernel_rfl) Try.func5
    (ChangeSpec.witness6 (enc := enc) (C := Try.checked) false wa4 8 (by kernel_rfl) (by kernel_rfl) (by kernel_rfl) (by kernel_rfl)) ?_
  intro W base args ds gs before hval0 hW hcnd _
  have hval : ∀ (j : Nat) t v, Try.f5.params[j]? = some t → args[j]? = some v → Value.okWide Try.prog W .any base t v := hval0
  have hW' := hW
  obtain ⟨p, q, hA0, hV, rfl, hfz, hnd⟩ := hW
  have hA : DataW.TrodAll enc Try.prog W 0 (fun _ => true) true Try.f5.params.toList args.toList ds p := hA0
  have hp : Try.f5.params.toList = [3, 53] := by kernel_rfl
  rw [hp] at hA
  obtain ⟨v0, v1, d0, d1, p0, p1, rfl, rfl, rfl, h0, h1⟩ := trodAll_two hA
  obtain ⟨rfl, rfl⟩ := trodVars_none hV
  have hpa : ∀ j t, [3, 53][j]? = some t → Try.f5.params[j]? = some t := fun j t hj => by
    rw [← hp] at hj; rw [← Array.getElem?_toList]; exact hj
  have lt : ∀ {t v d p}, DataW.Trod enc Try.prog W 0 (fun _ => true) true t v d p → ∀ y ∈ p, y.block < W.heap.size := fun h => by obtain ⟨m, hm⟩ := h; exact DataW.trod_lt m _ _ _ hm
  obtain ⟨x, rfl, _⟩ := rd_int Try.underlying3 (hval 0 _ v0 (hpa 0 _ rfl) rfl) h0
  refine (again_calls (x := x) (hval 1 _ v1 (hpa 1 _ rfl) rfl) h1).mono fun e W' ⟨he, bel⟩ => ?_
  subst he
  exact ⟨_, rfl, _, _, _, [], _, [], hW', trodAll_mk1 (shut_bool Try.underlying4 _), trodAll_mk2 (Below.trod laidOut (by kernel_rfl) (of_decide_eq_true (by kernel_rfl)) h0 bel (lt h0)) (Below.trod laidOut (by kernel_rfl) (of_decide_eq_true (by kernel_rfl)) h1 bel (lt h1)), rfl, bel.frame _, fun h => by cases h⟩

/-- THE STATEMENT -/
theorem again_holds : Rows.DiskAgainSaid :=
  OpenClaim.holds_of_wide 5 Try.f5 rfl rfl rfl rfl rfl rfl rfl ⟨rfl, rfl, rfl, rfl, rfl⟩ rfl rfl rfl rfl rfl (by kernel_rfl) Try.func5 (by kernel_rfl)
    (of_decide_eq_true (by kernel_rfl)) (by unfold Func.isWrapper; first | (rw [if_pos (by decide +kernel)]; kernel_rfl) | (rw [if_neg (by decide +kernel)]; exact ⟨rfl, rfl⟩))
    (fun os started H enc _ => again_lifted os started H enc)
#print axioms again_holds
end Go.Proofs.Ytelnpbgkgcollaa
