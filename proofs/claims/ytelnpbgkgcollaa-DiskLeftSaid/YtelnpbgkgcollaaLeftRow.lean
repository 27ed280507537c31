/- DiskLeft: the row. No condition. -/
import Derived.Test.YtelnpbgkgcollaaArg4
import Derived.Test.YtelnpbgkgcollaaLeft
set_option linter.all false
set_option maxRecDepth 100000
namespace Go.Proofs.Ytelnpbgkgcollaa
open Go.ChangeShapes Go.WideShapes Go.ChangeAt Go.RowKit Go.Am
theorem VRs.four4 {M : Places} {a b c d a' b' c' d' : Value} (h1 : VR M false a a') (h2 : VR M false b b') (h3 : VR M false c c') (h4 : VR M false d d') : VRs M [a, b, c, d] #[a', b', c', d'] := by
  refine ⟨rfl, fun i v v' hv hv' => ?_⟩
  match i with
  | 0 => simp at hv hv'; subst hv; subst hv'; exact h1
  | 1 => simp at hv hv'; subst hv; subst hv'; exact h2
  | 2 => simp at hv hv'; subst hv; subst hv'; exact h3
  | 3 => simp at hv hv'; subst hv; subst hv'; exact h4
  | i + 4 => simp at hv
section
variable {H : Type} {enc : TypeId × Value → H} {w : World} {held : Bool} {r : Reach} {b0 : Nat} {v0 v1 v2 v3 : Value} {d1 d3 : DataW H} {p1 p3 : List MemPlace}
theorem left_calls {x y : Int} (hy : y < 2 ^ 63) (hv1 : Value.okWide Try.prog w r b0 53 v1) (hd1 : DataW.Trod enc Try.prog w 0 (fun _ => true) held 53 v1 d1 p1) (hv3 : Value.okWide Try.prog w r b0 54 v3) (hd3 : DataW.Trod enc Try.prog w 0 (fun _ => true) held 54 v3 d3 p3) :
    Calls Try.prog 4 #[.int .i64 x, v1, .int .i64 y, v3] w fun e w' => e = .returned (.bool true) ∧ Below w.heap.size w w' := by
  obtain ⟨σ1, M1, u1, n, us, r1, a1, _, _, q1, hn, s1, g1⟩ := lend_puts (rel_empty w) AllLent.empty hv1 hd1
  obtain ⟨σ2, M2, u2, ks, r2, a2, k2, m2, q2, hk, s2⟩ := lend_bools r1 a1 hv3 hd3
  obtain ⟨e, σ3, hs, rfl⟩ := left_ (σ := σ2) (Q := fun x _ => x = .bool true) (sv := u1) (kv := u2) (n := n) (us := us) (blocks := x) (fuse := y) (ks := ks) hy (by unfold maxLen at hn; omega) (s1.keeps fun i o h => k2.get h) (fun i hi => by
    obtain ⟨at_, pv, p, h1, h2, _⟩ := g1 i hi
    exact ⟨at_, pv, p, h1, h2.keep (fun i o h => k2.get h) k2.1⟩) s2 fun _ => rfl
  refine Calls.mono (hs.below r2 (VRs.four4 (VR.of_closed rfl) (.cell _ _ (q1.mono m2)) (VR.of_closed rfl) (.cell _ _ q2)) a2) ?_
  rintro e w' ⟨M2, v2, rfl, h2, _, h4⟩
  rw [h2.bool_]
  exact ⟨rfl, h4⟩
end
/-- An input at which all is well. -/
def wl4 : Input := ⟨#[], #[.int .i64 0, .slice none 0 0, .int .i64 0, .slice none 0 0], []⟩
theorem left_lifted (os : Os) (started : os.Started) (H : Type) (enc : TypeId × Value → H) :
    ReturnsInHanded {} Try.checked os 4 .any (Rows.diskLeftSpec.pre6 enc Try.prog Try.f4 Rows.diskLeftRow.domain false) (Rows.diskLeftSpec.post enc Try.prog Try.f4 false true false false) := by
  refine returnsInHanded_of_change (C := Try.checked) own4 started (by kernel_rfl) Try.func4
    (ChangeSpec.witness6 (enc := enc) (C := Try.checked) false wl4 8 (by kernel_rfl) (by kernel_rfl) (by kernel_rfl) (by kernel_rfl)) ?_
  intro W base args ds gs before hval0 hW hcnd _
  have hval : ∀ (j : Nat) t v, Try.f4.params[j]? = some t → args[j]? = some v → Value.okWide Try.prog W .any base t v := hval0
  have hW' := hW
  obtain ⟨p, q, hA0, hV, rfl, hfz, hnd⟩ := hW
  have hA : DataW.TrodAll enc Try.prog W 0 (fun _ => true) true Try.f4.params.toList args.toList ds p := hA0
  have hp : Try.f4.params.toList = [3, 53, 3, 54] := by kernel_rfl
  rw [hp] at hA
  obtain ⟨v0, v1, v2, v3, d0, d1, d2, d3, p0, p1, p2, p3, rfl, rfl, rfl, h0, h1, h2, h3⟩ := trodAll_four hA
  obtain ⟨rfl, rfl⟩ := trodVars_none hV
  have hpa : ∀ j t, [3, 53, 3, 54][j]? = some t → Try.f4.params[j]? = some t := fun j t hj => by
    rw [← hp] at hj; rw [← Array.getElem?_toList]; exact hj
  have lt : ∀ {t v d p}, DataW.Trod enc Try.prog W 0 (fun _ => true) true t v d p → ∀ y ∈ p, y.block < W.heap.size := fun h => by obtain ⟨m, hm⟩ := h; exact DataW.trod_lt m _ _ _ hm
  obtain ⟨x, rfl, _⟩ := rd_int Try.underlying3 (hval 0 _ v0 (hpa 0 _ rfl) rfl) h0
  obtain ⟨y, rfl, wy⟩ := rd_int Try.underlying3 (hval 2 _ v2 (hpa 2 _ rfl) rfl) h2
  have by_ := (wf_i64 wy).2
  refine (left_calls (x := x) (y := y) (by omega) (hval 1 _ v1 (hpa 1 _ rfl) rfl) h1 (hval 3 _ v3 (hpa 3 _ rfl) rfl) h3).mono fun e W' ⟨he, bel⟩ => ?_
  subst he
  exact ⟨_, rfl, _, _, _, [], _, [], hW', trodAll_mk1 (shut_bool Try.underlying4 _), trodAll_mk4 (Below.trod laidOut (by kernel_rfl) (of_decide_eq_true (by kernel_rfl)) h0 bel (lt h0)) (Below.trod laidOut (by kernel_rfl) (of_decide_eq_true (by kernel_rfl)) h1 bel (lt h1)) (Below.trod laidOut (by kernel_rfl) (of_decide_eq_true (by kernel_rfl)) h2 bel (lt h2)) (Below.trod laidOut (by kernel_rfl) (of_decide_eq_true (by kernel_rfl)) h3 bel (lt h3)), rfl, bel.frame _, fun h => by cases h⟩

/-- THE STATEMENT -/
theorem left_holds : Rows.DiskLeftSaid :=
  OpenClaim.holds_of_wide 4 Try.f4 rfl rfl rfl rfl rfl rfl rfl ⟨rfl, rfl, rfl, rfl, rfl⟩ rfl rfl rfl rfl rfl (by kernel_rfl) Try.func4 (by kernel_rfl)
    (of_decide_eq_true (by kernel_rfl)) (by unfold Func.isWrapper; first | (rw [if_pos (by decide +kernel)]; kernel_rfl) | (rw [if_neg (by decide +kernel)]; exact ⟨rfl, rfl⟩))
    (fun os started H enc _ => left_lifted os started H enc)
#print axioms left_holds
end Go.Proofs.Ytelnpbgkgcollaa
