/- MkfsMade: the row. No condition. -/
import Derived.Test.YtchfpepbdnjhmaaArg23b
import Derived.Test.YtchfpepbdnjhmaaMade
set_option linter.all false
set_option maxRecDepth 100000
namespace Go.Proofs.Ytchfpepbdnjhmaa
open Go.ChangeShapes Go.WideShapes Go.ChangeAt Go.RowKit Go.Am
section
variable {H : Type} {enc : TypeId × Value → H} {w : World} {held : Bool} {r : Reach} {b0 : Nat} {v0 v2 : Value} {d0 d2 : DataW H} {p0 p2 : List MemPlace}
theorem made23_calls {g : Geo} (hv : Value.okWide Try.prog w r b0 39 v0) (hd : DataW.Trod enc Try.prog w 0 (fun _ => true) held 39 v0 d0 p0) (hv2 : Value.okWide Try.prog w r b0 50 v2) (hd2 : DataW.Trod enc Try.prog w 0 (fun _ => true) held 50 v2 d2 p2) :
    Calls Try.prog 5 #[v0, .agg ⟨ic g.cells⟩, v2] w fun e w' => e = .returned (.bool true) ∧ Below w.heap.size w w' := by
  obtain ⟨σ1, M1, n, u, L, r1, a1, _, _, q1, hn, hl, s1⟩ := lend_image (rel_empty w) AllLent.empty hv hd
  obtain ⟨σ2, M2, u2, ks, r2, a2, k2, m2, q2, hk, s2⟩ := lend_bools r1 a1 hv2 hd2
  obtain ⟨e, σ3, hs, rfl⟩ := made23_ (σ := σ2) (Q := fun x _ => x = .bool true) (n := n) (v := u) (L := L) (g := g) (kv := u2) (ks := ks) (s1.keeps fun i o h => k2.get h) hl s2 fun _ => rfl
  refine Calls.mono (hs.below r2 (VRs.three (q1.mono m2) (VR.of_closed (by simp [closed, ic, Geo.cells, scalar])) (.cell _ _ q2)) a2) ?_
  rintro e w' ⟨M2, v2, rfl, h2, _, h4⟩
  rw [h2.bool_]
  exact ⟨rfl, h4⟩
end
/-- An input at which all is well. -/
def wm23 : Input := ⟨#[], #[.agg ⟨[.int .i64 0, .slice none 0 0]⟩, .agg ⟨[.int .i64 0, .int .i64 0, .int .i64 0]⟩, .slice none 0 0], []⟩
theorem made23_lifted (os : Os) (started : os.Started) (H : Type) (enc : TypeId × Value → H) :
    ReturnsInHanded {} Try.checked os 5 .any (Rows.mkfsMadeSpec.pre6 enc Try.prog Try.f5 Rows.mkfsMadeRow.domain false) (Rows.mkfsMadeSpec.post enc Try.prog Try.f5 false true false false) := by
  refine returnsInHanded_of_change (C := Try.checked) own23 started (by kernel_rfl) Try.func5
    (ChangeSpec.witness6 (enc := enc) (C := Try.checked) false wm23 8 (by kernel_rfl) (by kernel_rfl) (by kernel_rfl) (by kernel_rfl)) ?_
  intro W base args ds gs before hval0 hW hcnd _
  have hval : ∀ (j : Nat) t v, Try.f5.params[j]? = some t → args[j]? = some v → Value.okWide Try.prog W .any base t v := hval0
  have hW' := hW
  obtain ⟨p, q, hA0, hV, rfl, hfz, hnd⟩ := hW
  have hA : DataW.TrodAll enc Try.prog W 0 (fun _ => true) true Try.f5.params.toList args.toList ds p := hA0
  have hp : Try.f5.params.toList = [39, 27, 50] := by kernel_rfl
  rw [hp] at hA
  obtain ⟨v0, v1, v2, d0, d1, d2, p0, p1, p2, rfl, rfl, rfl, h0, h1, h2⟩ := trodAll_three hA
  obtain ⟨rfl, rfl⟩ := trodVars_none hV
  have hpa : ∀ j t, [39, 27, 50][j]? = some t → Try.f5.params[j]? = some t := fun j t hj => by
    rw [← hp] at hj; rw [← Array.getElem?_toList]; exact hj
  have lt : ∀ {t v d p}, DataW.Trod enc Try.prog W 0 (fun _ => true) true t v d p → ∀ y ∈ p, y.block < W.heap.size := fun h => by obtain ⟨m, hm⟩ := h; exact DataW.trod_lt m _ _ _ hm
  obtain ⟨cs1, rfl, _⟩ := okWide_agg (.inl ⟨_, Try.underlying27⟩) (hval 1 _ v1 (hpa 1 _ rfl) rfl)
  obtain ⟨fu1, t1⟩ := trod_agg h1
  obtain ⟨g, rfl, _⟩ := rd_geo t1
  refine (made23_calls (g := g) (hval 0 _ v0 (hpa 0 _ rfl) rfl) h0 (hval 2 _ v2 (hpa 2 _ rfl) rfl) h2).mono fun e W' ⟨he, bel⟩ => ?_
  subst he
  exact ⟨_, rfl, _, _, _, [], _, [], hW', trodAll_mk1 (shut_bool Try.underlying4 _), trodAll_mk3 (Below.trod laidOut (by kernel_rfl) (of_decide_eq_true (by kernel_rfl)) h0 bel (lt h0)) (Below.trod laidOut (by kernel_rfl) (of_decide_eq_true (by kernel_rfl)) h1 bel (lt h1)) (Below.trod laidOut (by kernel_rfl) (of_decide_eq_true (by kernel_rfl)) h2 bel (lt h2)), rfl, bel.frame _, fun h => by cases h⟩

/-- THE STATEMENT -/
theorem made23_holds : Rows.MkfsMadeSaid :=
  OpenClaim.holds_of_wide 5 Try.f5 rfl rfl rfl rfl rfl rfl rfl ⟨rfl, rfl, rfl, rfl, rfl⟩ rfl rfl rfl rfl rfl (by kernel_rfl) Try.func5 (by kernel_rfl)
    (of_decide_eq_true (by kernel_rfl)) (by unfold Func.isWrapper; first | (rw [if_pos (by decide +kernel)]; kernel_rfl) | (rw [if_neg (by decide +kernel)]; exact ⟨rfl, rfl⟩))
    (fun os started H enc _ => made23_lifted os started H enc)
#print axioms made23_holds
end Go.Proofs.Ytchfpepbdnjhmaa
