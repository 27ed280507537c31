/- WalCommit: the row. No condition. -/
import Derived.Test.YtndjgidglnofbaaRRRCmx
import Derived.Test.YtndjgidglnofbaaRRRRow8
set_option linter.all false
set_option maxRecDepth 100000
namespace Go.Proofs.YtndjgidglnofbaaRRR
open Go.ChangeShapes Go.WideShapes Go.ChangeAt Go.RowKit Go.Am
theorem cmt_calls (g : Geo) (l : List (Int × Int)) (hl : ∀ p ∈ l, 0 ≤ p.2 ∧ p.2 < 256) (v : Value) (w : World)
    (hv : (l = [] ∧ v = .slice none 0 0) ∨ ∃ b o cap, v = .slice (some ⟨b, o, none⟩) l.length cap ∧ Rel (Places.upd (fun _ => none) 0 ⟨b, o, none⟩) (Store.empty.push (.lent (chgC l))) w) :
    Calls Try.prog 4 #[.agg ⟨ic g.cells⟩, v] w fun e w' => e = .returned (.bool true) ∧ Below w.heap.size w w' := by
  have hgc : ∀ M : Places, VR M false (.agg ⟨ic g.cells⟩) (.agg ⟨ic g.cells⟩) := fun M => VR.of_closed (by simp [closed, ic, Geo.cells, scalar])
  rcases hv with ⟨rfl, rfl⟩ | ⟨b, o, cap, rfl, hrel⟩
  · obtain ⟨x, σ', hs, rfl⟩ := walcommit_ (σ := Store.empty) (Q := fun x _ => x = .bool true) (g := g) (chg := []) (pa := none) (ka := 0) hl SlR.nil fun _ => rfl
    refine Calls.mono (hs.below (rel_empty w) (VRs.two (hgc _) (VR.of_closed rfl)) fun i o h => by rw [empty_get] at h; cases h) ?_
    rintro e w' ⟨M', v, rfl, h2, _, h4⟩
    rw [h2.bool_]
    exact ⟨rfl, h4⟩
  · obtain ⟨x, σ', hs, rfl⟩ := walcommit_ (σ := Store.empty.push (.lent (chgC l))) (Q := fun x _ => x = .bool true) (g := g) (chg := l) (pa := some ⟨0, 0, none⟩) (ka := cap) hl (lent_chg l cap) fun _ => rfl
    refine Calls.mono (hs.below hrel (VRs.two (hgc _) (.cell _ _ (.slice 0 0 l.length cap ⟨b, o, none⟩ (Places.upd_same _ _ _)))) (lent_own _)) ?_
    rintro e w' ⟨M', v, rfl, h2, _, h4⟩
    rw [h2.bool_]
    exact ⟨rfl, h4⟩
/-- An input at which all is well. -/
def wi : Input := ⟨#[], #[.agg ⟨[.int .i64 0, .int .i64 0, .int .i64 0]⟩, .slice none 0 0], []⟩
theorem cmt_lifted (os : Os) (started : os.Started) (H : Type) (enc : TypeId × Value → H) :
    ReturnsInHanded {} Try.checked os 4 .any (Rows.walCommitSpec.pre6 enc Try.prog Try.f4 Rows.walCommitRow.domain false) (Rows.walCommitSpec.post enc Try.prog Try.f4 false true false false) := by
  refine returnsInHanded_of_change (C := Try.checked) own started (by kernel_rfl) Try.func4
    (ChangeSpec.witness6 (enc := enc) (C := Try.checked) false wi 8 (by kernel_rfl) (by kernel_rfl) (by kernel_rfl) (by kernel_rfl)) ?_
  intro W base args ds gs before hval0 hW hcnd _
  have hval : ∀ (j : Nat) t v, Try.f4.params[j]? = some t → args[j]? = some v → Value.okWide Try.prog W .any base t v := hval0
  have hW' := hW
  obtain ⟨p, q, hA0, hV, rfl, hfz, hnd⟩ := hW
  have hA : DataW.TrodAll enc Try.prog W 0 (fun _ => true) true Try.f4.params.toList args.toList ds p := hA0
  have hp : Try.f4.params.toList = [23, 37] := by kernel_rfl
  rw [hp] at hA
  obtain ⟨v0, v1, d0, d1, p0, p1, rfl, rfl, rfl, h0, h1⟩ := trodAll_two hA
  obtain ⟨rfl, rfl⟩ := trodVars_none hV
  have hpa : ∀ j t, [23, 37][j]? = some t → Try.f4.params[j]? = some t := fun j t hj => by
    rw [← hp] at hj; rw [← Array.getElem?_toList]; exact hj
  obtain ⟨cs2, rfl, _⟩ := okWide_agg (.inl ⟨_, Try.underlying23⟩) (hval 0 _ v0 (hpa 0 _ rfl) rfl)
  obtain ⟨fu2, t2⟩ := trod_agg h0
  obtain ⟨g, rfl, _⟩ := rd_geo t2
  obtain ⟨l, hl, hv⟩ := rd_chg (hval 1 _ v1 (hpa 1 _ rfl) rfl) h1
  have lt : ∀ {t v d p}, DataW.Trod enc Try.prog W 0 (fun _ => true) true t v d p → ∀ y ∈ p, y.block < W.heap.size := fun h => by obtain ⟨m, hm⟩ := h; exact DataW.trod_lt m _ _ _ hm
  refine (cmt_calls g l (fun p hp => (hl p hp).2) v1 W hv).mono fun e W' ⟨he, bel⟩ => ?_
  subst he
  exact ⟨_, rfl, _, _, _, [], _, [], hW', trodAll_mk1 (shut_bool Try.underlying4 _), trodAll_mk2 (Below.trod laidOut (by kernel_rfl) (of_decide_eq_true (by kernel_rfl)) h0 bel (lt h0)) (Below.trod laidOut (by kernel_rfl) (of_decide_eq_true (by kernel_rfl)) h1 bel (lt h1)), rfl, bel.frame _, fun h => by cases h⟩

/-- THE STATEMENT -/
theorem cmt_holds : Rows.WalCommitSaid :=
  OpenClaim.holds_of_wide 4 Try.f4 rfl rfl rfl rfl rfl rfl rfl ⟨rfl, rfl, rfl, rfl, rfl⟩ rfl rfl rfl rfl rfl (by kernel_rfl) Try.func4 (by kernel_rfl)
    (of_decide_eq_true (by kernel_rfl)) (by unfold Func.isWrapper; first | (rw [if_pos (by decide +kernel)]; kernel_rfl) | (rw [if_neg (by decide +kernel)]; exact ⟨rfl, rfl⟩))
    (fun os started H enc _ => cmt_lifted os started H enc)
#print axioms cmt_holds

end Go.Proofs.YtndjgidglnofbaaRRR
