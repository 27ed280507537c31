/- DeskCounts: for every number and every list of calls the law answers true. No condition. -/
import Derived.Test.YtmjmfokodhcakaaCounts
import Derived.ProofKit
import Derived.OpenShut
import Derived.ShutString
import Derived.ChangeOld
import Derived.Deep.SlicePairs
namespace Go.Proofs.Ytmjmfokodhcakaa
open Go.ChangeShapes Go.WideShapes Go.ChangeAt Go.RowKit Go.Uc

theorem own : ownKnob Try.prog.godebug = none := by kernel_rfl
theorem laidOut : laidOutB Try.prog = true := by kernel_rfl

set_option maxRecDepth 100000 in
theorem counts_lifted (os : Os) (started : os.Started) (H : Type) (enc : TypeId × Value → H) :
    ReturnsInHanded {} Try.checked os 3 .any (Rows.deskCountsSpec.pre6 enc Try.prog Try.f3 Rows.deskCountsRow.domain false) (Rows.deskCountsSpec.post enc Try.prog Try.f3 false true false false) := by
  refine returnsInHanded_of_change (C := Try.checked) own started (by kernel_rfl) Try.func3
    (ChangeSpec.witness6 (enc := enc) (C := Try.checked) false ⟨#[], #[.int .i64 0, .slice none 0 0], []⟩ 8 (by kernel_rfl) (by kernel_rfl) (by kernel_rfl) (by kernel_rfl)) ?_
  intro W base args ds gs before hval0 hW hcnd _
  have hval : ∀ (j : Nat) t v, Try.f3.params[j]? = some t → args[j]? = some v → Value.okWide Try.prog W .any base t v := hval0
  have hW' := hW
  obtain ⟨p, q, hA0, hV, rfl, hfz, hnd⟩ := hW
  have hA : DataW.TrodAll enc Try.prog W 0 (fun _ => true) true Try.f3.params.toList args.toList ds p := hA0
  rw [Try.params3] at hA hval
  obtain ⟨v0, v1, d0, d1, p0, p1, rfl, rfl, rfl, h0, h1⟩ := trodAll_two hA
  obtain ⟨rfl, rfl⟩ := trodVars_none hV
  obtain ⟨many, rfl, rfl, rfl, w0⟩ := open_int Try.underlying3 (hval 0 3 v0 rfl rfl) h0
  obtain ⟨a, len, cap, rfl⟩ := okWide_slice Try.underlying22 (hval 1 22 v1 rfl rfl)
  have k1 := h1
  have lt1 : ∀ x ∈ p1, x.block < W.heap.size := by obtain ⟨m, hm⟩ := k1; exact DataW.trod_lt m _ _ _ hm
  obtain ⟨C, N, hacts⟩ : ∃ C N, Acts W a len C N := by
    obtain ⟨fuel, hf⟩ := h1
    rcases Go.Deep.open_slice_pairs Try.underlying22 Try.underlying29 (by kernel_rfl) rfl rfl (by kernel_rfl) (by kernel_rfl) hf with ⟨hcs, _⟩ | ⟨x, l, c, m, n, V0, V1, D0, D1, P0, P1, hcs, _, hl, hm, hmm, _, hcell⟩
    · simp [Value.cells] at hcs
      obtain ⟨rfl, rfl, rfl⟩ := hcs
      exact ⟨fun _ => 0, fun _ => 0, fun k hk => absurd hk (by omega)⟩
    · simp [Value.cells] at hcs
      obtain ⟨rfl, rfl, rfl⟩ := hcs
      simp at hmm
      refine ⟨fun i => intOf (V0 i), fun i => intOf (V1 i), fun k hk => ?_⟩
      obtain ⟨g0, g1, t0, t1⟩ := hcell k (by omega)
      obtain ⟨y0, e0, _, _⟩ := DataW.trod_int Try.underlying3 t0
      obtain ⟨y1, e1, _, _⟩ := DataW.trod_int Try.underlying3 t1
      obtain ⟨xb, xo, xs⟩ := x
      have hs := World.cell?_spot (hcell 0 (by omega)).1
      simp [Addr.add] at hs
      subst hs
      have a0 : (⟨xb, xo, none⟩ : Addr).add (k * 2) = ⟨xb, xo + k * 2, none⟩ := by unfold Addr.add; split <;> simp_all
      have a1 : (⟨xb, xo, none⟩ : Addr).add (k * 2 + 1) = ⟨xb, xo + k * 2 + 1, none⟩ := by unfold Addr.add; rw [if_neg (by omega)]; simp [Nat.add_assoc]
      rw [a0] at g0; rw [a1] at g1
      simp at e0 e1
      exact ⟨xb, xo, rfl, block_lt_of_cell g0, by rw [g0]; show some (V0 k) = some (Value.int .i64 (intOf (V0 k))); rw [e0]; rfl, by rw [g1]; show some (V1 k) = some (Value.int .i64 (intOf (V1 k))); rw [e1]; rfl⟩
  clear hA0 hval0
  have hall : Calls Try.prog 3 #[.int .i64 many, .slice a len cap] W fun e w' => e = .returned (.bool true) ∧ Fr [] W w' := by
    by_cases hl : len ≤ 300
    · exact counts_any many a len cap C N W hacts hl
    · exact counts_large many a len cap W (by omega)
  refine hall.mono fun e W' ⟨he, hf⟩ => ?_
  have bel := hf.below
  subst he
  exact ⟨_, rfl, _, _, _, [], _, [], hW', trodAll_mk1 (shut_bool Try.underlying4 _), trodAll_mk2 (shut_int Try.underlying3 w0) (Below.trod laidOut (by kernel_rfl) (of_decide_eq_true (by kernel_rfl)) k1 bel lt1), rfl, bel.frame _, fun h => by cases h⟩

/-- THE STATEMENT -/
theorem counts_holds : Rows.DeskCountsSaid :=
  OpenClaim.holds_of_wide 3 Try.f3 rfl rfl rfl rfl rfl rfl rfl ⟨rfl, rfl, rfl, rfl, rfl⟩ rfl rfl rfl rfl rfl (by kernel_rfl) Try.func3 (by kernel_rfl)
    (of_decide_eq_true (by kernel_rfl)) (by unfold Func.isWrapper; first | (rw [if_pos (by decide +kernel)]; kernel_rfl) | (rw [if_neg (by decide +kernel)]; exact ⟨rfl, rfl⟩))
    (fun os started H enc _ => counts_lifted os started H enc)
#print axioms counts_holds

end Go.Proofs.Ytmjmfokodhcakaa
