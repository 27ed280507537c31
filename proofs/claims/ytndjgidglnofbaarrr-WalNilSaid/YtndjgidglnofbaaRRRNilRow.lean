/- WalNil: what is no log, and no disk: every call is refused. No condition. -/
import Derived.Test.YtndjgidglnofbaaRRRL8n
import Derived.Test.YtndjgidglnofbaaRRRRd
import Derived.Test.YtndjgidglnofbaaRRRRows
import Derived.Test.YtndjgidglnofbaaRRRAm24
set_option linter.all false
set_option maxRecDepth 100000
namespace Go.Proofs.YtndjgidglnofbaaRRR
open Go.ChangeShapes Go.WideShapes Go.ChangeAt Go.RowKit Go.Am
theorem own : ownKnob Try.prog.godebug = none := by kernel_rfl
theorem laidOut : laidOutB Try.prog = true := by kernel_rfl
theorem geo_fields : ∃ f0 f1 f2 : Field, Try.prog.underlying 23 = some (.struct #[f0, f1, f2]) ∧ (f0.offset = 0 ∧ Try.prog.cellsOf f0.type = 1 ∧ f0.type = 3) ∧ (f1.offset = 1 ∧ Try.prog.cellsOf f1.type = 1 ∧ f1.type = 3) ∧ (f2.offset = 2 ∧ Try.prog.cellsOf f2.type = 1 ∧ f2.type = 3) :=
  ⟨_, _, _, Try.underlying23, ⟨rfl, by kernel_rfl, rfl⟩, ⟨rfl, by kernel_rfl, rfl⟩, ⟨rfl, by kernel_rfl, rfl⟩⟩
/-- A geometry, in cells. -/
theorem rd_geo {H : Type} {enc : TypeId × Value → H} {w : World} {base : Nat} {spare : Nat → Bool} {held : Bool} {cs : List Value} {fuel : Nat} {x : DataW H × List MemPlace} (h : DataW.trod enc Try.prog w base spare held fuel 23 cs = some x) :
    ∃ g : Geo, cs = ic g.cells ∧ ∀ v ∈ g.cells, -9223372036854775808 ≤ v ∧ v ≤ 9223372036854775807 := by
  obtain ⟨f0, f1, f2, ht, h0, h1, h2⟩ := geo_fields
  have hi : Try.prog.underlying 3 = some (.int .i64) := Try.underlying3
  obtain ⟨b, e1, e2, e3⟩ := rd_nums (fs := #[f0, f1, f2]) ht (fun i f hf => by
    match i with
    | 0 => simp at hf; subst hf; exact ⟨h0.1, h0.2.1, by rw [h0.2.2]; exact hi⟩
    | 1 => simp at hf; subst hf; exact ⟨h1.1, h1.2.1, by rw [h1.2.2]; exact hi⟩
    | 2 => simp at hf; subst hf; exact ⟨h2.1, h2.2.1, by rw [h2.2.2]; exact hi⟩
    | i + 3 => simp at hf) (by kernel_rfl) h
  match b, e2 with
  | [p, q, r], _ => exact ⟨⟨p, q, r⟩, e1, e3⟩
theorem nil_calls (x : Int) {b : List Int} (hb : b.length = 1024) (g : Geo) (w : World) : Calls Try.prog 6 #[.int .i64 x, .agg ⟨bc b⟩, .agg ⟨ic g.cells⟩] w fun e w' => e = .returned (.bool true) ∧ Below w.heap.size w w' := by
  obtain ⟨r, σ', hs, rfl⟩ := walnil_ (σ := Store.empty) (Q := fun r _ => r = .bool true) x hb g fun _ _ => rfl
  refine Calls.mono (hs.below (rel_empty w) (VRs.three (VR.of_closed rfl) (VR.of_closed (bc_scalar b)) (VR.of_closed (by simp [closed, ic, Geo.cells, scalar]))) fun i o h => by rw [empty_get] at h; cases h) ?_
  rintro e w' ⟨M', v, rfl, h2, _, h4⟩
  rw [h2.bool_]
  exact ⟨rfl, h4⟩
/-- An input at which all is well. -/
def wb : Value := .agg ⟨List.replicate 1024 (.int .u8 0)⟩
def wi : Input := ⟨#[], #[.int .i64 0, wb, .agg ⟨[.int .i64 0, .int .i64 0, .int .i64 0]⟩], []⟩
theorem row_block (w : World) : Value.okWideB Try.prog w 46 (.agg ⟨List.replicate 1024 (.int .u8 0)⟩) = true := by
  have hts : Try.prog.cellTypes Try.prog.depth 46 = some (List.replicate 1024 5) := by kernel_rfl
  have hc : Try.prog.cellsOf 46 = 1024 := by kernel_rfl
  unfold Value.okWideB
  rw [Try.underlying46]
  simp only [Bool.and_eq_true, beq_iff_eq]
  refine ⟨by rw [hc]; simp, ?_⟩
  unfold Cell.okWideRowB
  rw [hts]
  simp only [Bool.and_eq_true, beq_iff_eq, List.all_eq_true, List.mem_range]
  refine ⟨by simp, fun i hi => ?_⟩
  have hi : i < 1024 := by simpa using hi
  have e1 : (⟨List.replicate 1024 (Value.int .u8 0)⟩ : Array Value)[i]? = some (.int .u8 0) := by
    rw [List.getElem?_toArray, List.getElem?_replicate, if_pos hi]
  have e2 : (List.replicate 1024 5)[i % (List.replicate 1024 5).length]? = some 5 := by
    rw [List.length_replicate, Nat.mod_eq_of_lt hi, List.getElem?_replicate, if_pos hi]
  rw [e1, e2]
  have : Cell.okWideB Try.prog w 5 (.int .u8 0) = true := by kernel_rfl
  exact this
theorem wi_ok (w : World) : Input.okWideB Try.prog w 6 ⟨#[], wi.args, []⟩ = true := by
  have h0 : Value.okWideB Try.prog w 3 (.int .i64 0) = true := by kernel_rfl
  have h1 : Value.okWideB Try.prog w 46 wb = true := row_block w
  have h2 : Value.okWideB Try.prog w 23 (.agg ⟨[.int .i64 0, .int .i64 0, .int .i64 0]⟩) = true := by kernel_rfl
  have hp : Try.f6.params = #[3, 46, 23] := by kernel_rfl
  have hb : Try.f6.body.isSome = true := by kernel_rfl
  have ho : Try.f6.ours = false := by kernel_rfl
  have hn : Try.f6.nfree = 0 := by kernel_rfl
  have hi : (Try.prog.inits.idxOf? 6).isNone = true := by kernel_rfl
  unfold Input.okWideB
  rw [Try.func6]
  simp only [hp, hb, ho, hn, hi, wi]
  simp [List.range_succ, h0, h1, h2]
theorem nil_lifted (os : Os) (started : os.Started) (H : Type) (enc : TypeId × Value → H) :
    ReturnsInHanded {} Try.checked os 6 .any (Rows.walNilSpec.pre6 enc Try.prog Try.f6 Rows.walNilRow.domain false) (Rows.walNilSpec.post enc Try.prog Try.f6 false true false false) := by
  refine returnsInHanded_of_change (C := Try.checked) own started (by kernel_rfl) Try.func6
    (ChangeSpec.witness6 (enc := enc) (C := Try.checked) false wi 8 (by kernel_rfl) (by kernel_rfl) (wi_ok _) (by kernel_rfl)) ?_
  intro W base args ds gs before hval0 hW hcnd _
  have hval : ∀ (j : Nat) t v, Try.f6.params[j]? = some t → args[j]? = some v → Value.okWide Try.prog W .any base t v := hval0
  have hW' := hW
  obtain ⟨p, q, hA0, hV, rfl, hfz, hnd⟩ := hW
  have hA : DataW.TrodAll enc Try.prog W 0 (fun _ => true) true Try.f6.params.toList args.toList ds p := hA0
  have hp : Try.f6.params.toList = [3, 46, 23] := by kernel_rfl
  rw [hp] at hA
  obtain ⟨v0, v1, v2, d0, d1, d2, p0, p1, p2, rfl, rfl, rfl, h0, h1, h2⟩ := trodAll_three hA
  obtain ⟨rfl, rfl⟩ := trodVars_none hV
  have hpa : ∀ j t, [3, 46, 23][j]? = some t → Try.f6.params[j]? = some t := fun j t hj => by
    rw [← hp] at hj; rw [← Array.getElem?_toList]; exact hj
  obtain ⟨x, rfl, w0⟩ := rd_int Try.underlying3 (hval 0 3 v0 (hpa 0 _ rfl) rfl) h0
  obtain ⟨cs1, rfl, _⟩ := okWide_agg (.inr ⟨_, _, Try.underlying46⟩) (hval 1 _ v1 (hpa 1 _ rfl) rfl)
  obtain ⟨cs2, rfl, _⟩ := okWide_agg (.inl ⟨_, Try.underlying23⟩) (hval 2 _ v2 (hpa 2 _ rfl) rfl)
  obtain ⟨fu1, t1⟩ := trod_agg h1
  obtain ⟨fu2, t2⟩ := trod_agg h2
  obtain ⟨b, rfl, hb, _⟩ := rd_bytes Try.underlying46 Try.underlying5 (by kernel_rfl) (by kernel_rfl) t1
  obtain ⟨g, rfl, _⟩ := rd_geo t2
  have lt : ∀ {t v d p}, DataW.Trod enc Try.prog W 0 (fun _ => true) true t v d p → ∀ y ∈ p, y.block < W.heap.size := fun h => by obtain ⟨m, hm⟩ := h; exact DataW.trod_lt m _ _ _ hm
  refine (nil_calls x hb g W).mono fun e W' ⟨he, bel⟩ => ?_
  subst he
  exact ⟨_, rfl, _, _, _, [], _, [], hW', trodAll_mk1 (shut_bool Try.underlying4 _), trodAll_mk3 (Below.trod laidOut (by kernel_rfl) (of_decide_eq_true (by kernel_rfl)) h0 bel (lt h0)) (Below.trod laidOut (by kernel_rfl) (of_decide_eq_true (by kernel_rfl)) h1 bel (lt h1)) (Below.trod laidOut (by kernel_rfl) (of_decide_eq_true (by kernel_rfl)) h2 bel (lt h2)), rfl, bel.frame _, fun h => by cases h⟩

/-- THE STATEMENT -/
theorem nil_holds : Rows.WalNilSaid :=
  OpenClaim.holds_of_wide 6 Try.f6 rfl rfl rfl rfl rfl rfl rfl ⟨rfl, rfl, rfl, rfl, rfl⟩ rfl rfl rfl rfl rfl (by kernel_rfl) Try.func6 (by kernel_rfl)
    (of_decide_eq_true (by kernel_rfl)) (by unfold Func.isWrapper; first | (rw [if_pos (by decide +kernel)]; kernel_rfl) | (rw [if_neg (by decide +kernel)]; exact ⟨rfl, rfl⟩))
    (fun os started H enc _ => nil_lifted os started H enc)
#print axioms nil_holds

end Go.Proofs.YtndjgidglnofbaaRRR
