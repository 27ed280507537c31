/- WalHeader: the row. No condition. -/
import Derived.Test.YtiaonndafhfkmaaHdr
import Derived.Test.YtiaonndafhfkmaaRd
import Derived.Test.YtiaonndafhfkmaaRows
import Derived.Test.YtiaonndafhfkmaaRws
import Derived.Test.YtiaonndafhfkmaaAm34
import Derived.ProofKit
import Derived.Carry
import Derived.OpenShut
import Derived.ShutString
import Derived.ChangeOld
set_option linter.all false
set_option maxRecDepth 100000
namespace Go.Proofs.Ytiaonndafhfkmaa
open Go.ChangeShapes Go.WideShapes Go.ChangeAt Go.RowKit Go.Am
theorem laidOut : laidOutB Try.prog = true := by kernel_rfl
theorem ownh : ownKnob Try.prog.godebug = none := by kernel_rfl
theorem geo_fields : ∃ f0 f1 f2 : Field, Try.prog.underlying 23 = some (.struct #[f0, f1, f2]) ∧ (f0.offset = 0 ∧ Try.prog.cellsOf f0.type = 1 ∧ f0.type = 3) ∧ (f1.offset = 1 ∧ Try.prog.cellsOf f1.type = 1 ∧ f1.type = 3) ∧ (f2.offset = 2 ∧ Try.prog.cellsOf f2.type = 1 ∧ f2.type = 3) :=
  ⟨_, _, _, Try.underlying23, ⟨rfl, by kernel_rfl, rfl⟩, ⟨rfl, by kernel_rfl, rfl⟩, ⟨rfl, by kernel_rfl, rfl⟩⟩
theorem im_fields : ∃ f0 f1 : Field, Try.prog.underlying 63 = some (.struct #[f0, f1]) ∧ (f0.offset = 0 ∧ Try.prog.cellsOf f0.type = 1 ∧ f0.type = 3) ∧ (f1.offset = 1 ∧ Try.prog.cellsOf f1.type = 1 ∧ f1.type = 61) :=
  ⟨_, _, Try.underlying63, ⟨rfl, by kernel_rfl, rfl⟩, ⟨rfl, by kernel_rfl, rfl⟩⟩
theorem held_fields : ∃ f0 f1 : Field, Try.prog.underlying 104 = some (.struct #[f0, f1]) ∧ (f0.offset = 0 ∧ Try.prog.cellsOf f0.type = 1 ∧ f0.type = 3) ∧ (f1.offset = 1 ∧ Try.prog.cellsOf f1.type = 1024 ∧ f1.type = 46) :=
  ⟨_, _, Try.underlying104, ⟨rfl, by kernel_rfl, rfl⟩, ⟨rfl, by kernel_rfl, rfl⟩⟩
theorem rd_geo {H : Type} {enc : TypeId × Value → H} {w : World} {base : Nat} {spare : Nat → Bool} {held : Bool} {cs : List Value} {fuel : Nat} {x : DataW H × List MemPlace} (h : DataW.trod enc Try.prog w base spare held fuel 23 cs = some x) :
    ∃ g : Geo, cs = ic g.cells ∧ ∀ v ∈ g.cells, -9223372036854775808 ≤ v ∧ v ≤ 9223372036854775807 := by
  obtain ⟨f0, f1, f2, ht, h0, h1, h2⟩ := geo_fields
  have hi : Try.prog.underlying 3 = some (.int .i64) := Try.underlying3
  obtain ⟨b, e1, e2, e3⟩ := rd_nums (fs := #[f0, f1, f2]) ht (fun i f hf => by
    match i with
    | 0 => simp at hf; subst hf; exact ⟨h0.1, h0.2.1, by rw [h0.2.2]; exact hi⟩
    | 1 => simp at hf; subst hf; exact ⟨h1.1, h1.2.1, by rw [h1.2.2]; exact hi⟩
    | 2 => simp at hf; subst hf; exact ⟨h2.1, h2.2.1, by rw [h2.2.2]; exact hi⟩
    | i + 3 => simp at hf) (by kernel_rfl) h
  match b, e2 with
  | [p, q, r], _ => exact ⟨⟨p, q, r⟩, e1, e3⟩
theorem cells_cons {M : Places} {a b : Value} {xs ys : List Value} (h : VR M true a b) (k : Cells M xs ys) : Cells M (a :: xs) (b :: ys) := by
  refine ⟨by simp [k.1], fun i v v' hv hv' => ?_⟩
  cases i with
  | zero => simp at hv hv'; subst hv hv'; exact h
  | succ i => exact k.2 i v v' (by simpa using hv) (by simpa using hv')
theorem five {cs : List Value} (h : cs.length = 5) : ∃ c0 c1 c2 c3 c4, cs = [c0, c1, c2, c3, c4] := by
  match cs, h with
  | [c0, c1, c2, c3, c4], _ => exact ⟨c0, c1, c2, c3, c4, rfl⟩
theorem sc_fields : ∃ f0 f1 : Field, Try.prog.underlying 65 = some (.struct #[f0, f1]) ∧ (f0.offset = 0 ∧ Try.prog.cellsOf f0.type = 2 ∧ f0.type = 63) ∧ (f1.offset = 2 ∧ Try.prog.cellsOf f1.type = 3 ∧ f1.type = 23) :=
  ⟨_, _, Try.underlying65, ⟨rfl, by kernel_rfl, rfl⟩, ⟨rfl, by kernel_rfl, rfl⟩⟩
theorem waitC_rows (f : Nat → Int × List Int) : ∀ n, waitC ((List.range n).map f) = rowsL (fun i => .int .i64 (f i).1 :: bc (f i).2) n
  | 0 => rfl
  | n + 1 => by
    rw [List.range_succ, List.map_append, List.map_singleton, rowsL_succ, ← waitC_rows f n]
    exact waitC_app _ _ _
section
variable {H : Type} {enc : TypeId × Value → H} {w : World} {held : Bool} {r : Reach} {b0 : Nat} {v : Value} {d : DataW H} {ps : List MemPlace} {σ : Store} {M : Places}
/-- A list of blocks with their numbers. -/
theorem lend_helds {c1 : Value} {fuel : Nat} {x : DataW H × List MemPlace} (hr : Rel M σ w) (ha : AllLent σ) (o1 : Cell.okWide Try.prog w r b0 61 c1) (t2 : DataW.trod enc Try.prog w 0 (fun _ => true) held fuel 61 [c1] = some x) :
    ∃ (σ' : Store) (M' : Places) (u : Value) (L : List (Int × List Int)), Rel M' σ' w ∧ AllLent σ' ∧ Keeps σ σ' ∧ M.le M' ∧ VR M' true u c1 ∧ L.length ≤ maxLen ∧ (∀ p ∈ L, p.2.length = 1024) ∧ (∀ p ∈ L, BytesOk p.2) ∧ SlR σ' 1025 u L.length (waitC L) := by
  have hce : Try.prog.cellsOf 104 = 1025 := by kernel_rfl
  rcases top_slice Try.underlying61 o1 with rfl | ⟨b, o, len, cap, rfl, hb⟩
  · exact ⟨σ, M, .slice none 0 0, [], hr, ha, Keeps.refl _, M.le_refl, .scalar _ rfl, Nat.zero_le _, fun p hp => (by cases hp), fun p hp => (by cases hp), SlR.nil⟩
  · obtain ⟨hml, hx⟩ : len ≤ maxLen ∧ ∀ i, i < len → ∃ cs fuel x, w.cells? 0 ⟨b, o + i * Try.prog.cellsOf 104, none⟩ (Try.prog.cellsOf 104) = some cs ∧ DataW.trod enc Try.prog w 0 (fun _ => true) held fuel 104 cs = some x := by
      rcases in_slice Try.underlying61 (by rw [hce]; decide) t2 with h | ⟨a, h⟩ | ⟨b', o', len', cap', h, q1, _, q2⟩
      · cases h
      · cases h; exact ⟨Nat.zero_le _, fun i hi => absurd hi (Nat.not_lt_zero _)⟩
      · cases h; exact ⟨q1, q2⟩
    obtain ⟨k0, k1, hkt, kh0, kh1⟩ := held_fields
    have key : ∀ i, i < len → ∃ p : Int × List Int, (p.2.length = 1024 ∧ BytesOk p.2) ∧ w.cells? 0 ⟨b, o + i * 1025, none⟩ 1025 = some (.int .i64 p.1 :: bc p.2) := fun i hi => by
      obtain ⟨cs, fu, y, hcs, htr⟩ := hx i hi
      rw [hce] at hcs
      obtain ⟨xs, m, rfl, rfl, hl, hxl, hf⟩ := DataW.trod_struct hkt htr
      rw [hce] at hl
      have hx2 : xs.length = 2 := by simpa using hxl
      have t1 := hf 0 k0 rfl
      have t2 := hf 1 k1 rfl
      rw [kh0.1, kh0.2.1, kh0.2.2, List.getElem?_eq_getElem (by omega)] at t1
      rw [kh1.1, kh1.2.1, kh1.2.2, List.getElem?_eq_getElem (by omega)] at t2
      cases cs with
      | nil => simp at hl
      | cons c0 cs =>
        simp only [List.drop_zero, List.drop_succ_cons, List.take_succ_cons, List.take_zero] at t1 t2
        obtain ⟨x, e0, _, _⟩ := DataW.trod_int Try.underlying3 t1
        have e0 : c0 = .int .i64 x := by simpa using e0
        obtain ⟨bb, e1, e2, e3⟩ := rd_bytes Try.underlying46 Try.underlying5 (by kernel_rfl) (by kernel_rfl) t2
        rw [List.take_of_length_le (by simp at hl; omega)] at e1
        exact ⟨(x, bb), ⟨e2, e3⟩, by rw [hcs, e0, e1]⟩
    obtain ⟨f, hf⟩ := Go.Deep.choose_lt key
    have el := waitC_rows f len
    have hrl : ∀ i, i < len → (Value.int .i64 (f i).1 :: bc (f i).2).length = 1025 := fun i hi => by simp [(hf i hi).1.1]
    have l1 : (waitC ((List.range len).map f)).length = len * 1025 := by rw [el]; exact rowsL_len len hrl
    obtain ⟨σ', M', us, u, r1, a1, k1', m1, v1, l3, s1, o1'⟩ := lend_slice (vs := waitC ((List.range len).map f)) (ds := List.replicate (len * 1025) .sc) (b := b) (o := o) (sz := 1025) (len := len) (cap := cap) hr ha hb l1 (by rw [l1]; simp) (fun t v ht => by
      have htl : t < len * 1025 := by have := (List.getElem?_eq_some_iff.1 ht).1; omega
      rw [el, rowsL_get len hrl t htl] at ht
      have hd : t / 1025 < len := by omega
      have := cells_get (hf _ hd).2 ht
      rw [Nat.add_assoc, Nat.mul_comm, Nat.div_add_mod] at this
      exact this) (fun t v dd ht hdt => by
      have htl : t < len * 1025 := by have := (List.getElem?_eq_some_iff.1 ht).1; omega
      have : dd = .sc := by
        have := List.mem_of_getElem? hdt
        exact (List.mem_replicate.1 this).2
      subst this
      rw [el, rowsL_get len hrl t htl] at ht
      have hm := List.mem_of_getElem? ht
      rcases List.mem_cons.1 hm with rfl | hm
      · rfl
      · exact List.all_eq_true.1 (bc_scalar _) _ hm)
    have eus : us = waitC ((List.range len).map f) := by
      refine List.ext_getElem? fun t => ?_
      by_cases ht : t < len * 1025
      · have h1 : us[t]? = some us[t] := List.getElem?_eq_getElem (by omega)
        have h2 : (waitC ((List.range len).map f))[t]? = some (waitC ((List.range len).map f))[t] := List.getElem?_eq_getElem (by omega)
        have h3 : (List.replicate (len * 1025) Dsc.sc)[t]? = some .sc := by rw [List.getElem?_replicate, if_pos ht]
        have h4 : us[t] = (waitC ((List.range len).map f))[t] := o1' t _ _ _ h1 h2 h3
        rw [h1, h2, h4]
      · rw [List.getElem?_eq_none (by omega), List.getElem?_eq_none (by omega)]
    have hL : ((List.range len).map f).length = len := by simp
    refine ⟨σ', M', u, (List.range len).map f, r1, a1, k1', m1, v1, by rw [hL]; exact hml, fun p hp => ?_, fun p hp => ?_, by rw [hL, ← eus]; exact s1⟩
    · obtain ⟨i, hi, rfl⟩ := List.mem_map.1 hp
      exact (hf i (by simpa using hi)).1.1
    · obtain ⟨i, hi, rfl⟩ := List.mem_map.1 hp
      exact (hf i (by simpa using hi)).1.2
theorem hdr_calls {fuel : Nat} {cs : List Value} {x : DataW H × List MemPlace} (hd : DataW.trod enc Try.prog w 0 (fun _ => true) held fuel 65 cs = some x) (hok : Row.okWide Try.prog w r b0 65 ⟨cs⟩) :
    Calls Try.prog 4 #[.agg ⟨cs⟩] w fun e w' => e = .returned (.bool true) ∧ Below w.heap.size w w' := by
  obtain ⟨f0, f1, ht, p0, p1⟩ := sc_fields
  obtain ⟨xs, m, rfl, rfl, hl, hxl, hf⟩ := DataW.trod_struct ht hd
  have hc5 : Try.prog.cellsOf 65 = 5 := by kernel_rfl
  rw [hc5] at hl
  obtain ⟨c0, c1, c2, c3, c4, rfl⟩ := five hl
  have hx2 : xs.length = 2 := by simpa using hxl
  have t0 := hf 0 f0 rfl
  have t1 := hf 1 f1 rfl
  rw [p0.1, p0.2.1, p0.2.2, List.getElem?_eq_getElem (by omega)] at t0
  rw [p1.1, p1.2.1, p1.2.2, List.getElem?_eq_getElem (by omega)] at t1
  simp only [List.drop_zero, List.drop_succ_cons, List.take_succ_cons, List.take_zero] at t0 t1
  obtain ⟨g, hg, _⟩ := rd_geo t1
  obtain ⟨k0, k1, kt, q0, q1⟩ := im_fields
  obtain ⟨ys, m', _, _, _, hyl, hf'⟩ := DataW.trod_struct kt t0
  have hy2 : ys.length = 2 := by simpa using hyl
  have t2 := hf' 0 k0 rfl
  have t3 := hf' 1 k1 rfl
  rw [q0.1, q0.2.1, q0.2.2, List.getElem?_eq_getElem (by omega)] at t2
  rw [q1.1, q1.2.1, q1.2.2, List.getElem?_eq_getElem (by omega)] at t3
  simp only [List.drop_zero, List.drop_succ_cons, List.take_succ_cons, List.take_zero] at t2 t3
  obtain ⟨n, e0, _, _⟩ := DataW.trod_int Try.underlying3 t2
  have e0 : c0 = .int .i64 n := by simpa using e0
  subst e0
  obtain ⟨ts, hts, _, hcell⟩ := hok
  have hts' : Try.prog.cellTypes Try.prog.depth 65 = some [3, 61, 3, 3, 3] := by kernel_rfl
  rw [hts] at hts'
  cases hts'
  have o1 : Cell.okWide Try.prog w r b0 61 c1 := by obtain ⟨u, hu, h⟩ := hcell 1 c1 rfl; cases hu; exact h
  obtain ⟨σ1, M1, u, L, r1, a1, _, _, v1, hn, hl', hb', s1⟩ := lend_helds (rel_empty w) AllLent.empty o1 t3
  obtain ⟨e, σ3, hs, rfl⟩ := walheader_ (σ := σ1) (Q := fun x _ => x = .bool true) (n := n) (v := u) (L := L) (g := g) s1 hl' hb' fun _ => rfl
  have hgl : ([c2, c3, c4] : List Value) = ic g.cells := hg
  have hv : VR M1 false (.agg ⟨sceneC n u g⟩) (.agg ⟨[.int .i64 n, c1, c2, c3, c4]⟩) := by
    have hg3 : Cells M1 (ic g.cells) [c2, c3, c4] := by rw [hgl]; exact Cells.of_closed (by simp [ic, Geo.cells, scalar])
    exact (cells_cons (.scalar _ rfl) (cells_cons v1 hg3)).vagg
  refine Calls.mono (hs.below r1 (VRs.one hv) a1) ?_
  rintro e w' ⟨M2, v2, rfl, h2, _, h4⟩
  rw [h2.bool_]
  exact ⟨rfl, h4⟩
end
/-- An input at which all is well. -/
def wg : Input := ⟨#[], #[.agg ⟨[.int .i64 0, .slice none 0 0, .int .i64 0, .int .i64 0, .int .i64 0]⟩], []⟩
theorem hdr_lifted (os : Os) (started : os.Started) (H : Type) (enc : TypeId × Value → H) :
    ReturnsInHanded {} Try.checked os 4 .any (Rows.walHeaderSpec.pre6 enc Try.prog Try.f4 Rows.walHeaderRow.domain false) (Rows.walHeaderSpec.post enc Try.prog Try.f4 false true false false) := by
  refine returnsInHanded_of_change (C := Try.checked) ownh started (by kernel_rfl) Try.func4
    (ChangeSpec.witness6 (enc := enc) (C := Try.checked) false wg 8 (by kernel_rfl) (by kernel_rfl) (by kernel_rfl) (by kernel_rfl)) ?_
  intro W base args ds gs before hval0 hW hcnd _
  have hval : ∀ (j : Nat) t v, Try.f4.params[j]? = some t → args[j]? = some v → Value.okWide Try.prog W .any base t v := hval0
  have hW' := hW
  obtain ⟨p, q, hA0, hV, rfl, hfz, hnd⟩ := hW
  have hA : DataW.TrodAll enc Try.prog W 0 (fun _ => true) true Try.f4.params.toList args.toList ds p := hA0
  have hp : Try.f4.params.toList = [65] := by kernel_rfl
  rw [hp] at hA
  obtain ⟨v0, d0, rfl, rfl, h0⟩ := trodAll_one hA
  obtain ⟨rfl, rfl⟩ := trodVars_none hV
  have hpa : ∀ j t, [65][j]? = some t → Try.f4.params[j]? = some t := fun j t hj => by
    rw [← hp] at hj; rw [← Array.getElem?_toList]; exact hj
  have hok := hval 0 _ v0 (hpa 0 _ rfl) rfl
  unfold Value.okWide at hok
  rw [Try.underlying65] at hok
  obtain ⟨⟨cs⟩, rfl, _, hrow⟩ := hok
  obtain ⟨fu, t0⟩ := trod_agg h0
  have lt : ∀ {t v d p}, DataW.Trod enc Try.prog W 0 (fun _ => true) true t v d p → ∀ y ∈ p, y.block < W.heap.size := fun h => by obtain ⟨m, hm⟩ := h; exact DataW.trod_lt m _ _ _ hm
  refine (hdr_calls t0 hrow).mono fun e W' ⟨he, bel⟩ => ?_
  subst he
  exact ⟨_, rfl, _, _, _, [], _, [], hW', trodAll_mk1 (shut_bool Try.underlying4 _), trodAll_mk1 (Below.trod laidOut (by kernel_rfl) (of_decide_eq_true (by kernel_rfl)) h0 bel (lt h0)), rfl, bel.frame _, fun h => by cases h⟩

/-- THE STATEMENT -/
theorem hdr_holds : Rows.WalHeaderSaid :=
  OpenClaim.holds_of_wide 4 Try.f4 rfl rfl rfl rfl rfl rfl rfl ⟨rfl, rfl, rfl, rfl, rfl⟩ rfl rfl rfl rfl rfl (by kernel_rfl) Try.func4 (by kernel_rfl)
    (of_decide_eq_true (by kernel_rfl)) (by unfold Func.isWrapper; first | (rw [if_pos (by decide +kernel)]; kernel_rfl) | (rw [if_neg (by decide +kernel)]; exact ⟨rfl, rfl⟩))
    (fun os started H enc _ => hdr_lifted os started H enc)
#print axioms hdr_holds
end Go.Proofs.Ytiaonndafhfkmaa
