/- WalWhole: the row. No condition. -/
import Derived.Test.YtkmalbaollffiaaWhole
import Derived.Test.YtkmalbaollffiaaRow8
import Derived.Test.YtkmalbaollffiaaPly
set_option linter.all false
set_option maxRecDepth 100000
set_option maxHeartbeats 800000
namespace Go.Proofs.Ytkmalbaollffiaa
open Go.ChangeShapes Go.WideShapes Go.ChangeAt Go.RowKit Go.Am
theorem cells_cons {M : Places} {a b : Value} {xs ys : List Value} (h : VR M true a b) (k : Cells M xs ys) : Cells M (a :: xs) (b :: ys) := by
  refine ⟨by simp [k.1], fun i v v' hv hv' => ?_⟩
  cases i with
  | zero => simp at hv hv'; subst hv hv'; exact h
  | succ i => exact k.2 i v v' (by simpa using hv) (by simpa using hv')
theorem ply_fields : ∃ f0 f1 f2 f3 f4 f5 f6 : Field, Try.prog.underlying 28 = some (.struct #[f0, f1, f2, f3, f4, f5, f6]) ∧ (f0.offset = 0 ∧ Try.prog.cellsOf f0.type = 3 ∧ f0.type = 23) ∧ (f1.offset = 3 ∧ Try.prog.cellsOf f1.type = 1 ∧ f1.type = 24) ∧
    (f2.offset = 4 ∧ Try.prog.cellsOf f2.type = 1 ∧ f2.type = 25) ∧ (f3.offset = 5 ∧ Try.prog.cellsOf f3.type = 1 ∧ f3.type = 3) ∧ (f5.offset = 7 ∧ Try.prog.cellsOf f5.type = 1 ∧ f5.type = 3) ∧ (f4.offset = 6 ∧ Try.prog.cellsOf f4.type = 1 ∧ f4.type = 26) ∧ (f6.offset = 8 ∧ Try.prog.cellsOf f6.type = 1 ∧ f6.type = 26) :=
  ⟨_, _, _, _, _, _, _, Try.underlying28, ⟨rfl, by kernel_rfl, rfl⟩, ⟨rfl, by kernel_rfl, rfl⟩, ⟨rfl, by kernel_rfl, rfl⟩, ⟨rfl, by kernel_rfl, rfl⟩, ⟨rfl, by kernel_rfl, rfl⟩, ⟨rfl, by kernel_rfl, rfl⟩, ⟨rfl, by kernel_rfl, rfl⟩⟩
theorem nine {cs : List Value} (h : cs.length = 9) : ∃ c0 c1 c2 c3 c4 c5 c6 c7 c8, cs = [c0, c1, c2, c3, c4, c5, c6, c7, c8] := by
  match cs, h with
  | [c0, c1, c2, c3, c4, c5, c6, c7, c8], _ => exact ⟨c0, c1, c2, c3, c4, c5, c6, c7, c8, rfl⟩
section
variable {H : Type} {enc : TypeId × Value → H} {w : World} {held : Bool}
theorem in_steps {fuel : Nat} {x : DataW H × List MemPlace} {b o len cap : Nat} (h : DataW.trod enc Try.prog w 0 (fun _ => true) held fuel 24 [.slice (some ⟨b, o, none⟩) len cap] = some x) :
    ∃ (vs : List Value) (ts : List (List (Int × Int))), vs.length = len ∧ ts.length = len ∧ (∀ t ∈ ts, t.length ≤ maxLen ∧ ∀ p ∈ t, 0 ≤ p.2 ∧ p.2 < 256) ∧ (∀ (i : Nat) v, vs[i]? = some v → w.cell? ⟨b, o + i, none⟩ = some v) ∧ (∀ (i : Nat) v t, vs[i]? = some v → ts[i]? = some t → ChgSl w v t) ∧ len ≤ maxLen := by
  have hce : Try.prog.cellsOf 37 = 1 := by kernel_rfl
  obtain ⟨f0, f1, ht, h0, h1⟩ := chg_fields
  have key : len ≤ maxLen ∧ ∀ i, i < len → ∃ vt : Value × List (Int × Int), w.cell? ⟨b, o + i, none⟩ = some vt.1 ∧ (vt.2.length ≤ maxLen ∧ ∀ p ∈ vt.2, 0 ≤ p.2 ∧ p.2 < 256) ∧ ChgSl w vt.1 vt.2 := by
    rcases in_slice Try.underlying24 (by rw [hce]; exact Nat.one_pos) h with h | ⟨a, h⟩ | ⟨b', o', len', cap', h, hml, _, hx⟩
    · cases h
    · cases h; exact ⟨Nat.zero_le _, fun i hi => absurd hi (Nat.not_lt_zero _)⟩
    · cases h
      refine ⟨hml, fun i hi => ?_⟩
      obtain ⟨cs, fu, y, hcs, htr⟩ := hx i hi
      rw [hce, Nat.mul_one] at hcs
      obtain ⟨v, rfl⟩ : ∃ v, cs = [v] := by
        rcases DataW.trod_slice Try.underlying37 htr with ⟨e, _⟩ | ⟨_, _, _, _, _, _, _, e, _⟩
        · exact ⟨_, e⟩
        · exact ⟨_, e⟩
      obtain ⟨l, q1, q2, q3⟩ := in_changes Try.underlying37 ht ⟨h0.1, h0.2.1, by rw [h0.2.2]; exact Try.underlying3⟩ ⟨h1.1, h1.2.1, by rw [h1.2.2]; exact Try.underlying5⟩ (by kernel_rfl) htr
      exact ⟨(v, l), by simpa using cells_get hcs (i := 0) rfl, ⟨q1, q2⟩, q3⟩
  obtain ⟨hml, key⟩ := key
  obtain ⟨f, hf⟩ := Go.Deep.choose_lt key
  have g1 : ∀ (i : Nat) v, ((List.range len).map fun i => (f i).1)[i]? = some v → i < len ∧ v = (f i).1 := fun i v hv => by
    have hi : i < len := by have := (List.getElem?_eq_some_iff.1 hv).1; simpa using this
    rw [List.getElem?_map, List.getElem?_range hi] at hv
    exact ⟨hi, by simpa using hv.symm⟩
  have g2 : ∀ (i : Nat) v, ((List.range len).map fun i => (f i).2)[i]? = some v → i < len ∧ v = (f i).2 := fun i v hv => by
    have hi : i < len := by have := (List.getElem?_eq_some_iff.1 hv).1; simpa using this
    rw [List.getElem?_map, List.getElem?_range hi] at hv
    exact ⟨hi, by simpa using hv.symm⟩
  refine ⟨(List.range len).map fun i => (f i).1, (List.range len).map fun i => (f i).2, by simp, by simp, fun t ht => ?_, fun i v hv => ?_, fun i v t hv ht => ?_, hml⟩
  · obtain ⟨i, hi, rfl⟩ := List.mem_map.1 ht
    exact (hf i (by simpa using hi)).2.1
  · obtain ⟨hi, rfl⟩ := g1 i v hv
    exact (hf i hi).1
  · obtain ⟨hi, rfl⟩ := g1 i v hv
    obtain ⟨_, rfl⟩ := g2 i t ht
    exact (hf i hi).2.2
theorem in_ints {fuel : Nat} {x : DataW H × List MemPlace} {b o len cap : Nat} (h : DataW.trod enc Try.prog w 0 (fun _ => true) held fuel 25 [.slice (some ⟨b, o, none⟩) len cap] = some x) :
    ∃ l : List Int, l.length = len ∧ len ≤ maxLen ∧ ∀ (i : Nat) v, (ic l)[i]? = some v → w.cell? ⟨b, o + i, none⟩ = some v := by
  have hce : Try.prog.cellsOf 3 = 1 := by kernel_rfl
  have key : len ≤ maxLen ∧ ∀ i, i < len → ∃ n : Int, w.cell? ⟨b, o + i, none⟩ = some (.int .i64 n) := by
    rcases in_slice Try.underlying25 (by rw [hce]; exact Nat.one_pos) h with h | ⟨a, h⟩ | ⟨b', o', len', cap', h, hml, _, hx⟩
    · cases h
    · cases h; exact ⟨Nat.zero_le _, fun i hi => absurd hi (Nat.not_lt_zero _)⟩
    · cases h
      refine ⟨hml, fun i hi => ?_⟩
      obtain ⟨cs, fu, y, hcs, htr⟩ := hx i hi
      rw [hce, Nat.mul_one] at hcs
      obtain ⟨n, rfl, _, _⟩ := DataW.trod_int Try.underlying3 htr
      exact ⟨n, by simpa using cells_get hcs (i := 0) rfl⟩
  obtain ⟨hml, key⟩ := key
  obtain ⟨f, hf⟩ := Go.Deep.choose_lt key
  refine ⟨(List.range len).map f, by simp, hml, fun i v hv => ?_⟩
  have hi : i < len := by have := (List.getElem?_eq_some_iff.1 hv).1; simpa [ic] using this
  unfold ic at hv
  rw [List.map_map, List.getElem?_map, List.getElem?_range hi] at hv
  have hv : Value.int .i64 (f i) = v := by simpa using hv
  rw [← hv]; exact hf i hi
theorem LentSl.stp {σ : Store} {v : Value} {l : List (Int × Int)} (h : LentSl σ v l) : StpV σ v l := by
  rcases h with ⟨rfl, rfl | rfl⟩ | ⟨i, cap, rfl, hi⟩
  · exact StpV.of SlR.nil
  · exact ⟨rfl, fun i p hp => by simp at hp⟩
  · exact StpV.of ⟨chgC_len l, .inr ⟨i, 0, none, cap, .lent (chgC l), chgC l, rfl, .inl rfl, hi, rfl, by rw [List.drop_zero, ← chgC_len, List.take_length]⟩⟩
theorem lend_bools {σ : Store} {M : Places} {fuel : Nat} {x : DataW H × List MemPlace} {r : Reach} {b0 : Nat} {c : Value} (hr : Rel M σ w) (ha : AllLent σ) (hc : Cell.okWide Try.prog w r b0 26 c) (h : DataW.trod enc Try.prog w 0 (fun _ => true) held fuel 26 [c] = some x) :
    ∃ (σ' : Store) (M' : Places) (u : Value) (ks : List Bool), Rel M' σ' w ∧ AllLent σ' ∧ Keeps σ σ' ∧ M.le M' ∧ VR M' true u c ∧ SlR σ' 1 u ks.length (bC ks) := by
  have hce : Try.prog.cellsOf 4 = 1 := by kernel_rfl
  rcases top_slice Try.underlying26 hc with rfl | ⟨b, o, len, cap, rfl, hb⟩
  · exact ⟨σ, M, .slice none 0 0, [], hr, ha, Keeps.refl _, M.le_refl, .scalar _ rfl, SlR.nil⟩
  · have key : ∀ i, i < len → ∃ k : Bool, w.cell? ⟨b, o + i, none⟩ = some (.bool k) := by
      rcases in_slice Try.underlying26 (by rw [hce]; exact Nat.one_pos) h with h | ⟨a, h⟩ | ⟨b', o', len', cap', h, hml, _, hx⟩
      · cases h
      · cases h; exact fun i hi => absurd hi (Nat.not_lt_zero _)
      · cases h
        intro i hi
        obtain ⟨cs, fu, y, hcs, htr⟩ := hx i hi
        rw [hce, Nat.mul_one] at hcs
        obtain ⟨n, rfl, _⟩ := DataW.trod_bool Try.underlying4 htr
        exact ⟨n, by simpa using cells_get hcs (i := 0) rfl⟩
    obtain ⟨f, hf⟩ := Go.Deep.choose_lt key
    obtain ⟨σ', M', u, j1, j2, j3, j4, j5, j6⟩ := lend_cells (cap := cap) (us := bC ((List.range len).map f)) (len := len) hr ha hb (by simp [bC]) fun j u hu => by
      have hj : j < len := by have := (List.getElem?_eq_some_iff.1 hu).1; simpa [bC] using this
      unfold bC at hu
      rw [List.map_map, List.getElem?_map, List.getElem?_range hj] at hu
      have hu : Value.bool (f j) = u := by simpa using hu
      rw [← hu]
      exact ⟨_, hf j hj, .scalar _ rfl⟩
    exact ⟨σ', M', u, (List.range len).map f, j1, j2, j3, j4, j5, by simpa using j6⟩
theorem who_calls {fuel : Nat} {cs : List Value} {x : DataW H × List MemPlace} {r : Reach} {b0 : Nat} (hd : DataW.trod enc Try.prog w 0 (fun _ => true) held fuel 28 cs = some x) (hok : Row.okWide Try.prog w r b0 28 ⟨cs⟩) :
    Calls Try.prog 4 #[.agg ⟨cs⟩] w fun e w' => e = .returned (.bool true) ∧ Below w.heap.size w w' := by
  obtain ⟨f0, f1, f2, f3, f4, f5, f6, ht, p0, p1, p2, p3, p5, p4, p6⟩ := ply_fields
  obtain ⟨xs, m, rfl, rfl, hl, hxl, hf⟩ := DataW.trod_struct ht hd
  have hc9 : Try.prog.cellsOf 28 = 9 := by kernel_rfl
  rw [hc9] at hl
  obtain ⟨c0, c1, c2, c3, c4, c5, c6, c7, c8, rfl⟩ := nine hl
  have hx7 : xs.length = 7 := by simpa using hxl
  have t0 := hf 0 f0 rfl
  have t1 := hf 1 f1 rfl
  have t2 := hf 2 f2 rfl
  have t3 := hf 3 f3 rfl
  have t5 := hf 5 f5 rfl
  have t4 := hf 4 f4 rfl
  have t6 := hf 6 f6 rfl
  rw [p0.1, p0.2.1, p0.2.2, List.getElem?_eq_getElem (by omega)] at t0
  rw [p1.1, p1.2.1, p1.2.2, List.getElem?_eq_getElem (by omega)] at t1
  rw [p2.1, p2.2.1, p2.2.2, List.getElem?_eq_getElem (by omega)] at t2
  rw [p3.1, p3.2.1, p3.2.2, List.getElem?_eq_getElem (by omega)] at t3
  rw [p5.1, p5.2.1, p5.2.2, List.getElem?_eq_getElem (by omega)] at t5
  rw [p4.1, p4.2.1, p4.2.2, List.getElem?_eq_getElem (by omega)] at t4
  rw [p6.1, p6.2.1, p6.2.2, List.getElem?_eq_getElem (by omega)] at t6
  simp only [List.drop_zero, List.drop_succ_cons, List.take_succ_cons, List.take_zero] at t0 t1 t2 t3 t4 t5 t6
  obtain ⟨g, hg, _⟩ := rd_geo t0
  obtain ⟨n5, e5, _, _⟩ := DataW.trod_int Try.underlying3 t3
  obtain ⟨n7, e7, _, _⟩ := DataW.trod_int Try.underlying3 t5
  have e5 : c5 = .int .i64 n5 := by simpa using e5
  have e7 : c7 = .int .i64 n7 := by simpa using e7
  obtain ⟨ts, hts, _, hcell⟩ := hok
  have hts' : Try.prog.cellTypes Try.prog.depth 28 = some [3, 3, 3, 24, 25, 3, 26, 3, 26] := by kernel_rfl
  rw [hts] at hts'
  cases hts'
  have o3 : Cell.okWide Try.prog w r b0 24 c3 := by obtain ⟨u, hu, h⟩ := hcell 3 c3 rfl; cases hu; exact h
  have o4 : Cell.okWide Try.prog w r b0 25 c4 := by obtain ⟨u, hu, h⟩ := hcell 4 c4 rfl; cases hu; exact h
  have o6 : Cell.okWide Try.prog w r b0 26 c6 := by obtain ⟨u, hu, h⟩ := hcell 6 c6 rfl; cases hu; exact h
  have o8 : Cell.okWide Try.prog w r b0 26 c8 := by obtain ⟨u, hu, h⟩ := hcell 8 c8 rfl; cases hu; exact h
  -- the steps
  obtain ⟨σ1, M1, sv, ls, steps, r1, a1, v1, w1, w2, w3, w4, w5⟩ : ∃ (σ1 : Store) (M1 : Places) (sv : Value) (ls : List Value) (steps : List (List (Int × Int))), Rel M1 σ1 w ∧ AllLent σ1 ∧ VR M1 true sv c3 ∧ ls.length = steps.length ∧ steps.length ≤ maxLen ∧
      (∀ t ∈ steps, t.length ≤ maxLen ∧ ∀ p ∈ t, 0 ≤ p.2 ∧ p.2 < 256) ∧ SlR σ1 1 sv ls.length ls ∧ ∀ (i : Nat) v t, ls[i]? = some v → steps[i]? = some t → LentSl σ1 v t := by
    rcases top_slice Try.underlying24 o3 with rfl | ⟨b, o, len, cap, rfl, hb⟩
    · exact ⟨Store.empty, fun _ => none, .slice none 0 0, [], [], rel_empty w, AllLent.empty, .scalar _ rfl, rfl, Nat.zero_le _, fun t ht => by simp at ht, SlR.nil, fun i v t h => by simp at h⟩
    · obtain ⟨vs, ts, q1, q2, q3, q4, q5, q6⟩ := in_steps t1
      obtain ⟨σ1, M1, us, k1, k2, k3, k4, k5, k6, k7⟩ := lend_all (w := w) (q1.trans q2.symm) q5 (rel_empty w) AllLent.empty
      obtain ⟨σ2, M2, u, j1, j2, j3, j4, j5, j6⟩ := lend_cells (cap := cap) k1 k2 hb (k5.trans q1) fun j u hu => by
        have hj : j < vs.length := by have := (List.getElem?_eq_some_iff.1 hu).1; omega
        exact ⟨vs[j], q4 j _ (List.getElem?_eq_getElem hj), k6 j u _ hu (List.getElem?_eq_getElem hj)⟩
      exact ⟨σ2, M2, u, us, ts, j1, j2, j5, by omega, by omega, q3, by rw [k5, q1]; exact j6, fun i v t hv ht => (k7 i v t hv ht).keep j3⟩
  obtain ⟨σ2, M2, yv, sy, r2, a2, k2, m2, v2, u1, u2⟩ : ∃ (σ2 : Store) (M2 : Places) (yv : Value) (sy : List Int), Rel M2 σ2 w ∧ AllLent σ2 ∧ Keeps σ1 σ2 ∧ M1.le M2 ∧ VR M2 true yv c4 ∧ sy.length ≤ maxLen ∧ SlR σ2 1 yv sy.length (ic sy) := by
    rcases top_slice Try.underlying25 o4 with rfl | ⟨b, o, len, cap, rfl, hb⟩
    · exact ⟨σ1, M1, .slice none 0 0, [], r1, a1, Keeps.refl _, M1.le_refl, .scalar _ rfl, Nat.zero_le _, SlR.nil⟩
    · obtain ⟨l, q1, q2, q3⟩ := in_ints t2
      obtain ⟨σ2, M2, u, j1, j2, j3, j4, j5, j6⟩ := lend_cells (cap := cap) (us := ic l) (len := len) r1 a1 hb (by simpa [ic] using q1) fun j u hu => ⟨u, q3 j u hu, .scalar u (by
        have := List.mem_of_getElem? hu
        unfold ic at this
        obtain ⟨n, _, rfl⟩ := List.mem_map.1 this
        rfl)⟩
      exact ⟨σ2, M2, u, l, j1, j2, j3, j4, j5, by omega, by rw [q1]; exact j6⟩
  obtain ⟨σ3, M3, kv, ks, r3, a3, k3, m3, v3, b3⟩ := lend_bools r2 a2 o6 t4
  obtain ⟨σ4, M4, kv2, ks2, r4, a4, k4, m4, v4, b4⟩ := lend_bools r3 a3 o8 t6
  have k14 := (k2.trans k3).trans k4
  have k24 := k3.trans k4
  obtain ⟨y, σ', hs, rfl⟩ := walwhole_ (σ := σ4) (Q := fun y _ => y = .bool true) (g := g) (sv := sv) (yv := yv) (kv := kv) (kv2 := kv2) (x := n5) (y := n7) (ls := ls) (steps := steps) (sy := sy) (by unfold maxLen at u1; omega) (fun t ht => (w3 t ht).2) w1 (by unfold maxLen at w2; omega) (fun t ht => by have := (w3 t ht).1; unfold maxLen at this; omega)
    (w4.keeps fun i o h => k14.get h) (u2.keeps fun i o h => k24.get h) (fun i v t hv ht => LentSl.stp ((w5 i v t hv ht).keep k14)) (fun _ => rfl) (b3.keeps fun i o h => k4.get h) b4
  have hgl : ([c0, c1, c2] : List Value) = ic g.cells := hg
  have hv : VR M4 false (.agg ⟨playV g sv yv kv kv2 n5 n7⟩) (.agg ⟨[c0, c1, c2, c3, c4, c5, c6, c7, c8]⟩) := by
    have hg3 : Cells M4 (ic g.cells) [c0, c1, c2] := by rw [hgl]; exact Cells.of_closed (by simp [ic, Geo.cells, scalar])
    rw [e5, e7]
    exact (hg3.append (cells_cons (v1.mono (Places.le_trans m2 (Places.le_trans m3 m4))) (cells_cons (v2.mono (Places.le_trans m3 m4)) (cells_cons (.scalar _ rfl) (cells_cons (v3.mono m4) (cells_cons (.scalar _ rfl) (cells_cons v4 Cells.nil))))))).vagg
  refine Calls.mono (hs.below r4 (VRs.one hv) a4) ?_
  rintro e w' ⟨M', v, rfl, h2, _, h4⟩
  rw [h2.bool_]
  exact ⟨rfl, h4⟩
end
/-- An input at which all is well. -/
def wg : Input := ⟨#[], #[.agg ⟨[.int .i64 0, .int .i64 0, .int .i64 0, .slice none 0 0, .slice none 0 0, .int .i64 0, .slice none 0 0, .int .i64 0, .slice none 0 0]⟩], []⟩
theorem who_lifted (os : Os) (started : os.Started) (H : Type) (enc : TypeId × Value → H) :
    ReturnsInHanded {} Try.checked os 4 .any (Rows.walWholeSpec.pre6 enc Try.prog Try.f4 Rows.walWholeRow.domain false) (Rows.walWholeSpec.post enc Try.prog Try.f4 false true false false) := by
  refine returnsInHanded_of_change (C := Try.checked) own started (by kernel_rfl) Try.func4
    (ChangeSpec.witness6 (enc := enc) (C := Try.checked) false wg 8 (by kernel_rfl) (by kernel_rfl) (by kernel_rfl) (by kernel_rfl)) ?_
  intro W base args ds gs before hval0 hW hcnd _
  have hval : ∀ (j : Nat) t v, Try.f4.params[j]? = some t → args[j]? = some v → Value.okWide Try.prog W .any base t v := hval0
  have hW' := hW
  obtain ⟨p, q, hA0, hV, rfl, hfz, hnd⟩ := hW
  have hA : DataW.TrodAll enc Try.prog W 0 (fun _ => true) true Try.f4.params.toList args.toList ds p := hA0
  have hp : Try.f4.params.toList = [28] := by kernel_rfl
  rw [hp] at hA
  obtain ⟨v0, d0, rfl, rfl, h0⟩ := trodAll_one hA
  obtain ⟨rfl, rfl⟩ := trodVars_none hV
  have hpa : ∀ j t, [28][j]? = some t → Try.f4.params[j]? = some t := fun j t hj => by
    rw [← hp] at hj; rw [← Array.getElem?_toList]; exact hj
  have hok := hval 0 _ v0 (hpa 0 _ rfl) rfl
  unfold Value.okWide at hok
  rw [Try.underlying28] at hok
  obtain ⟨⟨cs⟩, rfl, _, hrow⟩ := hok
  obtain ⟨fu, t0⟩ := trod_agg h0
  have lt : ∀ {t v d p}, DataW.Trod enc Try.prog W 0 (fun _ => true) true t v d p → ∀ y ∈ p, y.block < W.heap.size := fun h => by obtain ⟨m, hm⟩ := h; exact DataW.trod_lt m _ _ _ hm
  refine (who_calls t0 hrow).mono fun e W' ⟨he, bel⟩ => ?_
  subst he
  exact ⟨_, rfl, _, _, _, [], _, [], hW', trodAll_mk1 (shut_bool Try.underlying4 _), trodAll_mk1 (Below.trod laidOut (by kernel_rfl) (of_decide_eq_true (by kernel_rfl)) h0 bel (lt h0)), rfl, bel.frame _, fun h => by cases h⟩

/-- THE STATEMENT -/
theorem who_holds : Rows.WalWholeSaid :=
  OpenClaim.holds_of_wide 4 Try.f4 rfl rfl rfl rfl rfl rfl rfl ⟨rfl, rfl, rfl, rfl, rfl⟩ rfl rfl rfl rfl rfl (by kernel_rfl) Try.func4 (by kernel_rfl)
    (of_decide_eq_true (by kernel_rfl)) (by unfold Func.isWrapper; first | (rw [if_pos (by decide +kernel)]; kernel_rfl) | (rw [if_neg (by decide +kernel)]; exact ⟨rfl, rfl⟩))
    (fun os started H enc _ => who_lifted os started H enc)
#print axioms who_holds
end Go.Proofs.Ytkmalbaollffiaa
