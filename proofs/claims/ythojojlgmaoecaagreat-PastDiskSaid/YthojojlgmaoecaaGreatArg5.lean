/- The arguments of chapter 05's laws, lent. -/
import Derived.Test.YthojojlgmaoecaaGreatSam5
import Derived.Test.YthojojlgmaoecaaGreatRws
import Derived.Test.YthojojlgmaoecaaGreatRows
import Derived.ProofKit
import Derived.Carry
import Derived.OpenShut
import Derived.ShutString
import Derived.ChangeOld
set_option linter.all false
set_option maxRecDepth 100000
namespace Go.Proofs.YthojojlgmaoecaaGreat
open Go.ChangeShapes Go.WideShapes Go.ChangeAt Go.RowKit Go.Am
theorem laidOut : laidOutB Tryz.prog = true := by kernel_rfl
theorem own5 : ownKnob Tryz.prog.godebug = none := by kernel_rfl
theorem scene_fields : ∃ f0 f1 f2 f3 f4 : Field, Tryz.prog.underlying 28 = some (.struct #[f0, f1, f2, f3, f4]) ∧ (f0.offset = 0 ∧ Tryz.prog.cellsOf f0.type = 2 ∧ f0.type = 24) ∧ (f1.offset = 2 ∧ Tryz.prog.cellsOf f1.type = 1 ∧ f1.type = 25) ∧ (f2.offset = 3 ∧ Tryz.prog.cellsOf f2.type = 1 ∧ f2.type = 3) ∧
    (f3.offset = 4 ∧ Tryz.prog.cellsOf f3.type = 1 ∧ f3.type = 26) ∧ (f4.offset = 5 ∧ Tryz.prog.cellsOf f4.type = 1 ∧ f4.type = 3) :=
  ⟨_, _, _, _, _, Tryz.underlying28, ⟨rfl, by kernel_rfl, rfl⟩, ⟨rfl, by kernel_rfl, rfl⟩, ⟨rfl, by kernel_rfl, rfl⟩, ⟨rfl, by kernel_rfl, rfl⟩, ⟨rfl, by kernel_rfl, rfl⟩⟩
theorem im_fields : ∃ f0 f1 : Field, Tryz.prog.underlying 24 = some (.struct #[f0, f1]) ∧ (f0.offset = 0 ∧ Tryz.prog.cellsOf f0.type = 1 ∧ f0.type = 3) ∧ (f1.offset = 1 ∧ Tryz.prog.cellsOf f1.type = 1 ∧ f1.type = 22) :=
  ⟨_, _, Tryz.underlying24, ⟨rfl, by kernel_rfl, rfl⟩, ⟨rfl, by kernel_rfl, rfl⟩⟩
theorem held_fields : ∃ f0 f1 : Field, Tryz.prog.underlying 58 = some (.struct #[f0, f1]) ∧ (f0.offset = 0 ∧ Tryz.prog.cellsOf f0.type = 1 ∧ f0.type = 3) ∧ (f1.offset = 1 ∧ Tryz.prog.cellsOf f1.type = 1024 ∧ f1.type = 37) :=
  ⟨_, _, Tryz.underlying58, ⟨rfl, by kernel_rfl, rfl⟩, ⟨rfl, by kernel_rfl, rfl⟩⟩
theorem op_fields : ∃ f0 f1 f2 : Field, Tryz.prog.underlying 39 = some (.struct #[f0, f1, f2]) ∧ (f0.offset = 0 ∧ Tryz.prog.cellsOf f0.type = 1 ∧ f0.type = 35) ∧ (f1.offset = 1 ∧ Tryz.prog.cellsOf f1.type = 1 ∧ f1.type = 3) ∧ (f2.offset = 2 ∧ Tryz.prog.cellsOf f2.type = 1024 ∧ f2.type = 37) :=
  ⟨_, _, _, Tryz.underlying39, ⟨rfl, by kernel_rfl, rfl⟩, ⟨rfl, by kernel_rfl, rfl⟩, ⟨rfl, by kernel_rfl, rfl⟩⟩
theorem cells_cons {M : Places} {a b : Value} {xs ys : List Value} (h : VR M true a b) (k : Cells M xs ys) : Cells M (a :: xs) (b :: ys) := by
  refine ⟨by simp [k.1], fun i v v' hv hv' => ?_⟩
  cases i with
  | zero => simp at hv hv'; subst hv hv'; exact h
  | succ i => exact k.2 i v v' (by simpa using hv) (by simpa using hv')
theorem six5 {cs : List Value} (h : cs.length = 6) : ∃ c0 c1 c2 c3 c4 c5, cs = [c0, c1, c2, c3, c4, c5] := by
  match cs, h with
  | [c0, c1, c2, c3, c4, c5], _ => exact ⟨c0, c1, c2, c3, c4, c5, rfl⟩
section
variable {H : Type} {enc : TypeId × Value → H} {w : World} {held : Bool} {r : Reach} {b0 : Nat} {v : Value} {d : DataW H} {ps : List MemPlace} {σ : Store} {M : Places}
theorem ok_cap {P : Program} {t e : TypeId} {a : Addr} {len cap : Nat} (ht : P.underlying t = some (.slice e)) (h : Cell.okWide P w r b0 t (.slice (some a) len cap)) : len ≤ cap := by
  have h : Cell.ok P w r b0 t (.slice (some a) len cap) := by
    unfold Cell.okWide at h
    rw [ht] at h
    simpa using h
  unfold Cell.ok at h
  rw [ht] at h
  exact h.1
theorem cap_lit {i len cap : Nat} {g : Option Nat} (h : len ≤ cap) : CapOk (.slice (some ⟨i, 0, g⟩) len cap) := fun p n k e => by cases e; exact h
/-- A slice of rows of scalars, as it stands in a cell of the arguments. -/
theorem lend_rows {β : Type} {row : β → List Value} {ok : β → Prop} {t e : TypeId} {sz fuel : Nat} {x : DataW H × List MemPlace} (ht : Tryz.prog.underlying t = some (.slice e)) (hce : Tryz.prog.cellsOf e = sz) (hsz : 0 < sz)
    (hE : ∀ fuel cs x, DataW.trod enc Tryz.prog w 0 (fun _ => true) held fuel e cs = some x → ∃ y, ok y ∧ cs = row y) (hrl : ∀ y, ok y → (row y).length = sz) (hsc : ∀ y, (row y).all scalar = true)
    (hr : Rel M σ w) (ha : AllLent σ) (hv : Cell.okWide Tryz.prog w r b0 t v) (h : DataW.trod enc Tryz.prog w 0 (fun _ => true) held fuel t [v] = some x) :
    ∃ (σ' : Store) (M' : Places) (u : Value) (L : List β), Rel M' σ' w ∧ AllLent σ' ∧ Keeps σ σ' ∧ M.le M' ∧ VR M' true u v ∧ L.length ≤ maxLen ∧ (∀ y ∈ L, ok y) ∧ SlR σ' sz u L.length (L.flatMap row) ∧ CapOk u := by
  rcases top_slice ht hv with rfl | ⟨b, o, len, cap, rfl, hb⟩
  · exact ⟨σ, M, .slice none 0 0, [], hr, ha, Keeps.refl _, M.le_refl, .scalar _ rfl, Nat.zero_le _, fun p hp => (by cases hp), SlR.nil, fun p n k e => by cases e; exact Nat.le_refl _⟩
  · have hcap := ok_cap ht hv
    obtain ⟨hml, hx⟩ : len ≤ maxLen ∧ ∀ i, i < len → ∃ cs fuel x, w.cells? 0 ⟨b, o + i * Tryz.prog.cellsOf e, none⟩ (Tryz.prog.cellsOf e) = some cs ∧ DataW.trod enc Tryz.prog w 0 (fun _ => true) held fuel e cs = some x := by
      rcases in_slice ht (by rw [hce]; exact hsz) h with h | ⟨a, h⟩ | ⟨b', o', len', cap', h, q1, _, q2⟩
      · cases h
      · cases h; exact ⟨Nat.zero_le _, fun i hi => absurd hi (Nat.not_lt_zero _)⟩
      · cases h; exact ⟨q1, q2⟩
    have key : ∀ i, i < len → ∃ y : β, ok y ∧ w.cells? 0 ⟨b, o + i * sz, none⟩ sz = some (row y) := fun i hi => by
      obtain ⟨cs, fu, y, hcs, htr⟩ := hx i hi
      rw [hce] at hcs
      obtain ⟨z, h1, rfl⟩ := hE _ _ _ htr
      exact ⟨z, h1, hcs⟩
    by_cases hl0 : len = 0
    · subst hl0
      have hr' := hr.lend (c := []) (b := b) (o := o) (fun j x hj => by simp at hj) hb fun i x l' hi hx => by rw [ha i x hi] at hx; cases hx
      exact ⟨_, _, .slice (some ⟨σ.next, 0, none⟩) 0 cap, [], hr', ha.push _, keeps_lent _ _, Places.le_upd _ (hr.dom _ (Nat.le_refl _)), .slice σ.next 0 0 cap ⟨b, o, none⟩ (Places.upd_same _ _ _), Nat.zero_le _, fun p hp => (by cases hp), ⟨by simp, .inr ⟨σ.next, 0, none, cap, .lent [], [], rfl, .inl rfl, Store.get_push_same _ _, rfl, by simp⟩⟩, cap_lit hcap⟩
    obtain ⟨z0, _⟩ := key 0 (by omega)
    haveI : Inhabited β := ⟨z0⟩
    obtain ⟨f, hf⟩ := Go.Deep.choose_lt key
    obtain ⟨L, hL⟩ : ∃ L, L = (List.range len).map f := ⟨_, rfl⟩
    have hLl : L.length = len := by rw [hL]; simp
    have el : L.flatMap row = rowsL (fun i => row (f i)) len := by rw [hL]; unfold rowsL; rw [List.flatMap_map]
    have hrl' : ∀ i, i < len → (row (f i)).length = sz := fun i hi => hrl _ (hf i hi).1
    have l1 : (L.flatMap row).length = len * sz := by rw [el]; exact rowsL_len len hrl'
    have hcell : ∀ (j : Nat) u, (L.flatMap row)[j]? = some u → ∃ v, w.cell? ⟨b, o + j, none⟩ = some v ∧ VR (M.upd σ.next ⟨b, o, none⟩) true u v := fun j u hu => by
      have hjl : j < len * sz := by have := (List.getElem?_eq_some_iff.1 hu).1; omega
      rw [el, rowsL_get len hrl' j hjl] at hu
      have hd : j / sz < len := Nat.div_lt_of_lt_mul (by rw [Nat.mul_comm]; exact hjl)
      have := cells_get (hf _ hd).2 hu
      rw [Nat.add_assoc, Nat.mul_comm, Nat.div_add_mod] at this
      exact ⟨u, this, .scalar _ (List.all_eq_true.1 (hsc _) _ (List.mem_of_getElem? hu))⟩
    have hr' := hr.lend (c := L.flatMap row) (b := b) (o := o) (fun j u hu => by
      have hjl : j < len * sz := by have := (List.getElem?_eq_some_iff.1 hu).1; omega
      rw [el, rowsL_get len hrl' j hjl] at hu
      have hd : j / sz < len := Nat.div_lt_of_lt_mul (by rw [Nat.mul_comm]; exact hjl)
      have := cells_get (hf _ hd).2 hu
      rw [Nat.add_assoc, Nat.mul_comm, Nat.div_add_mod] at this
      exact ⟨u, this, .scalar _ (List.all_eq_true.1 (hsc _) _ (List.mem_of_getElem? hu))⟩) hb fun i x l' hi hx => by rw [ha i x hi] at hx; cases hx
    refine ⟨_, _, .slice (some ⟨σ.next, 0, none⟩) len cap, L, hr', ha.push _, keeps_lent _ _, Places.le_upd _ (hr.dom _ (Nat.le_refl _)), .slice σ.next 0 len cap ⟨b, o, none⟩ (Places.upd_same _ _ _), by rw [hLl]; exact hml, fun y hy => ?_, ?_, cap_lit hcap⟩
    · rw [hL] at hy
      obtain ⟨i, hi, rfl⟩ := List.mem_map.1 hy
      exact (hf i (by simpa using hi)).1
    · rw [hLl]
      exact ⟨l1, .inr ⟨σ.next, 0, none, cap, .lent (L.flatMap row), L.flatMap row, rfl, .inl rfl, Store.get_push_same _ _, rfl, by rw [List.drop_zero, ← l1, List.take_length]⟩⟩
theorem row_held {fuel : Nat} {cs : List Value} {x : DataW H × List MemPlace} (h : DataW.trod enc Tryz.prog w 0 (fun _ => true) held fuel 58 cs = some x) : ∃ p : HB, p.2.length = 1024 ∧ cs = .int .i64 p.1 :: bc p.2 := by
  obtain ⟨k0, k1, hkt, kh0, kh1⟩ := held_fields
  have hce : Tryz.prog.cellsOf 58 = 1025 := by kernel_rfl
  obtain ⟨xs, m, rfl, rfl, hl, hxl, hf⟩ := DataW.trod_struct hkt h
  rw [hce] at hl
  have hx2 : xs.length = 2 := by simpa using hxl
  have t1 := hf 0 k0 rfl
  have t2 := hf 1 k1 rfl
  rw [kh0.1, kh0.2.1, kh0.2.2, List.getElem?_eq_getElem (by omega)] at t1
  rw [kh1.1, kh1.2.1, kh1.2.2, List.getElem?_eq_getElem (by omega)] at t2
  cases cs with
  | nil => simp at hl
  | cons c0 cs =>
    simp only [List.drop_zero, List.drop_succ_cons, List.take_succ_cons, List.take_zero] at t1 t2
    obtain ⟨x, e0, _, _⟩ := DataW.trod_int Tryz.underlying3 t1
    have e0 : c0 = .int .i64 x := by simpa using e0
    obtain ⟨bb, e1, e2, _⟩ := rd_bytes Tryz.underlying37 Tryz.underlying5 (by kernel_rfl) (by kernel_rfl) t2
    rw [List.take_of_length_le (by simp at hl; omega)] at e1
    exact ⟨(x, bb), e2, by rw [e0, e1]⟩
theorem row_op {fuel : Nat} {cs : List Value} {x : DataW H × List MemPlace} (h : DataW.trod enc Tryz.prog w 0 (fun _ => true) held fuel 39 cs = some x) : ∃ p : OP, p.2.2.length = 1024 ∧ cs = opC p := by
  obtain ⟨k0, k1, k2, hkt, kh0, kh1, kh2⟩ := op_fields
  have hce : Tryz.prog.cellsOf 39 = 1026 := by kernel_rfl
  obtain ⟨xs, m, rfl, rfl, hl, hxl, hf⟩ := DataW.trod_struct hkt h
  rw [hce] at hl
  have hx2 : xs.length = 3 := by simpa using hxl
  have t0 := hf 0 k0 rfl
  have t1 := hf 1 k1 rfl
  have t2 := hf 2 k2 rfl
  rw [kh0.1, kh0.2.1, kh0.2.2, List.getElem?_eq_getElem (by omega)] at t0
  rw [kh1.1, kh1.2.1, kh1.2.2, List.getElem?_eq_getElem (by omega)] at t1
  rw [kh2.1, kh2.2.1, kh2.2.2, List.getElem?_eq_getElem (by omega)] at t2
  match cs, hl with
  | c0 :: c1 :: cs, hl =>
    simp only [List.drop_zero, List.drop_succ_cons, List.take_succ_cons, List.take_zero] at t0 t1 t2
    obtain ⟨y, e0, _, _⟩ := DataW.trod_int Tryz.underlying35 t0
    have e0 : c0 = .int .u8 y := by simpa using e0
    obtain ⟨x, e1, _, _⟩ := DataW.trod_int Tryz.underlying3 t1
    have e1 : c1 = .int .i64 x := by simpa using e1
    obtain ⟨bb, e2, e3, _⟩ := rd_bytes Tryz.underlying37 Tryz.underlying5 (by kernel_rfl) (by kernel_rfl) t2
    rw [List.take_of_length_le (by simp at hl; omega)] at e2
    exact ⟨(y, x, bb), e3, by rw [e0, e1, e2]; rfl⟩
theorem row_bool {fuel : Nat} {cs : List Value} {x : DataW H × List MemPlace} (h : DataW.trod enc Tryz.prog w 0 (fun _ => true) held fuel 4 cs = some x) : ∃ k : Bool, True ∧ cs = [.bool k] := by
  obtain ⟨n, rfl, _⟩ := DataW.trod_bool Tryz.underlying4 h
  exact ⟨n, trivial, rfl⟩
theorem wait_flat (L : List HB) : L.flatMap (fun p => Value.int .i64 p.1 :: bc p.2) = waitC L := by
  induction L with
  | nil => rfl
  | cons p L ih => obtain ⟨x, b⟩ := p; rw [List.flatMap_cons, ih]; simp [waitC]
theorem hist_flat (O : List OP) : O.flatMap opC = histC O := by
  induction O with
  | nil => rfl
  | cons p L ih => rw [List.flatMap_cons, ih, histC_cons]
theorem bool_flat (ks : List Bool) : ks.flatMap (fun k => [Value.bool k]) = bC ks := by
  induction ks with
  | nil => rfl
  | cons k ks ih => rw [List.flatMap_cons, ih]; rfl
theorem op_sc (p : OP) : (opC p).all scalar = true := by
  unfold opC
  rw [List.all_cons, List.all_cons, bc_scalar]; rfl
theorem lend_helds {fuel : Nat} {x : DataW H × List MemPlace} (hr : Rel M σ w) (ha : AllLent σ) (hv : Cell.okWide Tryz.prog w r b0 22 v) (h : DataW.trod enc Tryz.prog w 0 (fun _ => true) held fuel 22 [v] = some x) :
    ∃ (σ' : Store) (M' : Places) (u : Value) (L : List HB), Rel M' σ' w ∧ AllLent σ' ∧ Keeps σ σ' ∧ M.le M' ∧ VR M' true u v ∧ L.length ≤ maxLen ∧ (∀ p ∈ L, p.2.length = 1024) ∧ SlR σ' 1025 u L.length (waitC L) := by
  obtain ⟨σ', M', u, L, a1, a2, a3, a4, a5, a6, a7, a8, _⟩ := lend_rows (row := fun p : HB => .int .i64 p.1 :: bc p.2) (ok := fun p => p.2.length = 1024) (sz := 1025) Tryz.underlying22 (by kernel_rfl) (by decide) (fun _ _ _ h => row_held h) (fun y hy => by simp [hy]) (fun y => by rw [List.all_cons, bc_scalar]; rfl) hr ha hv h
  exact ⟨σ', M', u, L, a1, a2, a3, a4, a5, a6, a7, by rw [← wait_flat]; exact a8⟩
theorem lend_ops {fuel : Nat} {x : DataW H × List MemPlace} (hr : Rel M σ w) (ha : AllLent σ) (hv : Cell.okWide Tryz.prog w r b0 25 v) (h : DataW.trod enc Tryz.prog w 0 (fun _ => true) held fuel 25 [v] = some x) :
    ∃ (σ' : Store) (M' : Places) (u : Value) (O : List OP), Rel M' σ' w ∧ AllLent σ' ∧ Keeps σ σ' ∧ M.le M' ∧ VR M' true u v ∧ O.length ≤ maxLen ∧ (∀ p ∈ O, p.2.2.length = 1024) ∧ SlR σ' 1026 u O.length (histC O) ∧ CapOk u := by
  obtain ⟨σ', M', u, L, a1, a2, a3, a4, a5, a6, a7, a8, a9⟩ := lend_rows (row := opC) (ok := fun p => p.2.2.length = 1024) (sz := 1026) Tryz.underlying25 (by kernel_rfl) (by decide) (fun _ _ _ h => row_op h) (fun y hy => opC_len hy) op_sc hr ha hv h
  exact ⟨σ', M', u, L, a1, a2, a3, a4, a5, a6, a7, by rw [← hist_flat]; exact a8, a9⟩
theorem lend_keep {fuel : Nat} {x : DataW H × List MemPlace} (hr : Rel M σ w) (ha : AllLent σ) (hv : Cell.okWide Tryz.prog w r b0 26 v) (h : DataW.trod enc Tryz.prog w 0 (fun _ => true) held fuel 26 [v] = some x) :
    ∃ (σ' : Store) (M' : Places) (u : Value) (ks : List Bool), Rel M' σ' w ∧ AllLent σ' ∧ Keeps σ σ' ∧ M.le M' ∧ VR M' true u v ∧ ks.length ≤ maxLen ∧ SlR σ' 1 u ks.length (bC ks) := by
  obtain ⟨σ', M', u, L, a1, a2, a3, a4, a5, a6, a7, a8, a9⟩ := lend_rows (row := fun k : Bool => [Value.bool k]) (ok := fun _ => True) (sz := 1) Tryz.underlying26 (by kernel_rfl) (by decide) (fun _ _ _ h => row_bool h) (fun y _ => rfl) (fun y => rfl) hr ha hv h
  exact ⟨σ', M', u, L, a1, a2, a3, a4, a5, a6, by rw [← bool_flat]; exact a8⟩
theorem lend_scene (hr : Rel M σ w) (ha : AllLent σ) (hv : Value.okWide Tryz.prog w r b0 28 v) (hd : DataW.Trod enc Tryz.prog w 0 (fun _ => true) held 28 v d ps) :
    ∃ (σ' : Store) (M' : Places) (n k at' : Int) (va vo vk : Value) (L : List HB) (O : List OP) (ks : List Bool), Rel M' σ' w ∧ AllLent σ' ∧ Keeps σ σ' ∧ M.le M' ∧ VR M' false (.agg ⟨[.int .i64 n, va, vo, .int .i64 k, vk, .int .i64 at']⟩) v ∧
      (∀ p ∈ L, p.2.length = 1024) ∧ SlR σ' 1025 va L.length (waitC L) ∧ (∀ p ∈ O, p.2.2.length = 1024) ∧ SlR σ' 1026 vo O.length (histC O) ∧ CapOk vo ∧ SlR σ' 1 vk ks.length (bC ks) ∧ L.length ≤ maxLen := by
  unfold Value.okWide at hv
  rw [Tryz.underlying28] at hv
  obtain ⟨⟨cs⟩, rfl, _, hrow⟩ := hv
  obtain ⟨fu, t0⟩ := trod_agg hd
  obtain ⟨f0, f1, f2, f3, f4, ht, h0, h1, h2, h3, h4⟩ := scene_fields
  obtain ⟨xs, m, rfl, _, hl, hxl, hf⟩ := DataW.trod_struct ht t0
  have hc6 : Tryz.prog.cellsOf 28 = 6 := by kernel_rfl
  rw [hc6] at hl
  obtain ⟨c0, c1, c2, c3, c4, c5, rfl⟩ := six5 hl
  have hx5 : xs.length = 5 := by simpa using hxl
  have t1 := hf 0 f0 rfl
  have t2 := hf 1 f1 rfl
  have t3 := hf 2 f2 rfl
  have t4 := hf 3 f3 rfl
  have t5 := hf 4 f4 rfl
  rw [h0.1, h0.2.1, h0.2.2, List.getElem?_eq_getElem (by omega)] at t1
  rw [h1.1, h1.2.1, h1.2.2, List.getElem?_eq_getElem (by omega)] at t2
  rw [h2.1, h2.2.1, h2.2.2, List.getElem?_eq_getElem (by omega)] at t3
  rw [h3.1, h3.2.1, h3.2.2, List.getElem?_eq_getElem (by omega)] at t4
  rw [h4.1, h4.2.1, h4.2.2, List.getElem?_eq_getElem (by omega)] at t5
  simp only [List.drop_zero, List.drop_succ_cons, List.take_succ_cons, List.take_zero] at t1 t2 t3 t4 t5
  obtain ⟨k, e3, _, _⟩ := DataW.trod_int Tryz.underlying3 t3
  have e3 : c3 = .int .i64 k := by simpa using e3
  obtain ⟨at', e5, _, _⟩ := DataW.trod_int Tryz.underlying3 t5
  have e5 : c5 = .int .i64 at' := by simpa using e5
  obtain ⟨g0, g1, gt, hg0, hg1⟩ := im_fields
  obtain ⟨xs2, m2, eq2, _, hl2, hxl2, hf2⟩ := DataW.trod_struct gt t1
  have hx2 : xs2.length = 2 := by simpa using hxl2
  have t6 := hf2 0 g0 rfl
  have t7 := hf2 1 g1 rfl
  rw [hg0.1, hg0.2.1, hg0.2.2, List.getElem?_eq_getElem (by omega)] at t6
  rw [hg1.1, hg1.2.1, hg1.2.2, List.getElem?_eq_getElem (by omega)] at t7
  simp only [List.drop_zero, List.drop_succ_cons, List.take_succ_cons, List.take_zero] at t6 t7
  obtain ⟨n, e0, _, _⟩ := DataW.trod_int Tryz.underlying3 t6
  have e0 : c0 = .int .i64 n := by simpa using e0
  subst e0 e3 e5
  obtain ⟨ts, hts, _, hcell⟩ := hrow
  have hts' : Tryz.prog.cellTypes Tryz.prog.depth 28 = some [3, 22, 25, 3, 26, 3] := by kernel_rfl
  rw [hts] at hts'
  cases hts'
  have o1 : Cell.okWide Tryz.prog w r b0 22 c1 := by obtain ⟨u, hu, h⟩ := hcell 1 c1 rfl; cases hu; exact h
  have o2 : Cell.okWide Tryz.prog w r b0 25 c2 := by obtain ⟨u, hu, h⟩ := hcell 2 c2 rfl; cases hu; exact h
  have o4 : Cell.okWide Tryz.prog w r b0 26 c4 := by obtain ⟨u, hu, h⟩ := hcell 4 c4 rfl; cases hu; exact h
  obtain ⟨σ1, M1, va, L, a1, a2, a3, a4, a5, a8, a6, a7⟩ := lend_helds hr ha o1 t7
  obtain ⟨σ2, M2, vo, O, b1, b2, b3, b4, b5, _, b6, b7, b8⟩ := lend_ops a1 a2 o2 t2
  obtain ⟨σ3, M3, vk, ks, d1, d2, d3, d4, d5, _, d6⟩ := lend_keep b1 b2 o4 t4
  have k13 := b3.trans d3
  have m13 := Places.le_trans b4 d4
  refine ⟨σ3, M3, n, k, at', va, vo, vk, L, O, ks, d1, d2, a3.trans k13, Places.le_trans a4 m13, ?_, a6, a7.keeps fun i o h => k13.get h, b6, b7.keeps fun i o h => d3.get h, b8, d6, a8⟩
  exact (cells_cons (.scalar _ rfl) (cells_cons (a5.mono m13) (cells_cons (b5.mono d4) (cells_cons (.scalar _ rfl) (cells_cons d5 (cells_cons (.scalar _ rfl) Cells.nil)))))).vagg
end
end Go.Proofs.YthojojlgmaoecaaGreat
