/- The arguments of chapter 04's laws, lent. -/
import Derived.Test.YtelnpbgkgcollaaNd
import Derived.Test.YtelnpbgkgcollaaRows
import Derived.Test.YtelnpbgkgcollaaRws
import Derived.Test.YtelnpbgkgcollaaAm34
import Derived.ProofKit
import Derived.Carry
import Derived.OpenShut
import Derived.ShutString
import Derived.ChangeOld
set_option linter.all false
set_option maxRecDepth 100000
namespace Go.Proofs.Ytelnpbgkgcollaa
open Go.ChangeShapes Go.WideShapes Go.ChangeAt Go.RowKit Go.Am
theorem laidOut : laidOutB Try.prog = true := by kernel_rfl
theorem own4 : ownKnob Try.prog.godebug = none := by kernel_rfl
section
variable {H : Type} {enc : TypeId × Value → H} {w : World} {held : Bool} {r : Reach} {b0 : Nat} {v : Value} {d : DataW H} {ps : List MemPlace} {σ : Store} {M : Places}
theorem top_in {P : Program} {t e : TypeId} (ht : P.underlying t = some (.slice e)) (hce : 0 < P.cellsOf e) (hv : Value.okWide P w r b0 t v) (hd : DataW.Trod enc P w 0 (fun _ => true) held t v d ps) :
    v = .slice none 0 0 ∨ ∃ b o len cap, v = .slice (some ⟨b, o, none⟩) len cap ∧ len ≤ maxLen ∧ b < w.heap.size ∧ ∀ i, i < len → ∃ cs fuel x, w.cells? 0 ⟨b, o + i * P.cellsOf e, none⟩ (P.cellsOf e) = some cs ∧ DataW.trod enc P w 0 (fun _ => true) held fuel e cs = some x := by
  obtain ⟨fuel, h⟩ := hd
  have hv' : Cell.okWide P w r b0 t v := by
    unfold Value.okWide at hv
    rw [ht] at hv
    exact hv
  rcases top_slice ht hv' with rfl | ⟨b, o, len, cap, rfl, hb⟩
  · exact .inl rfl
  · rcases in_slice ht hce h with h1 | ⟨a, h1⟩ | ⟨b', o', len', cap', h1, h2, h3, h4⟩
    · cases h1
    · cases h1; exact .inr ⟨b, o, 0, 0, rfl, Nat.zero_le _, hb, fun i hi => absurd hi (Nat.not_lt_zero _)⟩
    · cases h1; exact .inr ⟨b, o, len, cap, rfl, h2, hb, h4⟩
theorem act_fields : ∃ f0 f1 f2 f3 f4 f5 : Field, Try.prog.underlying 75 = some (.struct #[f0, f1, f2, f3, f4, f5]) ∧ (f0.offset = 0 ∧ Try.prog.cellsOf f0.type = 1 ∧ f0.type = 3) ∧ (f1.offset = 1 ∧ Try.prog.cellsOf f1.type = 1 ∧ f1.type = 3) ∧
    (f2.offset = 2 ∧ Try.prog.cellsOf f2.type = 1 ∧ f2.type = 3) ∧ (f3.offset = 3 ∧ Try.prog.cellsOf f3.type = 1 ∧ f3.type = 41) ∧ (f4.offset = 4 ∧ Try.prog.cellsOf f4.type = 1 ∧ f4.type = 3) ∧ (f5.offset = 5 ∧ Try.prog.cellsOf f5.type = 1 ∧ f5.type = 54) :=
  ⟨_, _, _, _, _, _, Try.underlying75, ⟨rfl, by kernel_rfl, rfl⟩, ⟨rfl, by kernel_rfl, rfl⟩, ⟨rfl, by kernel_rfl, rfl⟩, ⟨rfl, by kernel_rfl, rfl⟩, ⟨rfl, by kernel_rfl, rfl⟩, ⟨rfl, by kernel_rfl, rfl⟩⟩
theorem put_fields : ∃ f0 f1 : Field, Try.prog.underlying 60 = some (.struct #[f0, f1]) ∧ (f0.offset = 0 ∧ Try.prog.cellsOf f0.type = 1 ∧ f0.type = 3) ∧ (f1.offset = 1 ∧ Try.prog.cellsOf f1.type = 1 ∧ f1.type = 41) :=
  ⟨_, _, Try.underlying60, ⟨rfl, by kernel_rfl, rfl⟩, ⟨rfl, by kernel_rfl, rfl⟩⟩
theorem six {cs : List Value} (h : cs.length = 6) : ∃ c0 c1 c2 c3 c4 c5, cs = [c0, c1, c2, c3, c4, c5] := by
  match cs, h with
  | [c0, c1, c2, c3, c4, c5], _ => exact ⟨c0, c1, c2, c3, c4, c5, rfl⟩
theorem two2 {cs : List Value} (h : cs.length = 2) : ∃ c0 c1, cs = [c0, c1] := by
  match cs, h with
  | [c0, c1], _ => exact ⟨c0, c1, rfl⟩
/-- A row of acts. -/
theorem lend_acts (hr : Rel M σ w) (ha : AllLent σ) (hv : Value.okWide Try.prog w r b0 69 v) (hd : DataW.Trod enc Try.prog w 0 (fun _ => true) held 69 v d ps) :
    ∃ (σ' : Store) (M' : Places) (u : Value) (n : Nat) (us : List Value), Rel M' σ' w ∧ AllLent σ' ∧ Keeps σ σ' ∧ M.le M' ∧ VR M' true u v ∧ n ≤ maxLen ∧ SlR σ' 6 u n us ∧ ∀ i, i < n → ∃ on kd at_ nn pv kv p, (us.drop (i * 6)).take 6 = actC on kd at_ pv nn kv ∧ ElV σ' pv (bc p) := by
  have hce : Try.prog.cellsOf 75 = 6 := by kernel_rfl
  obtain ⟨f0, f1, f2, f3, f4, f5, ht, h0, h1, h2, h3, h4, h5⟩ := act_fields
  rcases top_in Try.underlying69 (by rw [hce]; decide) hv hd with rfl | ⟨b, o, len, cap, rfl, hml, hb, hx⟩
  · exact ⟨σ, M, .slice none 0 0, 0, [], hr, ha, Keeps.refl _, M.le_refl, .scalar _ rfl, Nat.zero_le _, SlR.nil, fun i hi => absurd hi (Nat.not_lt_zero _)⟩
  · have key : ∀ i, i < len → ∃ vd : List Value × List Dsc, (∃ (on kd at_ nn : Int) (pv kv : Value) (p : List Int) (ks : List Value), vd = ([.int .i64 on, .int .i64 kd, .int .i64 at_, pv, .int .i64 nn, kv], [.sc, .sc, .sc, .sl (bc p).length (bc p), .sc, .sl ks.length ks]) ∧ InC w pv (.sl (bc p).length (bc p)) ∧ InC w kv (.sl ks.length ks)) ∧
        ∀ (j : Nat) v, vd.1[j]? = some v → w.cell? ⟨b, o + (i * 6 + j), none⟩ = some v := fun i hi => by
      obtain ⟨cs, fu, y, hcs, htr⟩ := hx i hi
      rw [hce] at hcs
      obtain ⟨xs, m, rfl, rfl, hl, hxl, hf⟩ := DataW.trod_struct ht htr
      rw [hce] at hl
      have hx6 : xs.length = 6 := by simpa using hxl
      obtain ⟨c0, c1, c2, c3, c4, c5, rfl⟩ := six hl
      have t0 := hf 0 f0 rfl
      have t1 := hf 1 f1 rfl
      have t2 := hf 2 f2 rfl
      have t3 := hf 3 f3 rfl
      have t4 := hf 4 f4 rfl
      have t5 := hf 5 f5 rfl
      rw [h0.1, h0.2.1, h0.2.2, List.getElem?_eq_getElem (by omega)] at t0
      rw [h1.1, h1.2.1, h1.2.2, List.getElem?_eq_getElem (by omega)] at t1
      rw [h2.1, h2.2.1, h2.2.2, List.getElem?_eq_getElem (by omega)] at t2
      rw [h3.1, h3.2.1, h3.2.2, List.getElem?_eq_getElem (by omega)] at t3
      rw [h4.1, h4.2.1, h4.2.2, List.getElem?_eq_getElem (by omega)] at t4
      rw [h5.1, h5.2.1, h5.2.2, List.getElem?_eq_getElem (by omega)] at t5
      simp only [List.drop_zero, List.drop_succ_cons, List.take_succ_cons, List.take_zero] at t0 t1 t2 t3 t4 t5
      obtain ⟨n0, e0, _, _⟩ := DataW.trod_int Try.underlying3 t0
      obtain ⟨n1, e1, _, _⟩ := DataW.trod_int Try.underlying3 t1
      obtain ⟨n2, e2, _, _⟩ := DataW.trod_int Try.underlying3 t2
      obtain ⟨n4, e4, _, _⟩ := DataW.trod_int Try.underlying3 t4
      have e0 : c0 = .int .i64 n0 := by simpa using e0
      have e1 : c1 = .int .i64 n1 := by simpa using e1
      have e2 : c2 = .int .i64 n2 := by simpa using e2
      have e4 : c4 = .int .i64 n4 := by simpa using e4
      obtain ⟨p, _, _, ip⟩ := in_bytes Try.underlying41 Try.underlying5 (by kernel_rfl) t3
      obtain ⟨ks, _, ik⟩ := in_bools Try.underlying54 Try.underlying4 (by kernel_rfl) t5
      subst e0 e1 e2 e4
      exact ⟨_, ⟨n0, n1, n2, n4, c3, c5, p, ks.map Value.bool, rfl, ip, ik⟩, fun j v hj => by rw [← Nat.add_assoc]; exact cells_get hcs hj⟩
    obtain ⟨f, hf⟩ := Go.Deep.choose_lt key
    obtain ⟨σ', M', us, u, r1, a1, k1, m1, v1, s1, o1⟩ := lend_structs (k := 6) (len := len) (cap := cap) (b := b) (o := o) (fv := fun i => (f i).1) (fd := fun i => (f i).2) hr ha hb
      (fun i hi => by obtain ⟨⟨on, kd, at_, nn, pv, kv, p, ks, e, ip, ik⟩, _⟩ := hf i hi; show (f i).1.length = 6; rw [e]; rfl) (fun i hi => by obtain ⟨⟨on, kd, at_, nn, pv, kv, p, ks, e, ip, ik⟩, _⟩ := hf i hi; show (f i).2.length = 6; rw [e]; rfl)
      (fun i j v hi hj => (hf i hi).2 j v hj) (fun i j v d hi hj hd => by
        obtain ⟨⟨on, kd, at_, nn, pv, kv, p, ks, e, ip, ik⟩, _⟩ := hf i hi
        have hj : (f i).1[j]? = some v := hj
        have hd : (f i).2[j]? = some d := hd
        rw [e] at hj hd
        match j with
        | 0 => cases hj; cases hd; exact rfl
        | 1 => cases hj; cases hd; exact rfl
        | 2 => cases hj; cases hd; exact rfl
        | 3 => cases hj; cases hd; exact ip
        | 4 => cases hj; cases hd; exact rfl
        | 5 => cases hj; cases hd; exact ik
        | j + 6 => cases hj)
    refine ⟨σ', M', u, len, us, r1, a1, k1, m1, v1, hml, s1, fun i hi => ?_⟩
    obtain ⟨⟨on, kd, at_, nn, pv, kv, p, ks, e, ip, ik⟩, _⟩ := hf i hi
    have e1 : (f i).1 = [.int .i64 on, .int .i64 kd, .int .i64 at_, pv, .int .i64 nn, kv] := by rw [e]
    have e2 : (f i).2 = [Dsc.sc, .sc, .sc, .sl (bc p).length (bc p), .sc, .sl ks.length ks] := by rw [e]
    obtain ⟨x0, q0, w0⟩ := o1 i 0 _ _ hi (by show (f i).1[_]? = _; rw [e1]; rfl) (by show (f i).2[_]? = _; rw [e2]; rfl)
    obtain ⟨x1, q1, w1⟩ := o1 i 1 _ _ hi (by show (f i).1[_]? = _; rw [e1]; rfl) (by show (f i).2[_]? = _; rw [e2]; rfl)
    obtain ⟨x2, q2, w2⟩ := o1 i 2 _ _ hi (by show (f i).1[_]? = _; rw [e1]; rfl) (by show (f i).2[_]? = _; rw [e2]; rfl)
    obtain ⟨x3, q3, w3⟩ := o1 i 3 _ _ hi (by show (f i).1[_]? = _; rw [e1]; rfl) (by show (f i).2[_]? = _; rw [e2]; rfl)
    obtain ⟨x4, q4, w4⟩ := o1 i 4 _ _ hi (by show (f i).1[_]? = _; rw [e1]; rfl) (by show (f i).2[_]? = _; rw [e2]; rfl)
    obtain ⟨x5, q5, w5⟩ := o1 i 5 _ _ hi (by show (f i).1[_]? = _; rw [e1]; rfl) (by show (f i).2[_]? = _; rw [e2]; rfl)
    have w0 : x0 = .int .i64 on := w0
    have w1 : x1 = .int .i64 kd := w1
    have w2 : x2 = .int .i64 at_ := w2
    have w4 : x4 = .int .i64 nn := w4
    subst w0 w1 w2 w4
    exact ⟨on, kd, at_, nn, x3, x5, p, take_six q0 q1 q2 q3 q4 q5, OutC.el w3⟩
/-- A row of puts. -/
theorem lend_puts (hr : Rel M σ w) (ha : AllLent σ) (hv : Value.okWide Try.prog w r b0 53 v) (hd : DataW.Trod enc Try.prog w 0 (fun _ => true) held 53 v d ps) :
    ∃ (σ' : Store) (M' : Places) (u : Value) (n : Nat) (us : List Value), Rel M' σ' w ∧ AllLent σ' ∧ Keeps σ σ' ∧ M.le M' ∧ VR M' true u v ∧ n ≤ maxLen ∧ SlR σ' 2 u n us ∧ ∀ i, i < n → ∃ at_ pv p, (us.drop (i * 2)).take 2 = [.int .i64 at_, pv] ∧ ElV σ' pv (bc p) ∧ (∀ y ∈ p, 0 ≤ y ∧ y < 256) ∧ p.length ≤ maxLen := by
  have hce : Try.prog.cellsOf 60 = 2 := by kernel_rfl
  obtain ⟨f0, f1, ht, h0, h1⟩ := put_fields
  rcases top_in Try.underlying53 (by rw [hce]; decide) hv hd with rfl | ⟨b, o, len, cap, rfl, hml, hb, hx⟩
  · exact ⟨σ, M, .slice none 0 0, 0, [], hr, ha, Keeps.refl _, M.le_refl, .scalar _ rfl, Nat.zero_le _, SlR.nil, fun i hi => absurd hi (Nat.not_lt_zero _)⟩
  · have key : ∀ i, i < len → ∃ vd : List Value × List Dsc, (∃ (at_ : Int) (pv : Value) (p : List Int), vd = ([.int .i64 at_, pv], [.sc, .sl (bc p).length (bc p)]) ∧ InC w pv (.sl (bc p).length (bc p)) ∧ (∀ y ∈ p, 0 ≤ y ∧ y < 256) ∧ p.length ≤ maxLen) ∧
        ∀ (j : Nat) v, vd.1[j]? = some v → w.cell? ⟨b, o + (i * 2 + j), none⟩ = some v := fun i hi => by
      obtain ⟨cs, fu, y, hcs, htr⟩ := hx i hi
      rw [hce] at hcs
      obtain ⟨xs, m, rfl, rfl, hl, hxl, hf⟩ := DataW.trod_struct ht htr
      rw [hce] at hl
      have hx6 : xs.length = 2 := by simpa using hxl
      obtain ⟨c0, c1, rfl⟩ := two2 hl
      have t0 := hf 0 f0 rfl
      have t1 := hf 1 f1 rfl
      rw [h0.1, h0.2.1, h0.2.2, List.getElem?_eq_getElem (by omega)] at t0
      rw [h1.1, h1.2.1, h1.2.2, List.getElem?_eq_getElem (by omega)] at t1
      simp only [List.drop_zero, List.drop_succ_cons, List.take_succ_cons, List.take_zero] at t0 t1
      obtain ⟨n0, e0, _, _⟩ := DataW.trod_int Try.underlying3 t0
      have e0 : c0 = .int .i64 n0 := by simpa using e0
      obtain ⟨p, pm, pb, ip⟩ := in_bytes Try.underlying41 Try.underlying5 (by kernel_rfl) t1
      subst e0
      exact ⟨_, ⟨n0, c1, p, rfl, ip, pb, pm⟩, fun j v hj => by rw [← Nat.add_assoc]; exact cells_get hcs hj⟩
    obtain ⟨f, hf⟩ := Go.Deep.choose_lt key
    obtain ⟨σ', M', us, u, r1, a1, k1, m1, v1, s1, o1⟩ := lend_structs (k := 2) (len := len) (cap := cap) (b := b) (o := o) (fv := fun i => (f i).1) (fd := fun i => (f i).2) hr ha hb
      (fun i hi => by obtain ⟨⟨at_, pv, p, e, ip⟩, _⟩ := hf i hi; show (f i).1.length = 2; rw [e]; rfl) (fun i hi => by obtain ⟨⟨at_, pv, p, e, ip⟩, _⟩ := hf i hi; show (f i).2.length = 2; rw [e]; rfl)
      (fun i j v hi hj => (hf i hi).2 j v hj) (fun i j v d hi hj hd => by
        obtain ⟨⟨at_, pv, p, e, ip, _⟩, _⟩ := hf i hi
        have hj : (f i).1[j]? = some v := hj
        have hd : (f i).2[j]? = some d := hd
        rw [e] at hj hd
        match j with
        | 0 => cases hj; cases hd; exact rfl
        | 1 => cases hj; cases hd; exact ip
        | j + 2 => cases hj)
    refine ⟨σ', M', u, len, us, r1, a1, k1, m1, v1, hml, s1, fun i hi => ?_⟩
    obtain ⟨⟨at_, pv, p, e, ip, pb, pm⟩, _⟩ := hf i hi
    have e1 : (f i).1 = [.int .i64 at_, pv] := by rw [e]
    have e2 : (f i).2 = [Dsc.sc, .sl (bc p).length (bc p)] := by rw [e]
    obtain ⟨x0, q0, w0⟩ := o1 i 0 _ _ hi (by show (f i).1[_]? = _; rw [e1]; rfl) (by show (f i).2[_]? = _; rw [e2]; rfl)
    obtain ⟨x1, q1, w1⟩ := o1 i 1 _ _ hi (by show (f i).1[_]? = _; rw [e1]; rfl) (by show (f i).2[_]? = _; rw [e2]; rfl)
    have w0 : x0 = .int .i64 at_ := w0
    subst w0
    exact ⟨at_, x1, p, take_two q0 q1, OutC.el w1, pb, pm⟩
/-- A row of bools. -/
theorem lend_bools (hr : Rel M σ w) (ha : AllLent σ) (hv : Value.okWide Try.prog w r b0 54 v) (hd : DataW.Trod enc Try.prog w 0 (fun _ => true) held 54 v d ps) :
    ∃ (σ' : Store) (M' : Places) (u : Value) (ks : List Bool), Rel M' σ' w ∧ AllLent σ' ∧ Keeps σ σ' ∧ M.le M' ∧ VR M' true u v ∧ ks.length ≤ maxLen ∧ SlR σ' 1 u ks.length (ks.map Value.bool) := by
  have hce : Try.prog.cellsOf 4 = 1 := by kernel_rfl
  rcases top_in Try.underlying54 (by rw [hce]; decide) hv hd with rfl | ⟨b, o, len, cap, rfl, hml, hb, hx⟩
  · exact ⟨σ, M, .slice none 0 0, [], hr, ha, Keeps.refl _, M.le_refl, .scalar _ rfl, Nat.zero_le _, SlR.nil⟩
  · have key : ∀ i, i < len → ∃ k : Bool, w.cell? ⟨b, o + i, none⟩ = some (.bool k) := fun i hi => by
      obtain ⟨cs, fu, y, hcs, htr⟩ := hx i hi
      rw [hce, Nat.mul_one] at hcs
      obtain ⟨n, rfl, _⟩ := DataW.trod_bool Try.underlying4 htr
      exact ⟨n, by simpa using cells_get hcs (i := 0) rfl⟩
    obtain ⟨f, hf⟩ := Go.Deep.choose_lt key
    obtain ⟨σ', M', u, j1, j2, j3, j4, j5, j6⟩ := lend_cells (cap := cap) (us := ((List.range len).map f).map Value.bool) (len := len) hr ha hb (by simp) fun j u hu => by
      have hj : j < len := by have := (List.getElem?_eq_some_iff.1 hu).1; simpa using this
      rw [List.getElem?_map, List.getElem?_map, List.getElem?_range hj] at hu
      have hu : Value.bool (f j) = u := by simpa using hu
      exact ⟨u, by rw [← hu]; exact hf j hj, by rw [← hu]; exact .scalar _ rfl⟩
    have hl : ((List.range len).map f).length = len := by simp
    exact ⟨σ', M', u, (List.range len).map f, j1, j2, j3, j4, j5, by rw [hl]; exact hml, by rw [hl]; exact j6⟩
end
end Go.Proofs.Ytelnpbgkgcollaa
