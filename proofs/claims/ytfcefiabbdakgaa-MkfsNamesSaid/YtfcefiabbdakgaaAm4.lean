/- The abstract machine, part 4: equality and composites are as the model has them. No program in sight. -/
import Derived.Test.YtfcefiabbdakgaaAm3
set_option linter.all false
namespace Go.Am
open Go.RowKit
variable {P : Program} {M : Places} {σ : Store} {w : World}

/-! ## equality -/
/-- A value of a type that shows cells. -/
def ValOf (P : Program) (M : Places) (t : TypeId) (xs : List Value) (x' : Value) : Prop :=
  (tAgg P t = some true → ∃ zs, x' = .agg zs ∧ Cells M xs zs.toList) ∧ (tAgg P t = some false → ∃ v us, xs = v :: us ∧ VR M true v x')

theorem tAgg_leaf {t : TypeId} {d : TypeDesc} (h : P.underlying t = some d) (h1 : ∀ fs, d ≠ .struct fs) (h2 : ∀ n e, d ≠ .array n e) : tAgg P t = some false := by
  unfold tAgg
  rw [h]
  cases d <;> first | rfl | (exact absurd rfl (h1 _)) | (exact absurd rfl (h2 _ _))

theorem valOf_part {t : TypeId} {n : Nat} {b : Bool} {xs : List Value} {xs' : Array Value} {off : Nat} (hb : tAgg P t = some b) (hn : tSize P t = some n) (h : Cells M xs xs'.toList)
    (hne : b = false → ∃ v us, (xs.drop off).take n = v :: us) : ∃ x', ValOf P M t ((xs.drop off).take n) x' ∧ ∀ w, (part t xs' off).run P w = .ok x' w := by
  cases b with
  | true =>
    refine ⟨.agg (xs'.extract off (off + n)), ⟨fun _ => ⟨_, rfl, ?_⟩, fun h => by rw [hb] at h; cases h⟩, fun w => by simp [part, run_tAgg hb, run_tSize hn]⟩
    have he : (xs'.extract off (off + n)).toList = (xs'.toList.drop off).take n := by simp [List.extract_eq_take_drop]
    rw [he]; exact (h.drop off).take n
  | false =>
    obtain ⟨v, us, hvu⟩ := hne rfl
    have hv : xs[off]? = some v := by
      have h0 : ((xs.drop off).take n)[0]? = some v := by rw [hvu]; rfl
      rw [List.getElem?_take] at h0
      split at h0
      · rw [List.getElem?_drop] at h0; simpa using h0
      · cases h0
    have hi : off < xs'.size := by
      have := (List.getElem?_eq_some_iff.1 hv).1
      have := h.1
      simp at this
      omega
    have he : xs'[off]? = some xs'[off] := Array.getElem?_eq_getElem hi
    refine ⟨xs'[off], ⟨(fun h => by rw [hb] at h; cases h), fun _ => ⟨v, us, hvu, h.2 off v _ hv (by simpa using he)⟩⟩, fun w => by simp [part, run_tAgg hb, he]⟩

theorem eq1_sound {t : TypeId} {d : TypeDesc} {x y x' y' : Value} {r : Bool} (ht : P.underlying t = some d) (h : eq1 d x y = some r) (hx : VR M true x x') (hy : VR M true y y') (k : Nat) (w : World) :
    (Op.equalIn (k + 1) t x' y').run P w = .ok r w := by
  unfold eq1 at h
  split at h
  · rename_i k0 k1 a k2 b
    cases hx.int_; cases hy.int_
    cases hk : k1 == k2 <;> rw [hk] at h <;> simp at h
    have hk' : k1 = k2 := by simpa using hk
    subst hk'
    rw [run_equalIn_int w k t k1 k0 a b ht, ← h]
  · cases hx.bool_; cases hy.bool_
    cases h
    exact run_equalIn_bool w k t _ _ ht
  · cases hx.string_; cases hy.string_
    cases h
    rw [run_equalIn_string w k t _ _ ht, beq_toListBytes]
  · rename_i b
    cases (VR.scalar_eq rfl hx)
    cases h
    cases b with
    | none => cases (VR.scalar_eq rfl hy); simp [Op.equalIn, run_underlying ht]
    | some b => obtain ⟨_, l, _, rfl⟩ := VR.ptr_ (i := b.block) (o := b.off) (s := b.spot) hy; simp [Op.equalIn, run_underlying ht]
  · rename_i a
    cases (VR.scalar_eq rfl hy)
    cases h
    obtain ⟨_, l, _, rfl⟩ := VR.ptr_ (i := a.block) (o := a.off) (s := a.spot) hx
    simp [Op.equalIn, run_underlying ht]
  · cases h

/-- Equality of one type, at a depth. -/
def EqSound (P : Program) (M : Places) (d : Nat) (eq : TypeId → List Value → List Value → Option Bool) : Prop :=
  ∀ t xs ys r, eq t xs ys = some r → ∀ x' y', ValOf P M t xs x' → ValOf P M t ys y' → ∀ w, (Op.equalIn d t x' y').run P w = .ok r w
/-- Where it comes to something at a leaf there is a cell. -/
def EqFull (P : Program) (eq : TypeId → List Value → List Value → Option Bool) : Prop :=
  ∀ t xs ys r, eq t xs ys = some r → tAgg P t = some false → (∃ v us, xs = v :: us) ∧ ∃ v us, ys = v :: us
def EqTyped (P : Program) (eq : TypeId → List Value → List Value → Option Bool) : Prop := ∀ t xs ys r, eq t xs ys = some r → ∃ b, tAgg P t = some b

theorem eqFs_sound {d : Nat} {eq : TypeId → List Value → List Value → Option Bool} (he : EqSound P M d eq) (hf : EqFull P eq) (hty : EqTyped P eq) {xs ys : List Value} {xs' ys' : Array Value} (hx : Cells M xs xs'.toList) (hy : Cells M ys ys'.toList) :
    ∀ (fs : List Field) (r : Bool), eqFs P eq fs xs ys = some r → ∀ w, (Op.eqFields d xs' ys' fs).run P w = .ok r w
  | [], r, h, w => by simp [eqFs] at h; subst h; simp [Op.eqFields]
  | fl :: fs, r, h, w => by
    unfold eqFs at h
    cases hn : fl.name == "_" <;> rw [hn] at h <;> simp only [cond_true, cond_false] at h
    case true => cases h
    have hn' : fl.name ≠ "_" := by simpa using hn
    cases hs : tSize P fl.type with
    | none => rw [hs] at h; cases h
    | some n =>
      rw [hs] at h
      simp only at h
      cases ha : eq fl.type ((xs.drop fl.offset).take n) ((ys.drop fl.offset).take n) with
      | none => rw [ha] at h; cases h
      | some a =>
        cases hb : eqFs P eq fs xs ys with
        | none => rw [ha, hb] at h; cases h
        | some b =>
          rw [ha, hb] at h
          simp only [Option.some.injEq] at h
          obtain ⟨ag, hag⟩ := hty _ _ _ _ ha
          obtain ⟨x', hx1, hx2⟩ := valOf_part (off := fl.offset) hag hs hx (fun e => (hf _ _ _ _ ha (e ▸ hag)).1)
          obtain ⟨y', hy1, hy2⟩ := valOf_part (off := fl.offset) hag hs hy (fun e => (hf _ _ _ _ ha (e ▸ hag)).2)
          have h1 := he _ _ _ _ ha x' y' hx1 hy1 w
          have h2 := eqFs_sound he hf hty hx hy fs b hb w
          simp only [Op.eqFields, hn', ne_eq, not_false_eq_true, if_true, Sem.run_bind, hx2, hy2, Result.andThen_ok, h1]
          cases a
          · simp at h; subst h; simp
          · simp at h; subst h; simpa using h2
theorem eqIs_sound {d : Nat} {e : TypeId} {c : Nat} {eq : TypeId → List Value → List Value → Option Bool} (he : EqSound P M d eq) (hf : EqFull P eq) (hc : tSize P e = some c) {b : Bool} (hag : tAgg P e = some b) {xs ys : List Value} {xs' ys' : Array Value} (hx : Cells M xs xs'.toList) (hy : Cells M ys ys'.toList) :
    ∀ (n k : Nat) (r : Bool), eqIs (eq e) c n (xs.drop (k * c)) (ys.drop (k * c)) = some r → ∀ w, (Op.eqItems d e c xs' ys' (List.range' k n)).run P w = .ok r w
  | 0, k, r, h, w => by simp [eqIs] at h; subst h; simp [Op.eqItems]
  | n + 1, k, r, h, w => by
    unfold eqIs at h
    rw [List.drop_drop, List.drop_drop, show k * c + c = (k + 1) * c from by rw [Nat.add_mul]; omega] at h
    cases ha : eq e ((xs.drop (k * c)).take c) ((ys.drop (k * c)).take c) with
    | none => rw [ha] at h; cases h
    | some a =>
      cases hb : eqIs (eq e) c n (xs.drop ((k + 1) * c)) (ys.drop ((k + 1) * c)) with
      | none => rw [ha, hb] at h; cases h
      | some b =>
        rw [ha, hb] at h
        simp only [Option.some.injEq] at h
        obtain ⟨x', hx1, hx2⟩ := valOf_part (off := k * c) hag hc hx (fun e => (hf _ _ _ _ ha (e ▸ hag)).1)
        obtain ⟨y', hy1, hy2⟩ := valOf_part (off := k * c) hag hc hy (fun e => (hf _ _ _ _ ha (e ▸ hag)).2)
        have h1 := he _ _ _ _ ha x' y' hx1 hy1 w
        have h2 := eqIs_sound he hf hc hag hx hy n (k + 1) b hb w
        rw [List.range'_succ]
        simp only [Op.eqItems, Sem.run_bind, hx2, hy2, Result.andThen_ok, h1]
        cases a
        · simp at h; subst h; simp
        · simp at h; subst h; simpa using h2
theorem eqInts_sound {d : Nat} {e : TypeId} {k : IntKind} (hu : P.underlying e = some (.int k)) {xs ys : List Value} {xs' ys' : Array Value} (hx : Cells M xs xs'.toList) (hy : Cells M ys ys'.toList) :
    ∀ (n j : Nat) (r : Bool), eqInts k n (xs.drop j) (ys.drop j) = some r → ∀ w, (Op.eqItems (d + 1) e 1 xs' ys' (List.range' j n)).run P w = .ok r w
  | 0, j, r, h, w => by simp [eqInts] at h; subst h; simp [Op.eqItems]
  | n + 1, j, r, h, w => by
    cases hxs : xs.drop j with
    | nil => rw [hxs] at h; simp [eqInts] at h
    | cons x us =>
      cases hys : ys.drop j with
      | nil => rw [hxs, hys] at h; cases x <;> simp [eqInts] at h
      | cons y vs =>
        rw [hxs, hys] at h
        have hx1 : xs.drop (j + 1) = us := by rw [← List.drop_drop, hxs]; rfl
        have hy1 : ys.drop (j + 1) = vs := by rw [← List.drop_drop, hys]; rfl
        have hform : ∃ j1 a j2 b, x = .int j1 a ∧ y = .int j2 b := by
          cases x <;> first | (simp [eqInts] at h; done) | skip
          cases y <;> first | (simp [eqInts] at h; done) | skip
          exact ⟨_, _, _, _, rfl, rfl⟩
        obtain ⟨j1, a, j2, b, rfl, rfl⟩ := hform
        unfold eqInts at h
        · 
          cases hj : (j1 == k && j2 == k) <;> rw [hj] at h <;> simp only [cond_true, cond_false] at h
          · cases h
          simp only [Bool.and_eq_true, beq_iff_eq] at hj
          obtain ⟨hj1, hj2⟩ := hj
          subst hj1
          subst hj2
          cases hr : eqInts j2 n us vs with
          | none => rw [hr] at h; cases h
          | some b0 =>
            rw [hr] at h
            simp only [Option.some.injEq] at h
            have hag : tAgg P e = some false := tAgg_leaf hu (by simp) (by simp)
            have gx : xs[j]? = some (Value.int j2 a) := by
              have : (xs.drop j)[0]? = some (Value.int j2 a) := by rw [hxs]; rfl
              simpa using this
            have gy : ys[j]? = some (Value.int j2 b) := by
              have : (ys.drop j)[0]? = some (Value.int j2 b) := by rw [hys]; rfl
              simpa using this
            have fx : xs'[j]? = some (Value.int j2 a) := by
              have hi : j < xs'.size := by have := (List.getElem?_eq_some_iff.1 gx).1; have := hx.1; simp at this; omega
              have := hx.2 j _ xs'[j] gx (by rw [Array.getElem?_toList]; exact Array.getElem?_eq_getElem hi)
              rw [Array.getElem?_eq_getElem hi, this.int_]
            have fy : ys'[j]? = some (Value.int j2 b) := by
              have hi : j < ys'.size := by have := (List.getElem?_eq_some_iff.1 gy).1; have := hy.1; simp at this; omega
              have := hy.2 j _ ys'[j] gy (by rw [Array.getElem?_toList]; exact Array.getElem?_eq_getElem hi)
              rw [Array.getElem?_eq_getElem hi, this.int_]
            have h2 := eqInts_sound (d := d) hu hx hy n (j + 1) b0 (by rw [hx1, hy1]; exact hr) w
            rw [List.range'_succ]
            simp only [Op.eqItems, Sem.run_bind, part, run_tAgg hag, Result.andThen_ok, Bool.false_eq_true, if_false, Nat.mul_one, fx, fy, Sem.run_pure, run_equalIn_int w d e j2 j2 a b hu]
            by_cases hab : a = b
            · subst hab
              simp at h; subst h
              simpa using h2
            · simp [hab] at h; subst h
              simp [hab]

theorem eqL_typed (f : Nat) : EqTyped P (eqL P f) := by
  intro t xs ys r h
  cases f with
  | zero => cases h
  | succ f =>
    unfold eqL at h
    unfold tAgg
    cases hu : P.underlying t with
    | none => rw [hu] at h; cases h
    | some d => cases d <;> simp
theorem eqL_full (f : Nat) : EqFull P (eqL P f) := by
  intro t xs ys r h hl
  cases f with
  | zero => cases h
  | succ f =>
    unfold eqL at h
    unfold tAgg at hl
    cases hu : P.underlying t with
    | none => rw [hu] at hl; cases hl
    | some d =>
      rw [hu] at h hl
      cases d <;> simp at hl <;>
        (simp only at h
         unfold eqLeaf at h
         split at h
         · exact ⟨⟨_, _, rfl⟩, _, _, rfl⟩
         · cases h)
theorem run_tSize_info {t : TypeId} {n : Nat} (h : tSize P t = some n) : ∃ i, P.info? t = some i ∧ P.cellsOf t = n := by
  unfold tSize at h
  cases hi : P.info? t with
  | none => rw [hi] at h; cases h
  | some i => rw [hi] at h; simp at h; exact ⟨i, rfl, by simp [Program.cellsOf, hi, h]⟩
theorem eqL_sound : ∀ (f d : Nat), f < d → EqSound P M d (eqL P f)
  | 0, d, _, t, xs, ys, r, h, _, _, _, _, _ => by cases h
  | f + 1, 0, hfd, _, _, _, _, _, _, _, _, _, _ => by omega
  | f + 1, d + 1, hfd, t, xs, ys, r, h, x', y', hx, hy, w => by
    unfold eqL at h
    cases hu : P.underlying t with
    | none => rw [hu] at h; cases h
    | some de =>
      rw [hu] at h
      have leaf : (∀ fs, de ≠ .struct fs) → (∀ n e, de ≠ .array n e) → eqLeaf de xs ys = some r → (Op.equalIn (d + 1) t x' y').run P w = .ok r w := fun h1 h2 h3 => by
        have ha := tAgg_leaf hu h1 h2
        obtain ⟨v, us, rfl, hv⟩ := hx.2 ha
        obtain ⟨u, vs, rfl, hv'⟩ := hy.2 ha
        exact eq1_sound hu h3 hv hv' d w
      cases de with
      | struct fs =>
        simp only at h
        have ha : tAgg P t = some true := by unfold tAgg; rw [hu]
        obtain ⟨zs, rfl, hz⟩ := hx.1 ha
        obtain ⟨zs', rfl, hz'⟩ := hy.1 ha
        cases hp : P.stoodInHeld t <;> rw [hp] at h <;> simp only [cond_true, cond_false] at h
        case true => cases h
        have hfo : P.fieldsOf t = fs := by simp [Program.fieldsOf, hu]
        rw [run_equalIn_struct w d t zs zs' (by rw [hfo]; exact hu) hp, hfo]
        exact eqFs_sound (eqL_sound f d (by omega)) (eqL_full f) (eqL_typed f) hz hz' fs.toList r h w
      | array n e =>
        simp only at h
        have ha : tAgg P t = some true := by unfold tAgg; rw [hu]
        obtain ⟨zs, rfl, hz⟩ := hx.1 ha
        obtain ⟨zs', rfl, hz'⟩ := hy.1 ha
        cases hue : P.underlying e with
        | none => rw [hue] at h; cases h
        | some de =>
          cases hse : tSize P e with
          | none => rw [hue, hse] at h; cases de <;> cases h
          | some c =>
            rw [hue, hse] at h
            obtain ⟨i, hi, hc⟩ := run_tSize_info hse
            rw [run_equalIn_array w d zs zs' hu hi, hc, List.range_eq_range']
            obtain ⟨b, hb⟩ : ∃ b, tAgg P e = some b := by unfold tAgg; rw [hue]; cases de <;> simp
            have gen : eqIs (eqL P f e) c n xs ys = some r → (Op.eqItems d e c zs zs' (List.range' 0 n)).run P w = .ok r w := fun h =>
              eqIs_sound (eqL_sound f d (by omega)) (eqL_full f) hse hb hz hz' n 0 r (by simpa using h) w
            split at h
            · rename_i k e1 e2
              cases e1
              cases e2
              cases n with
              | zero => simp [eqInts] at h; subst h; simp [Op.eqItems]
              | succ n =>
                cases d with
                | zero => omega
                | succ d => exact eqInts_sound hue hz hz' (n + 1) 0 r (by simpa using h) w
            · rename_i e1 e2
              cases e2
              exact gen h
            · cases h
      | _ => exact leaf (by simp) (by simp) h
end Go.Am
