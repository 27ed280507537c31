import Derived.Test.YthojojlgmaoecaaGreatAm5
import Derived.Laws.IdiomRangeMap
section
/- The abstract machine, part 6: composites, addresses, slices are as the model has them. No program in sight. -/
set_option linter.all false
namespace Go.Am
open Go.RowKit
variable {P : Program} {M : Places} {σ : Store} {w : World}

/-! ## composites -/
theorem foldl_put : ∀ (vs : List Value) (k o : Nat) (z : Array Value), o + k + vs.length ≤ z.size →
    ((vs.zipIdx k).foldl (fun cs (x : Value × Nat) => cs.setIfInBounds (o + x.2) x.1) z).size = z.size ∧
    ∀ j, ((vs.zipIdx k).foldl (fun cs (x : Value × Nat) => cs.setIfInBounds (o + x.2) x.1) z)[j]? = if o + k ≤ j ∧ j < o + k + vs.length then vs[j - (o + k)]? else z[j]?
  | [], k, o, z, _ => ⟨rfl, fun j => by simp; omega⟩
  | v :: vs, k, o, z, h => by
    simp only [List.length_cons] at h
    obtain ⟨h1, h2⟩ := foldl_put vs (k + 1) o (z.setIfInBounds (o + k) v) (by simp; omega)
    simp only [List.zipIdx_cons, List.foldl_cons]
    refine ⟨by rw [h1]; simp, fun j => ?_⟩
    rw [h2 j, Array.getElem?_setIfInBounds]
    by_cases e : o + k = j
    · subst e
      rw [if_neg (by omega), if_pos rfl, if_pos (by omega), if_pos (by simp)]
      simp
    · rw [if_neg e]
      by_cases c : o + (k + 1) ≤ j ∧ j < o + (k + 1) + vs.length
      · rw [if_pos c, if_pos (by simp; omega)]
        rw [show j - (o + k) = (j - (o + (k + 1))) + 1 from by omega]
        rfl
      · rw [if_neg c, if_neg (by simp; omega)]
theorem flatten_set : ∀ (fs : List (List Value)) (i : Nat) (z c : List Value), fs[i]? = some z → c.length = z.length → (fs.set i c).flatten.length = fs.flatten.length ∧ (fs.take i).flatten.length + z.length ≤ fs.flatten.length ∧
    ∀ j, (fs.set i c).flatten[j]? = if (fs.take i).flatten.length ≤ j ∧ j < (fs.take i).flatten.length + c.length then c[j - (fs.take i).flatten.length]? else fs.flatten[j]?
  | [], i, z, c, h, _ => by simp at h
  | f :: fs, 0, z, c, h, hl => by
    simp at h
    subst h
    refine ⟨by simp [hl], by simp, fun j => ?_⟩
    simp only [List.set_cons_zero, List.flatten_cons, List.take_zero, List.flatten_nil, List.length_nil, Nat.zero_le, Nat.zero_add, true_and, Nat.sub_zero, List.getElem?_append]
    by_cases h1 : j < c.length
    · rw [if_pos h1, if_pos h1]
    · rw [if_neg h1, if_neg h1, if_neg (by omega), hl]
  | f :: fs, i + 1, z, c, h, hl => by
    obtain ⟨h1, h2, h3⟩ := flatten_set fs i z c (by simpa using h) hl
    refine ⟨by simp only [List.set_cons_succ, List.flatten_cons, List.length_append, h1], by simp only [List.take_succ_cons, List.flatten_cons, List.length_append]; omega, fun j => ?_⟩
    simp only [List.set_cons_succ, List.flatten_cons, List.take_succ_cons, List.length_append, List.getElem?_append]
    by_cases h4 : j < f.length
    · rw [if_pos h4, if_pos h4, if_neg (by omega)]
    · rw [if_neg h4, if_neg h4, h3]
      by_cases h5 : (fs.take i).flatten.length ≤ j - f.length ∧ j - f.length < (fs.take i).flatten.length + c.length
      · rw [if_pos h5, if_pos (by omega)]
        congr 1; omega
      · rw [if_neg h5, if_neg (by omega)]
theorem set_shape (fs : List (List Value)) (i : Nat) (z c : List Value) (h : fs[i]? = some z) (hl : c.length = z.length) : (fs.set i c).map List.length = fs.map List.length := by
  rw [List.map_set, hl]
  apply List.ext_getElem?
  intro j
  rw [List.getElem?_set]
  by_cases e : i = j
  · subst e
    simp [h]
    exact (List.getElem?_eq_some_iff.1 h).1
  · rw [if_neg e]
theorem take_shape {fs gs : List (List Value)} (h : fs.map List.length = gs.map List.length) (i : Nat) : (fs.take i).flatten.length = (gs.take i).flatten.length := by
  rw [List.length_flatten, List.length_flatten, List.map_take, List.map_take, h]

/-- Where the parts lie. -/
def PlaceOk (place : Nat → Option (Nat × Nat)) (fs : List (List Value)) : Prop := ∀ (i : Nat) (z : List Value), fs[i]? = some z → place i = some ((fs.take i).flatten.length, z.length)

theorem fill_sound {place : Nat → Option (Nat × Nat)} : ∀ (parts : List (Nat × Value)) (parts' : List (Nat × Value)) (fs gs : List (List Value)) (zs : Array Value),
    parts.length = parts'.length → (∀ (i : Nat) (a b : Nat × Value), parts[i]? = some a → parts'[i]? = some b → a.1 = b.1 ∧ VR M false a.2 b.2) → PlaceOk place fs → Cells M fs.flatten zs.toList → buildL fs parts = some gs →
    ∃ zs', Instr.fill place zs parts' = some zs' ∧ Cells M gs.flatten zs'.toList
  | [], parts', fs, gs, zs, hl, _, _, hc, h => by
    cases parts' with
    | cons x xs => simp at hl
    | nil => simp [buildL] at h; subst h; exact ⟨zs, rfl, hc⟩
  | (i, v) :: parts, [], fs, gs, zs, hl, _, _, _, _ => by simp at hl
  | (i, v) :: parts, (i', v') :: parts', fs, gs, zs, hl, hp, hpl, hc, h => by
    obtain ⟨e, hv⟩ := hp 0 (i, v) (i', v') rfl rfl
    simp only at e hv
    subst e
    unfold buildL at h
    cases hz : fs[i]? with
    | none => rw [hz] at h; cases h
    | some z =>
      rw [hz] at h
      simp only at h
      cases ha : asCells z.length v with
      | none => rw [ha] at h; cases h
      | some c =>
        rw [ha] at h
        simp only at h
        obtain ⟨hcl, hlen⟩ := asCells_some ha
        have hvc := VR.cells_ hv hcl
        have hsz : v'.cells.size = z.length := by rw [← hlen, hvc.1]; simp
        obtain ⟨f1, f2, f3⟩ := flatten_set fs i z c hz hlen
        have hzs : zs.size = fs.flatten.length := by rw [hc.1]; simp
        have hsh := set_shape fs i z c hz hlen
        have hpi := hpl i z hz
        have hsame : ∀ j, ((fs.set i c).take j).flatten.length = (fs.take j).flatten.length := fun j => take_shape hsh j
        generalize hF : (fs.take i).flatten.length = F at *
        unfold Instr.fill
        rw [hpi]
        simp only
        rw [if_neg (by simp only [Bool.or_eq_true, decide_eq_true_eq, not_or, ne_eq]; omega)]
        obtain ⟨g1, g2⟩ := foldl_put v'.cells.toList 0 F zs (by simp; omega)
        have hfold : (v'.cells.zipIdx.foldl (fun cs x => cs.setIfInBounds (F + x.2) x.1) zs) = (v'.cells.toList.zipIdx.foldl (fun cs (x : Value × Nat) => cs.setIfInBounds (F + x.2) x.1) zs) := by
          rw [← Array.foldl_toList, Array.toList_zipIdx]
        have hfold' : (v'.cells.zipIdx.foldl (fun cs (x : Value × Nat) => match x with | (c, j) => cs.setIfInBounds (F + j) c) zs) = (v'.cells.toList.zipIdx.foldl (fun cs (x : Value × Nat) => cs.setIfInBounds (F + x.2) x.1) zs) := hfold
        rw [hfold']
        refine fill_sound parts parts' (fs.set i c) gs _ (by simpa using hl) (fun j a b ha hb => hp (j + 1) a b (by simpa using ha) (by simpa using hb)) (fun j y hy => ?_) ⟨?_, fun j a b ha hb => ?_⟩ h
        · rw [hsame j]
          by_cases e : i = j
          · subst e
            rw [List.getElem?_set] at hy
            simp at hy
            obtain ⟨_, rfl⟩ := hy
            rw [hpi, hF, hlen]
          · rw [List.getElem?_set_ne e] at hy
            exact hpl j y hy
        · rw [f1, hc.1]
          simp only [Array.length_toList] at g1 ⊢
          exact g1.symm
        · rw [f3] at ha
          rw [Array.getElem?_toList, g2, Nat.add_zero] at hb
          rw [Array.length_toList, hsz, ← hlen] at hb
          by_cases c1 : F ≤ j ∧ j < F + c.length
          · rw [if_pos c1] at ha hb
            exact hvc.2 _ a b ha hb
          · rw [if_neg c1] at ha hb
            exact hc.2 j a b ha (by simpa using hb)
/-! ### where parts lie -/
def offsOk : Nat → List Field → List Nat → Bool
  | _, [], [] => true
  | k, f :: fs, n :: ns => f.offset == k && offsOk (k + n) fs ns
  | _, _, _ => false
def sameS : Value → Value → Bool
  | .int k a, .int j b => k == j && a == b
  | .bool a, .bool b => a == b
  | .string a, .string b => a.data.toList == b.data.toList
  | .pointer none, .pointer none => true
  | .slice none a b, .slice none c d => a == c && b == d
  | .map none, .map none => true
  | .nilFunc, .nilFunc => true
  | .nilIface, .nilIface => true
  | _, _ => false
theorem sameS_eq {a b : Value} (h : sameS a b = true) : a = b := by
  unfold sameS at h
  split at h
  · simp at h; rw [h.1, h.2]
  · simp at h; rw [h]
  · rename_i a b
    have h1 : a.data.toList = b.data.toList := by simpa using h
    obtain ⟨⟨a⟩⟩ := a
    obtain ⟨⟨b⟩⟩ := b
    simp at h1
    rw [h1]
  · rfl
  · simp at h; rw [h.1, h.2]
  · rfl
  · rfl
  · rfl
  · cases h
def sameL : List Value → List Value → Bool
  | [], [] => true
  | a :: as, b :: bs => sameS a b && sameL as bs
  | _, _ => false
theorem sameL_eq : ∀ {as bs : List Value}, sameL as bs = true → as = bs
  | [], [], _ => rfl
  | a :: as, b :: bs, h => by
    simp only [sameL, Bool.and_eq_true] at h
    rw [sameS_eq h.1, sameL_eq h.2]
  | [], _ :: _, h => by cases h
  | _ :: _, [], h => by cases h

theorem cutL_flatten : ∀ (ns : List Nat) (z : List Value), ns.sum = z.length → (cutL ns z).flatten = z
  | [], z, h => by simp at h; simp [cutL, List.eq_nil_of_length_eq_zero h.symm]
  | n :: ns, z, h => by
    simp only [List.sum_cons] at h
    simp only [cutL, List.flatten_cons]
    rw [cutL_flatten ns (z.drop n) (by simp; omega), List.take_append_drop]
theorem cutL_at : ∀ (ns : List Nat) (z : List Value) (i : Nat) (y : List Value), ns.sum ≤ z.length → (cutL ns z)[i]? = some y → ns[i]? = some y.length ∧ ((cutL ns z).take i).flatten.length = (ns.take i).sum
  | [], z, i, y, _, h => by simp [cutL] at h
  | n :: ns, z, 0, y, h0, h => by
    simp only [List.sum_cons] at h0
    simp [cutL] at h
    subst h
    simp; omega
  | n :: ns, z, i + 1, y, h0, h => by
    simp only [List.sum_cons] at h0
    simp only [cutL, List.getElem?_cons_succ] at h
    obtain ⟨h1, h2⟩ := cutL_at ns (z.drop n) i y (by simp; omega) h
    refine ⟨by simpa using h1, ?_⟩
    simp only [cutL, List.take_succ_cons, List.flatten_cons, List.length_append, h2, List.sum_cons, List.length_take]
    omega
theorem offsOk_at : ∀ (k : Nat) (fs : List Field) (ns : List Nat) (i : Nat) (n : Nat), offsOk k fs ns = true → ns[i]? = some n → ∃ f, fs[i]? = some f ∧ f.offset = k + (ns.take i).sum
  | k, [], [], i, n, _, h => by simp at h
  | k, [], _ :: _, i, n, h, _ => by cases h
  | k, _ :: _, [], i, n, h, _ => by cases h
  | k, f :: fs, m :: ns, 0, n, h, hn => by
    simp only [offsOk, Bool.and_eq_true, beq_iff_eq] at h
    exact ⟨f, rfl, by simp [h.1]⟩
  | k, f :: fs, m :: ns, i + 1, n, h, hn => by
    simp only [offsOk, Bool.and_eq_true, beq_iff_eq] at h
    obtain ⟨f', h1, h2⟩ := offsOk_at (k + m) fs ns i n h.2 (by simpa using hn)
    exact ⟨f', by simpa using h1, by simp [h2]; omega⟩
theorem run_places : ∀ (fs : List Field) (ns : List Nat) (w : World), fieldSizes P fs = some ns → (fs.mapM fun f => (do pure (f.offset, ← sizeOf f.type) : Sem (Nat × Nat))).run P w = .ok ((fs.map (·.offset)).zip ns) w
  | [], ns, w, h => by simp [fieldSizes] at h; subst h; simp
  | f :: fs, ns, w, h => by
    unfold fieldSizes at h
    cases hn : tSize P f.type with
    | none => rw [hn] at h; cases h
    | some n =>
      cases hs : fieldSizes P fs with
      | none => rw [hn, hs] at h; cases h
      | some ms =>
        rw [hn, hs] at h
        simp only [Option.some.injEq] at h
        subst h
        rw [List.mapM_cons]
        simp only [Sem.run_bind, run_tSize hn, Result.andThen_ok, Sem.run_pure, run_places fs ms w hs]
        rfl

def okBuild (P : Program) (t : TypeId) : Bool :=
  match P.underlying t, tZeros P t with
  | some (.struct fields), some z =>
    z.all scalar && match fieldSizes P fields.toList with
    | some ns => offsOk 0 fields.toList ns && ns.sum == z.length
    | none => true
  | some (.array n e), some z =>
    z.all scalar && match tZeros P e, tSize P e with
    | some ze, some c => ze.length == c && sameL (List.replicate n ze).flatten z
    | _, _ => false
  | _, _ => true
theorem tZeros_run {t : TypeId} {z : List Value} (h : tZeros P t = some z) : ∃ v, cellsL v = some z ∧ v.cells = z.toArray ∧ ∀ w, (zeroValue t).run P w = .ok v w := by
  unfold tZeros at h
  cases hz : tZero P t with
  | none => rw [hz] at h; cases h
  | some v => rw [hz] at h; exact ⟨v, h, cellsL_eq h, fun w => run_tZero hz w⟩
theorem parts_map {e ρ : Operand → Value} {parts : Array (Nat × Operand)} (he : ∀ x ∈ parts.toList, VR M false (e x.2) (ρ x.2)) :
    ∀ (i : Nat) (a b : Nat × Value), (parts.toList.map fun (x : Nat × Operand) => (x.1, e x.2))[i]? = some a → (parts.map fun (x : Nat × Operand) => (x.1, ρ x.2)).toList[i]? = some b → a.1 = b.1 ∧ VR M false a.2 b.2 := by
  intro i a b ha hb
  rw [Array.toList_map] at hb
  rw [List.getElem?_map] at ha hb
  cases hx : parts.toList[i]? with
  | none => rw [hx] at ha; cases ha
  | some x =>
    rw [hx] at ha hb
    simp only [Option.map_some, Option.some.injEq] at ha hb
    subst ha hb
    exact ⟨rfl, he x (List.mem_of_getElem? hx)⟩
theorem place_rep (n : Nat) (ze : List Value) : PlaceOk (fun i => some (i * ze.length, ze.length)) (List.replicate n ze) := by
  intro i z hz
  have h0 := List.getElem?_eq_some_iff.1 hz
  obtain ⟨hi, e⟩ := h0
  simp at e hi
  subst e
  simp [List.take_replicate, Nat.min_eq_left (Nat.le_of_lt hi)]

theorem build_sound {t : TypeId} {parts : Array (Nat × Operand)} {e ρ : Operand → Value} {v : Value} (hok : okBuild P t = true) (he : ∀ x ∈ parts.toList, VR M false (e x.2) (ρ x.2)) (h : buildAgg P t (parts.toList.map fun (x : Nat × Operand) => (x.1, e x.2)) = some v) :
    ∃ v', VR M false v v' ∧ ∀ w, (Instr.build t (parts.map fun (x : Nat × Operand) => (x.1, ρ x.2))).run P w = .ok v' w := by
  unfold buildAgg at h
  unfold okBuild at hok
  have hpm := parts_map he
  have hpl : (parts.toList.map fun (x : Nat × Operand) => (x.1, e x.2)).length = (parts.map fun (x : Nat × Operand) => (x.1, ρ x.2)).toList.length := by simp
  split at h
  · rename_i fields z hu hz
    rw [hu, hz] at hok
    simp only [Bool.and_eq_true] at hok
    obtain ⟨hsc, hok⟩ := hok
    obtain ⟨zv, hz1, hz2, hz3⟩ := tZeros_run hz
    split at h
    · cases h
    rename_i ns hns
    rw [hns] at hok
    simp only [Bool.and_eq_true, beq_iff_eq] at hok
    cases hb : buildL (cutL ns z) (parts.toList.map fun (x : Nat × Operand) => (x.1, e x.2)) with
    | none => rw [hb] at h; cases h
    | some fs =>
      rw [hb] at h
      simp only [Option.map_some, Option.some.injEq] at h
      subst h
      have hfl := cutL_flatten ns z hok.2
      obtain ⟨zs', h1, h2⟩ := fill_sound (place := (((fields.toList.map (·.offset)).zip ns).toArray[·]?)) _ _ _ _ z.toArray hpl hpm (fun i y hy => by
        obtain ⟨c1, c2⟩ := cutL_at ns z i y (by omega) hy
        obtain ⟨f, d1, d2⟩ := offsOk_at 0 fields.toList ns i y.length hok.1 c1
        simp [List.zip, List.getElem?_zipWith, c1, c2]
        have : fields[i]? = some f := by simpa using d1
        simp [this, d2]) (by rw [hfl]; exact Cells.of_closed hsc) hb
      refine ⟨_, h2.vagg', fun w => ?_⟩
      unfold Instr.build
      simp only [Sem.run_bind, hz3, Result.andThen_ok, run_underlying hu, hz2, Array.mapM_eq_mapM_toList, Sem.run_map, run_places fields.toList ns w hns, h1]
      rfl
  · rename_i n el z hu hz
    rw [hu, hz] at hok
    simp only [Bool.and_eq_true] at hok
    obtain ⟨hsc, hok⟩ := hok
    obtain ⟨zv, hz1, hz2, hz3⟩ := tZeros_run hz
    split at h
    · cases h
    rename_i ze hze
    rw [hze] at hok
    cases hcs : tSize P el with
    | none => rw [hcs] at hok; cases hok
    | some c =>
      rw [hcs] at hok
      simp only [Bool.and_eq_true, beq_iff_eq] at hok
      obtain ⟨hlen, hsame⟩ := hok
      cases hb : buildL (List.replicate n ze) (parts.toList.map fun (x : Nat × Operand) => (x.1, e x.2)) with
      | none => rw [hb] at h; cases h
      | some fs =>
        rw [hb] at h
        simp only [Option.map_some, Option.some.injEq] at h
        subst h
        obtain ⟨zs', h1, h2⟩ := fill_sound (place := fun i => some (i * c, c)) _ _ _ _ z.toArray hpl hpm (by rw [← hlen]; exact place_rep n ze) (by rw [sameL_eq hsame]; exact Cells.of_closed hsc) hb
        refine ⟨_, h2.vagg', fun w => ?_⟩
        unfold Instr.build
        simp only [Sem.run_bind, hz3, Result.andThen_ok, run_underlying hu, hz2, run_tSize hcs, h1]
        rfl
  · cases h
end Go.Am
end
section
/- The abstract machine, part 7: addresses, slices, what is new are as the model has them. No program in sight. -/
set_option linter.all false
namespace Go.Am
open Go.RowKit
variable {P : Program} {M : Places} {σ : Store} {w : World}

theorem fieldAddr_sound {t : TypeId} {x x' v : Value} {f : Nat} (hx : VR M false x x') (h : fieldAddrV P t x f = some v) : ∃ v', VR M false v v' ∧ ∀ w, (Instr.fieldAt t x' f).run P w = .ok v' w := by
  unfold fieldAddrV at h
  split at h
  case h_2 => cases h
  rename_i fs hu
  split at h
  case h_2 => cases h
  rename_i fl i o hf
  split at h
  case h_2 => cases h
  rename_i n hn
  cases h
  obtain ⟨_, l, hl, rfl⟩ := VR.ptr_ hx
  refine ⟨.pointer (some ⟨l.block, l.base + (o + fl.offset), none⟩), .cell _ _ (.ptr i (o + fl.offset) l hl), fun w => ?_⟩
  have h0 : ¬ (n + 1 = 0) := by omega
  simp only [Instr.fieldAt, Sem.run_bind, run_underlying hu, Result.andThen_ok, hf, Instr.sureAddr, Sem.run_pure, fieldPlace, run_tSize hn, Sem.run_ite, h0, if_false, add_mk, Nat.add_assoc]
theorem field_sound {t : TypeId} {x x' v : Value} {f : Nat} (hx : VR M false x x') (h : fieldV P t x f = some v) : ∃ v', VR M false v v' ∧ ∀ w, (Instr.field t x' f).run P w = .ok v' w := by
  unfold fieldV at h
  split at h
  case h_2 => cases h
  rename_i fs xs hu
  split at h
  · cases h
  rename_i fl hf
  split at h
  case h_2 => cases h
  rename_i b n hb hn
  obtain ⟨ys, rfl, _, _⟩ := VR.agg_ hx
  obtain ⟨v', h1, h2⟩ := part_sound hb hn (Cells.of_agg hx) h
  exact ⟨v', h1, fun w => by simp [Instr.field, run_underlying hu, hf, asAgg, h2 w]⟩
theorem indexAddr_sound {t : TypeId} {x x' i i' v : Value} (hx : VR M false x x') (hi : VR M false i i') (h : indexAddrV P t x i = some v) : ∃ v', VR M false v v' ∧ ∀ w, (Instr.indexAt t x' i').run P w = .ok v' w := by
  unfold indexAddrV at h
  split at h
  · rename_i k i b o
    have := hi.int_; subst this
    split at h
    case h_2 => cases h
    rename_i n e hu
    split at h
    case h_2 => cases h
    rename_i c hc
    split at h
    case isFalse => cases h
    rename_i hb
    cases h
    obtain ⟨_, l, hl, rfl⟩ := VR.ptr_ hx
    refine ⟨.pointer (some ⟨l.block, l.base + (o + i.toNat * c), none⟩), .cell _ _ (.ptr b _ l hl), fun w => ?_⟩
    simp [Instr.indexAt, asIntOf, run_underlying hu, Instr.sureAddr, hb, run_tSize hc, add_mk, Nat.add_assoc]
  · rename_i k i b o s n c0
    have := hi.int_; subst this
    split at h
    case h_2 => cases h
    rename_i e hu
    split at h
    case h_2 => cases h
    rename_i c hc
    cases hs : (s == none || s == some c) <;> rw [hs] at h <;> simp only [cond_true, cond_false] at h
    · cases h
    split at h
    case isFalse => cases h
    rename_i hb
    cases h
    obtain ⟨l, c', hl, rfl, _, _⟩ := VR.slice_ hx
    refine ⟨.pointer (some ⟨l.block, l.base + (o + i.toNat * c), none⟩), .cell _ _ (.ptr b _ l hl), fun w => ?_⟩
    simp [Instr.indexAt, asIntOf, run_underlying hu, hb, run_tSize hc, add_mk, Nat.add_assoc]
  · cases h
theorem index_sound {t : TypeId} {x x' i i' v : Value} (hx : VR M false x x') (hi : VR M false i i') (h : indexV P t x i = some v) : ∃ v', VR M false v v' ∧ ∀ w, (Instr.index t x' i').run P w = .ok v' w := by
  unfold indexV at h
  split at h
  · rename_i n e xs k i hu
    have := hi.int_; subst this
    split at h
    case h_2 => cases h
    rename_i b c hb hc
    split at h
    case isFalse => cases h
    rename_i hbd
    obtain ⟨ys, rfl, _, _⟩ := VR.agg_ hx
    obtain ⟨v', h1, h2⟩ := part_sound hb hc (Cells.of_agg hx) h
    exact ⟨v', h1, fun w => by simp [Instr.index, asIntOf, run_underlying hu, hbd, run_tSize hc, h2 w]⟩
  · rename_i s k i hu
    have := hi.int_; subst this
    have := hx.string_; subst this
    split at h
    case isFalse => cases h
    rename_i hbd
    cases hb : s[i.toNat]? with
    | none => rw [hb] at h; cases h
    | some b =>
      rw [hb] at h
      simp only [Option.map_some, Option.some.injEq] at h
      subst h
      exact ⟨_, .cell _ _ (.scalar _ rfl), fun w => by simp [Instr.index, asIntOf, run_underlying hu, hbd, hb]⟩
  · cases h
theorem bound_sound {x x' : Option Value} {d top n : Nat} {c : BoundsCode} (hx : match x, x' with | none, none => True | some a, some b => VR M false a b | _, _ => False) (h : bound x d top = some n) :
    ∀ w, (match x' with | some v => Instr.sliceBound v top c | none => pure d : Sem Nat).run P w = .ok n w := by
  intro w
  cases x with
  | none =>
    cases x' with
    | none => simp [bound] at h; subst h; rfl
    | some b => cases hx
  | some a =>
    cases x' with
    | none => cases hx
    | some b =>
      simp only at hx
      unfold bound at h
      split at h
      · rename_i e; cases e
      · rename_i k i e
        cases e
        have := hx.int_; subst this
        split at h
        · rename_i hb; cases h; simp [Instr.sliceBound, asIntOf, hb]
        · cases h
      · cases h
theorem bound_le {x : Option Value} {d top n : Nat} (h : bound x d top = some n) (hd : d ≤ top) : n ≤ top := by
  unfold bound at h
  split at h
  · cases h; exact hd
  · split at h
    · rename_i hb; cases h; omega
    · cases h
  · cases h
def OptR (M : Places) (x x' : Option Value) : Prop := match x, x' with | none, none => True | some a, some b => VR M false a b | _, _ => False
theorem sliceBounds_run {lo hi lo' hi' : Option Value} {isS : Bool} {len cap l h : Nat} (hlo : OptR M lo lo') (hhi : OptR M hi hi') (h1 : bound hi len cap = some h) (h2 : bound lo 0 h = some l) (w : World) :
    (Instr.sliceBounds isS len cap lo' hi' none).run P w = .ok (l, h, cap) w := by
  have k1 := fun c => bound_sound (P := P) (c := c) hhi h1 w
  have k2 := bound_sound (P := P) (c := .sliceB) hlo h2 w
  unfold Instr.sliceBounds
  cases hi' with
  | none =>
    have k1 := k1 .index
    simp only [Sem.run_pure, Result.ok.injEq, and_true] at k1
    subst k1
    cases lo' with
    | none =>
      simp only [Sem.run_pure, Result.ok.injEq, and_true] at k2
      subst k2
      simp
    | some y => simp only at k2; simp [k2]
  | some y =>
    simp only at k1
    simp only [Sem.run_bind, Sem.run_pure, Result.andThen_ok, k1]
    cases lo' with
    | none =>
      simp only [Sem.run_pure, Result.ok.injEq, and_true] at k2
      subst k2
      simp
    | some y => simp only at k2; simp [k2]
theorem slice_sound {t : TypeId} {x x' v : Value} {lo hi mx lo' hi' mx' : Option Value} (hx : VR M false x x') (hlo : OptR M lo lo') (hhi : OptR M hi hi') (hmx : OptR M mx mx')
    (h : sliceV P t x lo hi mx = some v) : ∃ v', VR M false v v' ∧ ∀ w, (Instr.sliceAt t x' lo' hi' mx').run P w = .ok v' w := by
  unfold sliceV at h
  split at h
  · rename_i n e b o hu
    cases mx' with
    | some y => cases hmx
    | none =>
      split at h
      case h_2 => cases h
      rename_i hh c hb hc
      split at h
      case h_2 => cases h
      rename_i ll hl
      cases hk : n == ll <;> rw [hk] at h <;> simp only [cond_true, cond_false] at h
      case true => cases h
      have hk' : ¬ n = ll := by simpa using hk
      cases h
      obtain ⟨_, l, hll, rfl⟩ := VR.ptr_ hx
      refine ⟨.slice (some ⟨l.block, l.base + (o + ll * c), none⟩) (hh - ll) (n - ll), .cell _ _ (.slice b _ _ _ l hll), fun w => ?_⟩
      unfold Instr.sliceAt
      simp only [Sem.run_bind, run_underlying hu, Result.andThen_ok, Instr.sureAddr, Sem.run_pure, sliceBounds_run hlo hhi hb hl, run_tSize hc, if_neg hk', add_mk, Nat.add_assoc]
  · rename_i e b o s n k hu
    cases mx' with
    | some y => cases hmx
    | none =>
      split at h
      case h_2 => cases h
      rename_i hh c hb hc
      cases hs : (s == none || s == some c) <;> rw [hs] at h <;> simp only [cond_true, cond_false] at h
      case false => cases h
      split at h
      case h_2 => cases h
      rename_i ll hl
      cases hk : ((k == ll && !(ll == 0)) || !Nat.ble hh k) <;> rw [hk] at h <;> simp only [cond_true, cond_false] at h
      case true => cases h
      simp only [Bool.or_eq_false_iff, Bool.not_eq_false'] at hk
      have hkk := Nat.le_of_ble_eq_true hk.2
      have hk' : k = ll → ll = 0 := fun e => by
        have := hk.1
        rw [e] at this
        simpa using this
      cases h
      obtain ⟨l, c', hll, rfl, hcc, hor⟩ := VR.slice_ hx
      have hle := bound_le hl (Nat.zero_le _)
      have hhi' : bound hi n c' = some hh := by
        unfold bound at hb ⊢
        split at hb
        · exact hb
        · split at hb
          · rename_i hq
            cases hb
            rw [if_pos (by omega)]
          · cases hb
        · cases hb
      have haddr : (if c' = ll then some (⟨l.block, l.base + o, none⟩ : Addr) else (some ⟨l.block, l.base + o, none⟩ : Option Addr).map (·.add (ll * c))) = some ⟨l.block, l.base + (o + ll * c), none⟩ := by
        split
        · rename_i e
          have : ll = 0 := hk' (by omega)
          subst this
          simp
        · simp [add_mk, Nat.add_assoc]
      refine ⟨.slice (some ⟨l.block, l.base + (o + ll * c), none⟩) (hh - ll) (c' - ll), ?_, fun w => ?_⟩
      · rcases hor with ⟨rfl, rfl⟩ | ⟨sz, room, rfl, hg, hr⟩
        · exact .cell _ _ (.slice b _ _ _ l hll)
        · have hsz : sz = c := by simpa using hs
          subst hsz
          obtain ⟨lb, lbase, lg⟩ := l
          simp only at hg
          subst hg
          refine .cell _ _ (.grown b _ _ _ _ sz room lb lbase hll (by omega) ?_)
          have : (c' - ll) * sz = c' * sz - ll * sz := Nat.sub_mul _ _ _
          have : ll * sz ≤ c' * sz := Nat.mul_le_mul_right _ (by omega)
          omega
      · unfold Instr.sliceAt
        simp only [Sem.run_bind, run_underlying hu, Result.andThen_ok, Instr.slice, sliceBounds_run hlo hhi hhi' hl, run_tSize hc, Sem.run_pure, haddr]
  · rename_i e n k hu
    cases mx' with
    | some y => cases hmx
    | none =>
      split at h
      case h_2 => cases h
      rename_i hh c hb hc
      split at h
      case h_2 => cases h
      rename_i ll hl
      cases h
      have := VR.scalar_eq (v := .slice none n k) rfl hx
      subst this
      refine ⟨_, .cell _ _ (.scalar _ rfl), fun w => ?_⟩
      unfold Instr.sliceAt
      simp only [Sem.run_bind, run_underlying hu, Result.andThen_ok, Instr.slice, sliceBounds_run hlo hhi hb hl, run_tSize hc, Sem.run_pure, Option.map_none, ite_self]
  · rename_i s hu
    cases mx' with
    | some y => cases hmx
    | none =>
      split at h
      case h_2 => cases h
      rename_i hh hb
      split at h
      case h_2 => cases h
      rename_i ll hl
      cases h
      have := hx.string_
      subst this
      refine ⟨_, .cell _ _ (.scalar _ rfl), fun w => ?_⟩
      unfold Instr.sliceAt
      simp only [Sem.run_bind, run_underlying hu, Result.andThen_ok, Instr.slice, sliceBounds_run hlo hhi hb hl, Option.isSome_none, Bool.false_eq_true, if_false, Sem.run_pure]
  · cases h
/-! ## what is new -/
theorem shows_new {w' : World} {c : List Value} {arr : Array Value} {e : TypeId} {x : Obj} (hw : w'.heap = w.heap.push x) (hx : x = .cells arr e (0, 0)) (hc : Cells M c arr.toList) : Shows M w' ⟨w.heap.size, 0, none⟩ (.cells c none) := by
  subst hx
  refine ⟨rfl, arr, e, (0, 0), by rw [hw]; simp, fun j v hv => ?_, .inl rfl, fun _ _ h => by cases h⟩
  have hi : j < arr.size := by
    have := (List.getElem?_eq_some_iff.1 hv).1
    have := hc.1
    simp at this
    omega
  have he : arr[j]? = some arr[j] := Array.getElem?_eq_getElem hi
  exact ⟨arr[j], by simpa using he, hc.2 j v arr[j] hv (by rw [Array.getElem?_toList]; exact he)⟩
theorem sound_new {n : Sem Next} {c : List Value} {arr : Array Value} {e : TypeId} {mk : Nat → Value} (hc : Cells M c arr.toList) (hmk : ∀ N i b, N i = some ⟨b, 0, none⟩ → VR N false (mk i) (mk b))
    (hr : ∀ w, n.run P w = .ok (.value (mk w.heap.size)) { w with heap := w.heap.push (.cells arr e) }) : Sound P M n (.new (.cells c none) mk) := ⟨rfl, fun w =>
  ⟨mk w.heap.size, ⟨w.heap.size, 0, none⟩, { w with heap := w.heap.push (.cells arr e) }, .cells arr e, hr w, rfl, rfl, shows_new rfl rfl hc, fun N i h => hmk N i _ h, rfl, rfl, rfl⟩⟩
theorem ptrTo_ok (N : Places) (i b : Nat) (h : N i = some ⟨b, 0, none⟩) : VR N false (ptrTo i) (ptrTo b) := by
  have := VR.ptr i 0 ⟨b, 0, none⟩ h
  exact .cell _ _ (by simpa [ptrTo] using this)

theorem row_list {ze : List Value} (hz0 : 0 < ze.length) (n : Nat) : ((Array.range (n * ze.length)).map fun i => ze.toArray[i % ze.toArray.size]!).toList = (List.replicate n ze).flatten := by
  apply List.ext_getElem?
  intro j
  rw [Array.toList_map, List.getElem?_map, Array.getElem?_toList, Array.getElem?_range]
  have hfl : ∀ (n j : Nat), (List.replicate n ze).flatten[j]? = if j < n * ze.length then ze[j % ze.length]? else none := fun n => by
    induction n with
    | zero => intro j; simp
    | succ n ih =>
      intro j
      rw [List.replicate_succ, List.flatten_cons, List.getElem?_append]
      by_cases h1 : j < ze.length
      · rw [if_pos h1, if_pos (by rw [Nat.add_mul]; omega), Nat.mod_eq_of_lt h1]
      · rw [if_neg h1, ih]
        by_cases h2 : j - ze.length < n * ze.length
        · rw [if_pos h2, if_pos (by rw [Nat.add_mul]; omega), Nat.mod_eq_sub_mod (show j ≥ ze.length by omega)]
        · rw [if_neg h2, if_neg (by rw [Nat.add_mul]; omega)]
  rw [hfl]
  split
  · have hm : j % ze.length < ze.length := Nat.mod_lt _ hz0
    simp only [Option.map_some, List.size_toArray]
    rw [List.getElem?_eq_getElem hm]
    simp [hm]
  · rfl
theorem buildSlice_sound {t el : TypeId} {n : Nat} {ze : List Value} {parts : Array (Nat × Operand)} {e ρ : Operand → Value} {fs : List (List Value)} (hu : P.underlying t = some (.slice el)) (hz : tZeros P el = some ze) (hzc : ze.all scalar = true) (hzs : tSize P el = some ze.length) (hz0 : 0 < ze.length)
    (hle : Nat.ble (n * ze.length) 16777216 = true) (he : ∀ x ∈ parts.toList, VR M false (e x.2) (ρ x.2)) (h : buildL (List.replicate n ze) (parts.toList.map fun (x : Nat × Operand) => (x.1, e x.2)) = some fs) :
    ∃ arr, Cells M fs.flatten arr.toList ∧ ∀ w, (Instr.buildSlice t n (parts.map fun (x : Nat × Operand) => (x.1, ρ x.2))).run P w = .ok (.slice (some ⟨w.heap.size, 0, none⟩) n n) { w with heap := w.heap.push (.cells arr el) } := by
  have hpm := parts_map he
  have hpl : (parts.toList.map fun (x : Nat × Operand) => (x.1, e x.2)).length = (parts.map fun (x : Nat × Operand) => (x.1, ρ x.2)).toList.length := by simp
  obtain ⟨zv, hz1, hz2, hz3⟩ := tZeros_run hz
  have hrow := row_list hz0
  obtain ⟨zs', h1, h2⟩ := fill_sound (place := fun i => some (i * ze.length, ze.length)) _ _ _ _ ((Array.range (n * ze.length)).map fun i => ze.toArray[i % ze.toArray.size]!) hpl hpm (place_rep n ze) (by
    rw [hrow]
    exact Cells.of_closed (by
      rw [List.all_eq_true] at hzc ⊢
      intro x hx
      obtain ⟨l, hl, hxl⟩ := List.mem_flatten.1 hx
      rw [List.eq_of_mem_replicate hl] at hxl
      exact hzc x hxl)) h
  refine ⟨zs', h2, fun w => ?_⟩
  have hle' := Nat.le_of_ble_eq_true hle
  unfold Instr.buildSlice
  simp only [Sem.run_bind, run_underlying hu, Result.andThen_ok, run_tSize hzs]
  have h24 : ¬ n * ze.length > 2 ^ 24 := by omega
  simp only [h24, if_false]
  by_cases hn : n * ze.length = 0
  · have hn0 : n = 0 := by
      rcases Nat.mul_eq_zero.1 hn with h0 | h0
      · exact h0
      · omega
    subst hn0
    have h1' : Instr.fill (fun i => some (i * ze.length, ze.length)) #[] (parts.map fun (x : Nat × Operand) => (x.1, ρ x.2)).toList = some zs' := by
      rw [← h1]; congr 1; simp
    have h2' : Instr.fill (fun i => some (i * ze.length, ze.length)) (Array.map (fun _ => (default : Value)) (Array.range 0)) (parts.toList.map fun (x : Nat × Operand) => (x.1, ρ x.2)) = some zs' := by
      rw [← h1']; congr 1 <;> simp
    simp [newRow, h2']
  · simp only [hn, if_false, Sem.run_bind, hz3, Result.andThen_ok, Sem.run_pure, hz2, h1]
    simp [newRow]
theorem rep_cells {ze : List Value} (hzc : ze.all scalar = true) (n : Nat) : Cells M (List.replicate n ze).flatten (List.replicate n ze).flatten := Cells.of_closed (by
  rw [List.all_eq_true] at hzc ⊢
  intro x hx
  obtain ⟨l, hl, hxl⟩ := List.mem_flatten.1 hx
  rw [List.eq_of_mem_replicate hl] at hxl
  exact hzc x hxl)
end Go.Am
end
section
/- The abstract machine, part 8: what writes is as the model has it. No program in sight. -/
set_option linter.all false
namespace Go.Am
open Go.RowKit
variable {P : Program} {M : Places} {σ : Store} {w : World}

/-! ## maps -/
theorem bytes_eq {a b : ByteArray} (h : (a == b) = true) : a = b := by
  rw [beq_toListBytes] at h
  have h1 : a.toList = b.toList := by simpa using h
  rw [ByteArray.toList_eq, ByteArray.toList_eq] at h1
  obtain ⟨⟨a⟩⟩ := a
  obtain ⟨⟨b⟩⟩ := b
  simp at h1
  rw [h1]
theorem sameNow_true {d : TypeDesc} {k k' : Value} (h : Instr.sameNow d k k' = some true) : k = k' ∧ scalar k = true ∧ Instr.sameBits 10000 k k = true := by
  unfold Instr.sameNow at h
  split at h
  · split at h
    · rename_i e; subst e; simp at h; subst h; exact ⟨rfl, rfl, by simp [Instr.sameBits]⟩
    · cases h
  · simp only [Option.some.injEq] at h
    have := bytes_eq h; subst this
    exact ⟨rfl, rfl, by simp [Instr.sameBits, h]⟩
  · simp at h; subst h; exact ⟨rfl, rfl, by simp [Instr.sameBits]⟩
  · cases h
theorem sameNow_scalar {d : TypeDesc} {k k' : Value} {b : Bool} (h : Instr.sameNow d k k' = some b) : scalar k = true ∧ scalar k' = true := by
  unfold Instr.sameNow at h
  split at h
  · exact ⟨rfl, rfl⟩
  · exact ⟨rfl, rfl⟩
  · exact ⟨rfl, rfl⟩
  · cases h
def EntriesL (M : Places) (es es' : List MapEntry) : Prop := es.length = es'.length ∧ ∀ (i : Nat) (e e' : MapEntry), es[i]? = some e → es'[i]? = some e' → EntryR M e e'
theorem Entries.toL {es : List MapEntry} {es' : Array MapEntry} (h : Entries M es es') : EntriesL M es es'.toList := ⟨by simpa using h.1, fun i e e' he he' => h.2 i e e' he (by simpa using he')⟩
theorem EntriesL.ofL {es es' : List MapEntry} (h : EntriesL M es es') : Entries M es es'.toArray := ⟨by simpa using h.1, fun i e e' he he' => h.2 i e e' he (by simpa using he')⟩
theorem EntriesL.tail {e e' : MapEntry} {es es' : List MapEntry} (h : EntriesL M (e :: es) (e' :: es')) : EntryR M e e' ∧ EntriesL M es es' :=
  ⟨h.2 0 e e' rfl rfl, by simpa using h.1, fun i a b ha hb => h.2 (i + 1) a b (by simpa using ha) (by simpa using hb)⟩
theorem EntriesL.snoc {e e' : MapEntry} {es es' : List MapEntry} (h : EntriesL M es es') (he : EntryR M e e') : EntriesL M (es ++ [e]) (es' ++ [e']) := by
  refine ⟨by simp [h.1], fun i a b ha hb => ?_⟩
  rw [List.getElem?_append] at ha hb
  by_cases hi : i < es.length
  · rw [if_pos hi] at ha; rw [if_pos (by rw [← h.1]; exact hi)] at hb; exact h.2 i a b ha hb
  · rw [if_neg hi] at ha
    rw [if_neg (by rw [← h.1]; exact hi), ← h.1] at hb
    cases hj : i - es.length with
    | zero => rw [hj] at ha hb; simp at ha hb; subst ha hb; exact he
    | succ n => rw [hj] at ha; simp at ha
theorem EntriesL.modify {es es' : List MapEntry} (h : EntriesL M es es') (i : Nat) {f f' : MapEntry → MapEntry} (hf : ∀ e e', EntryR M e e' → EntryR M (f e) (f' e')) : EntriesL M (es.modify i f) (es'.modify i f') := by
  refine ⟨by simp [h.1], fun j a b ha hb => ?_⟩
  rw [List.getElem?_modify] at ha hb
  cases hx : es[j]? with
  | none => rw [hx] at ha; simp at ha
  | some e =>
    have hj : j < es'.length := by rw [← h.1]; exact (List.getElem?_eq_some_iff.1 hx).1
    have hy : es'[j]? = some es'[j] := List.getElem?_eq_getElem hj
    rw [hx] at ha
    rw [hy] at hb
    simp at ha hb
    subst ha hb
    split
    · exact hf _ _ (h.2 j e _ hx hy)
    · exact h.2 j e _ hx hy
theorem EntriesL.erase {es es' : List MapEntry} (h : EntriesL M es es') (i : Nat) : EntriesL M (es.eraseIdx i) (es'.eraseIdx i) := by
  refine ⟨by simp [List.length_eraseIdx, h.1], fun j a b ha hb => ?_⟩
  rw [List.getElem?_eraseIdx] at ha hb
  split at ha
  · rename_i hj; rw [if_pos hj] at hb; exact h.2 j a b ha hb
  · rename_i hj; rw [if_neg hj] at hb; exact h.2 (j + 1) a b ha hb
theorem findNow_sound {d : TypeDesc} {k k' : Value} (hk : VR M false k k') : ∀ (es es' : List MapEntry) (i : Nat), EntriesL M es es' →
    (Instr.findNow d k es i = some none → Instr.findNow d k' es' i = some none) ∧
    (∀ j v, Instr.findNow d k es i = some (some (j, v)) → ∃ v', Instr.findNow d k' es' i = some (some (j, v')) ∧ VR M false v v' ∧ k' = k ∧ Instr.sameBits 10000 k k = true ∧ i ≤ j ∧ ∃ e e', es[j - i]? = some e ∧ es'[j - i]? = some e' ∧ EntryR M e e' ∧ e'.key = k)
  | [], [], i, _ => ⟨fun _ => rfl, fun j v h => by simp [Instr.findNow] at h⟩
  | [], _ :: _, i, h => by simp [EntriesL] at h
  | _ :: _, [], i, h => by simp [EntriesL] at h
  | e :: es, e' :: es', i, h => by
    obtain ⟨h0, h1⟩ := h.tail
    obtain ⟨ih1, ih2⟩ := findNow_sound hk es es' (i + 1) h1
    have same : ∀ b, Instr.sameNow d k e.key = some b → Instr.sameNow d k' e'.key = some b := fun b hb => by
      obtain ⟨s1, s2⟩ := sameNow_scalar hb
      rw [VR.scalar_eq s1 hk, VR.scalar_eq s2 h0.2.1]
      exact hb
    unfold Instr.findNow
    constructor
    · intro hf
      split at hf
      · simp at hf
      · rename_i hs; rw [same _ hs]; exact ih1 hf
      · cases hf
    · intro j v hf
      split at hf
      · rename_i hs
        simp only [Option.some.injEq, Prod.mk.injEq] at hf
        obtain ⟨rfl, rfl⟩ := hf
        obtain ⟨e1, e2, e3⟩ := sameNow_true hs
        refine ⟨e'.val, by rw [same _ hs], h0.2.2, VR.scalar_eq e2 hk, e3, Nat.le_refl _, e, e', by simp, by simp, h0, ?_⟩
        rw [VR.scalar_eq (by rw [← e1]; exact e2) h0.2.1, e1]
      · rename_i hs
        obtain ⟨v', a1, a2, a3, a4, a5, x, x', a6, a7, a8, a9⟩ := ih2 j v hf
        refine ⟨v', by rw [same _ hs]; exact a1, a2, a3, a4, by omega, x, x', ?_, ?_, a8, a9⟩
        · rw [show j - i = (j - (i + 1)) + 1 from by omega]; simpa using a6
        · rw [show j - i = (j - (i + 1)) + 1 from by omega]; simpa using a7
      · cases hf
theorem run_keyDesc {t : TypeId} {d : TypeDesc} (h : keyDesc P t = some d) : P.underlying t = some d ∧ ∀ (b : Bool) (k : Value) (w : World), (Instr.checkKey b 10000 t k).run P w = .ok () w := by
  have key : ∀ n, P.underlying t = some d → (∀ n e, d ≠ .array n e) → (∀ f, d ≠ .struct f) → (∀ m, d ≠ .interface m) → ∀ (b : Bool) (k : Value) (w : World), (Instr.checkKey b (n + 1) t k).run P w = .ok () w := fun n hu h1 h2 h3 b k w => by
    unfold Instr.checkKey
    simp only [Sem.run_bind, run_underlying hu, Result.andThen_ok]
    cases d <;> first | (exact absurd rfl (h1 _ _)) | (exact absurd rfl (h2 _)) | (exact absurd rfl (h3 _)) | (cases k <;> rfl)
  unfold keyDesc at h
  split at h
  · rename_i hu; cases h; exact ⟨hu, fun b k w => key 9999 hu (by simp) (by simp) (by simp) b k w⟩
  · rename_i hu; cases h; exact ⟨hu, fun b k w => key 9999 hu (by simp) (by simp) (by simp) b k w⟩
  · rename_i hu; cases h; exact ⟨hu, fun b k w => key 9999 hu (by simp) (by simp) (by simp) b k w⟩
  · cases h
theorem run_findKey {t : TypeId} {d : TypeDesc} {k : Value} {es : List MapEntry} {r : Option (Nat × Value)} (hu : P.underlying t = some d) (h : Instr.findNow d k es 0 = some r) (w : World) : (Instr.findKey t k es).run P w = .ok r w := by
  simp [Instr.findKey, run_underlying hu, h]

/-- The entries of a map. -/
theorem get_map {i : Nat} {es : List MapEntry} {ck : Nat} (hr : Rel M σ w) (hi : σ.get i = some (.map es ck)) {l : Loc} (hl : M i = some l) : l.grow = none ∧ ∃ es', w.heap[l.block]? = some (.map es' ck) ∧ Entries M es es' := by
  obtain ⟨l', h1, h2⟩ := hr.shows i _ hi
  rw [hl] at h1; cases h1
  exact h2
theorem run_getMap {r : Nat} {es : Array MapEntry} {ck : Nat} (h : w.heap[r]? = some (.map es ck)) : (getObj r).run P w = .ok (.map es ck) w := by
  simp [getObj, Sem.run, h]
theorem run_setMap {r : Nat} {es es2 : Array MapEntry} {ck ck2 : Nat} (h : w.heap[r]? = some (.map es ck)) : (setObj r (.map es2 ck2)).run P w = .ok () { w with heap := w.heap.setIfInBounds r (.map es2 ck2) } := by
  simp [setObj, Sem.run, h]
/-- A map is written. -/
theorem write_map {i : Nat} {es es2 : List MapEntry} {ck ck2 : Nat} (hr : Rel M σ w) (hi : σ.get i = some (.map es ck)) {l : Loc} (hl : M i = some l) {es2' : Array MapEntry} (he : Entries M es2 es2') :
    Rel M (σ.put i (some (.map es2 ck2))) { w with heap := w.heap.setIfInBounds l.block (.map es2' ck2) } ∧ Step σ M w (σ.put i (some (.map es2 ck2))) M { w with heap := w.heap.setIfInBounds l.block (.map es2' ck2) } := by
  obtain ⟨hg, es', h1, _⟩ := get_map hr hi hl
  have hlt := (Array.getElem?_eq_some_iff.1 h1).1
  refine hr.write hi hl rfl rfl (by simp) (fun b hb => by simp [Array.getElem?_setIfInBounds_ne (Ne.symm hb)]) ?_ rfl rfl rfl
  exact ⟨hg, es2', by simp [hlt], he⟩

theorem lookup_run {t kt et : TypeId} {d : TypeDesc} {z x' k' : Value} {ok : Bool} {es' : Array MapEntry} (hu : P.underlying t = some (.map kt et)) (hd : keyDesc P kt = some d) (hze : tZero P et = some z)
    (hx : (x' = .map none ∧ es' = #[]) ∨ ∃ r ck, x' = .map (some r) ∧ w.heap[r]? = some (.map es' ck)) :
    (∀ j v, Instr.findNow d k' es'.toList 0 = some (some (j, v)) → (Instr.lookup t x' k' ok).run P w = .ok (bif ok then .tuple #[v, .bool true] else v) w) ∧
    (Instr.findNow d k' es'.toList 0 = some none → (Instr.lookup t x' k' ok).run P w = .ok (bif ok then .tuple #[z, .bool false] else z) w) := by
  obtain ⟨hdu, hck⟩ := run_keyDesc hd
  rcases hx with ⟨rfl, rfl⟩ | ⟨r, ck, rfl, hm⟩
  · refine ⟨fun j v h => by simp [Instr.findNow] at h, fun h => ?_⟩
    have h0 : (Instr.findKey kt k' []).run P w = .ok none w := run_findKey hdu h w
    cases ok <;> simp [Instr.lookup, run_underlying hu, hck, h0, run_tZero hze]
  · refine ⟨fun j v h => ?_, fun h => ?_⟩
    · have h0 := run_findKey hdu h w
      cases ok <;> simp [Instr.lookup, run_underlying hu, hck, h0, run_getMap hm]
    · have h0 := run_findKey hdu h w
      cases ok <;> simp [Instr.lookup, run_underlying hu, hck, h0, run_tZero hze, run_getMap hm]
theorem pair_sound {v v' : Value} {ok b : Bool} (h : VR M false v v') : VR M false (bif ok then .tuple #[v, .bool b] else v) (bif ok then .tuple #[v', .bool b] else v') := by
  cases ok
  · exact h
  · refine .tuple _ _ rfl fun i a c ha hc => ?_
    match i with
    | 0 => simp at ha hc; subst ha hc; exact h
    | 1 => simp at ha hc; subst ha hc; exact .cell _ _ (.scalar _ rfl)
    | n + 2 => simp at ha
theorem lookup_sound0 {t : TypeId} {x x' k k' v : Value} {ok : Bool} (hz : ∀ kt et z, P.underlying t = some (.map kt et) → tZero P et = some z → closed z = true) (hx : VR M false x x') (hk : VR M false k k') (hr : Rel M σ w) (h : lookupV0 P t x k ok σ.get = some v) :
    ∃ v', VR M false v v' ∧ (Instr.lookup t x' k' ok).run P w = .ok v' w := by
  unfold lookupV0 at h
  split at h
  case h_2 => cases h
  rename_i kt et hu
  split at h
  case h_2 => cases h
  rename_i d z hd hze
  have hzc := hz kt et z hu hze
  have fin : ∀ (es : List MapEntry) (es' : Array MapEntry), Entries M es es' → ((x' = .map none ∧ es' = #[]) ∨ ∃ r ck, x' = .map (some r) ∧ w.heap[r]? = some (.map es' ck)) →
      (match Instr.findNow d k es 0 with
        | none => none
        | some (some (_, v)) => some (bif ok then .tuple #[v, .bool true] else v)
        | some none => some (bif ok then .tuple #[z, .bool false] else z)) = some v →
      ∃ v', VR M false v v' ∧ (Instr.lookup t x' k' ok).run P w = .ok v' w := fun es es' hes hx' hm => by
    obtain ⟨f1, f2⟩ := findNow_sound (d := d) hk es es'.toList 0 hes.toL
    obtain ⟨r1, r2⟩ := lookup_run (ok := ok) (k' := k') hu hd hze hx'
    split at hm
    · cases hm
    · rename_i j v0 hf
      obtain ⟨v', g1, g2, _⟩ := f2 j v0 hf
      cases hm
      exact ⟨_, pair_sound g2, r1 j v' g1⟩
    · rename_i hf
      cases hm
      exact ⟨_, pair_sound (VR.of_closed hzc), r2 (f1 hf)⟩
  split at h
  · cases h
  rename_i es hes
  split at hes
  · cases hes
    have := VR.scalar_eq (v := .map none) rfl hx
    subst this
    exact fin [] #[] ⟨rfl, fun i e e' he => by simp at he⟩ (.inl ⟨rfl, rfl⟩) h
  · rename_i r
    obtain ⟨l, hl, rfl⟩ := VR.map_ hx
    split at hes
    case h_2 => cases hes
    rename_i es0 ck hg
    cases hes
    obtain ⟨_, es', h1, h2⟩ := get_map hr hg hl
    exact fin es es' h2 (.inr ⟨_, ck, rfl, h1⟩) h
  · cases hes

/-- What an effect leaves. -/
def Did (P : Program) (σ : Store) (M : Places) (w : World) (s : Sem Unit) (σ' : Store) : Prop := ∃ M' w', s.run P w = .ok () w' ∧ Rel M' σ' w' ∧ Step σ M w σ' M' w'
theorem keyThatStays_run {k : Value} (h : Instr.sameBits 10000 k k = true) (w : World) : (Instr.keyThatStays k k).run P w = .ok k w := by
  simp [Instr.keyThatStays, h]
theorem mapUpdate_sound0 {t : TypeId} {x x' k k' v v' u : Value} {σ' : Store} (hx : VR M false x x') (hk : VR M false k k') (hv : VR M false v v') (hr : Rel M σ w) (h : mapUpdateV0 P t x k v σ = some (u, σ')) :
    u = junk ∧ Did P σ M w (Instr.mapUpdate t x' k' v') σ' := by
  unfold mapUpdateV0 at h
  split at h
  case h_2 => cases h
  rename_i kt et r hu
  obtain ⟨l, hl, rfl⟩ := VR.map_ hx
  split at h
  case h_2 => cases h
  rename_i d es ck hd hg
  obtain ⟨hdu, hck⟩ := run_keyDesc hd
  obtain ⟨_, es', h1, h2⟩ := get_map hr hg hl
  obtain ⟨f1, f2⟩ := findNow_sound (d := d) hk es es'.toList 0 h2.toL
  split at h
  · cases h
  · rename_i j v0 hf
    obtain ⟨v1, g1, g2, g3, g4, _, e, e', g5, g6, g7, g8⟩ := f2 j v0 hf
    cases h
    subst g3
    have hm : Entries M (es.modify j fun e => { e with key := k', val := v }) (es'.modify j fun e => { e with key := k', val := v' }) := by
      have := (h2.toL.modify j (f := fun e => { e with key := k', val := v }) (f' := fun e => { e with key := k', val := v' }) (fun a b hab => ⟨hab.1, hk, hv⟩)).ofL
      have he : (es'.toList.modify j fun e => { e with key := k', val := v' }).toArray = es'.modify j fun e => { e with key := k', val := v' } := by
        apply Array.ext'
        simp
      rwa [he] at this
    obtain ⟨a1, a2⟩ := write_map (ck2 := ck) hr hg hl hm
    have g6' : es'[j]? = some e' := by simpa using g6
    refine ⟨rfl, M, _, ?_, a1, a2⟩
    simp [Instr.mapUpdate, run_underlying hu, run_getMap h1, hck, run_findKey hdu g1, g6', g8, keyThatStays_run g4, run_setMap h1]
  · rename_i hf
    cases h
    have hm : Entries M (es ++ [{ key := k, val := v, born := ck }]) (es'.push { key := k', val := v', born := ck }) := by
      have := (h2.toL.snoc (e := { key := k, val := v, born := ck }) (e' := { key := k', val := v', born := ck }) ⟨rfl, hk, hv⟩).ofL
      have he : (es'.toList ++ [(⟨k', v', ck⟩ : MapEntry)]).toArray = es'.push ⟨k', v', ck⟩ := by
        apply Array.ext'
        simp
      rwa [he] at this
    obtain ⟨a1, a2⟩ := write_map (ck2 := ck + 1) hr hg hl hm
    refine ⟨rfl, M, _, ?_, a1, a2⟩
    simp [Instr.mapUpdate, run_underlying hu, run_getMap h1, hck, run_findKey hdu (f1 hf), run_setMap h1]
theorem run_each {α : Type} {f : α → PUnit → Sem (ForInStep PUnit)} {w : World} : ∀ (l : List α), (∀ a ∈ l, (f a ⟨⟩).run P w = .ok (.yield ⟨⟩) w) → (forIn l (⟨⟩ : PUnit) f).run P w = .ok ⟨⟩ w
  | [], _ => by simp [Sem.run_pure]
  | a :: l, h => by
    simp only [List.forIn_cons, Sem.run_bind, h a (List.mem_cons_self ..), Result.andThen]
    exact run_each l fun b hb => h b (List.mem_cons_of_mem _ hb)
theorem run_flat {t : TypeId} {d : TypeDesc} (h : keyDesc P t = some d) (n : Nat) (b : Bool) (k : Value) (w : World) : (Instr.checkKey b (n + 1) t k).run P w = .ok () w := by
  have key : P.underlying t = some d → (∀ n e, d ≠ .array n e) → (∀ f, d ≠ .struct f) → (∀ m, d ≠ .interface m) → (Instr.checkKey b (n + 1) t k).run P w = .ok () w := fun hu h1 h2 h3 => by
    unfold Instr.checkKey
    simp only [Sem.run_bind, run_underlying hu, Result.andThen_ok]
    cases d <;> first | (exact absurd rfl (h1 _ _)) | (exact absurd rfl (h2 _)) | (exact absurd rfl (h3 _)) | (cases k <;> rfl)
  unfold keyDesc at h
  split at h
  · rename_i hu; cases h; exact key hu (by simp) (by simp) (by simp)
  · rename_i hu; cases h; exact key hu (by simp) (by simp) (by simp)
  · rename_i hu; cases h; exact key hu (by simp) (by simp) (by simp)
  · cases h
theorem eqInts_len {k : IntKind} : ∀ {n : Nat} {xs ys : List Value} {r : Bool}, eqInts k n xs ys = some r → n ≤ xs.length
  | 0, _, _, _, _ => Nat.zero_le _
  | n + 1, [], _, _, h => by simp [eqInts] at h
  | n + 1, x :: us, [], _, h => by cases x <;> simp [eqInts] at h
  | n + 1, x :: us, y :: vs, r, h => by
    have hform : ∃ j1 a j2 b, x = .int j1 a ∧ y = .int j2 b := by
      cases x <;> first | (simp [eqInts] at h; done) | skip
      cases y <;> first | (simp [eqInts] at h; done) | skip
      exact ⟨_, _, _, _, rfl, rfl⟩
    obtain ⟨j1, a, j2, b, rfl, rfl⟩ := hform
    unfold eqInts at h
    cases hj : (j1 == k && j2 == k) <;> rw [hj] at h <;> simp only [cond_true, cond_false] at h
    · cases h
    cases hr : eqInts k n us vs with
    | none => rw [hr] at h; cases h
    | some b0 => have := eqInts_len hr; simp; omega
theorem eqFs_mem {eq : TypeId → List Value → List Value → Option Bool} {xs ys : List Value} : ∀ {fs : List Field} {r : Bool}, eqFs P eq fs xs ys = some r → ∀ fl ∈ fs, ∃ n a, tSize P fl.type = some n ∧ eq fl.type ((xs.drop fl.offset).take n) ((ys.drop fl.offset).take n) = some a
  | [], _, _, fl, h => by cases h
  | f :: fs, r, h, fl, hm => by
    unfold eqFs at h
    cases hn : f.name == "_" <;> rw [hn] at h <;> simp only [cond_true, cond_false] at h
    case true => cases h
    cases hs : tSize P f.type with
    | none => rw [hs] at h; cases h
    | some n =>
      rw [hs] at h
      simp only at h
      cases ha : eq f.type ((xs.drop f.offset).take n) ((ys.drop f.offset).take n) with
      | none => rw [ha] at h; cases h
      | some a =>
        cases hb : eqFs P eq fs xs ys with
        | none => rw [ha, hb] at h; cases h
        | some b =>
          rcases List.mem_cons.1 hm with rfl | hm
          · exact ⟨n, a, hs, ha⟩
          · exact eqFs_mem hb fl hm
theorem check_row {t : TypeId} {f : Nat} {xs : List Value} {x' : Value} {a : Bool} (hr : keyRow P t = true) (he : eqL P (f + 1) t xs xs = some a) (hv : ValOf P M t xs x') (m : Nat) (b : Bool) (w : World) : (Instr.checkKey b (m + 2) t x').run P w = .ok () w := by
  unfold keyRow at hr
  split at hr
  · rename_i len e hu
    split at hr
    case h_2 => cases hr
    rename_i k hk
    have hs : tSize P e = some 1 := by simpa using hr
    have ha : tAgg P t = some true := by unfold tAgg; rw [hu]
    have hg : tAgg P e = some false := tAgg_leaf hk (by simp) (by simp)
    obtain ⟨zs, rfl, hz⟩ := hv.1 ha
    have hl : len ≤ zs.size := by
      unfold eqL at he
      rw [hu] at he
      simp only [hk, hs] at he
      have := eqInts_len he
      have := hz.1
      simp at this
      omega
    unfold Instr.checkKey
    simp only [Sem.run_bind, run_underlying hu, Result.andThen_ok, Std.Legacy.Range.forIn_eq_forIn_range']
    rw [run_each _ fun i hi => ?_]
    · rfl
    · have hi : i < len := by
        have := List.mem_range'_1.1 hi
        simpa [Std.Legacy.Range.size] using this
      have hz' : zs[i]? = some zs[i] := Array.getElem?_eq_getElem (by omega)
      have hd : keyDesc P e = some (.int k) := by unfold keyDesc; rw [hk]
      simp only [Sem.run_bind, run_tSize hs, Result.andThen_ok, part, run_tAgg hg, Bool.false_eq_true, if_false, Nat.mul_one, hz', Sem.run_pure, run_flat hd]
  · obtain ⟨d, hd⟩ := Option.isSome_iff_exists.1 hr
    exact run_flat hd _ b _ w
theorem deep_struct {t : TypeId} (h : deepT P t = true) : ∃ fs, P.underlying t = some (.struct fs) ∧ ∀ f ∈ fs.toList, keyRow P f.type = true := by
  unfold deepT at h
  split at h
  · rename_i fs hu
    exact ⟨fs, hu, List.all_eq_true.1 h⟩
  · cases h
theorem check_deep {t : TypeId} {k k' : Value} (hd : deepT P t = true) (he : (eqV P t k k).isSome = true) (hk : VR M false k k') (b : Bool) (w : World) : (Instr.checkKey b 10000 t k').run P w = .ok () w := by
  obtain ⟨fs, hu, hf⟩ := deep_struct hd
  obtain ⟨r, hr⟩ := Option.isSome_iff_exists.1 he
  unfold eqV at hr
  rw [hu] at hr
  have hagg : ∃ xs, k = .agg xs := by
    cases k <;> first | exact ⟨_, rfl⟩ | (simp [eq1] at hr; done)
  obtain ⟨xs, rfl⟩ := hagg
  obtain ⟨zs, rfl, _⟩ := VR.agg_ hk
  have hc : Cells M xs.toList zs.toList := Cells.of_agg hk
  have hr : eqL P (11 + 1) t xs.toList xs.toList = some r := hr
  unfold eqL at hr
  rw [hu] at hr
  simp only at hr
  cases hp : P.stoodInHeld t <;> rw [hp] at hr <;> simp only [cond_true, cond_false] at hr
  case true => cases hr
  show (Instr.checkKey b (9999 + 1) t (.agg zs)).run P w = _
  unfold Instr.checkKey
  simp only [Sem.run_bind, run_underlying hu, Result.andThen_ok]
  rw [← Array.forIn_toList, run_each _ fun fl hfl => ?_]
  · rfl
  · obtain ⟨n, a, hs, ha⟩ := eqFs_mem hr fl hfl
    obtain ⟨ag, hag⟩ := eqL_typed 11 _ _ _ _ ha
    obtain ⟨x', hx1, hx2⟩ := valOf_part (off := fl.offset) hag hs hc (fun e => (eqL_full 11 _ _ _ _ ha (e ▸ hag)).1)
    have h1 := check_row (hf fl hfl) ha hx1 9997 b w
    by_cases hn : fl.name = "_"
    · simp [hn, Sem.run_pure]
    · simp only [hn, ne_eq, not_false_eq_true, if_true, Sem.run_bind, hx2, Result.andThen_ok, h1, Sem.run_pure]
theorem findAsking_sound {t : TypeId} {k k' : Value} (hk : VR M false k k') : ∀ (es es' : List MapEntry) (i : Nat), EntriesL M es es' →
    (findDeep P t k es i = some none → ∀ w, (Instr.findAsking t k' es' i).run P w = .ok none w) ∧
    (∀ j v, findDeep P t k es i = some (some (j, v)) → ∃ v', (∀ w, (Instr.findAsking t k' es' i).run P w = .ok (some (j, v')) w) ∧ VR M false v v')
  | [], [], i, _ => ⟨fun _ w => by simp [Instr.findAsking, Sem.run_pure], fun j v h => by simp [findDeep] at h⟩
  | [], _ :: _, i, h => by simp [EntriesL] at h
  | _ :: _, [], i, h => by simp [EntriesL] at h
  | e :: es, e' :: es', i, h => by
    obtain ⟨h0, h1⟩ := h.tail
    obtain ⟨ih1, ih2⟩ := findAsking_sound hk es es' (i + 1) h1
    unfold findDeep Instr.findAsking
    constructor
    · intro hf w
      split at hf
      · simp at hf
      · rename_i hs
        simp only [Sem.run_bind, eqV_sound hs hk h0.2.1 w, Result.andThen_ok, Bool.false_eq_true, if_false]
        exact ih1 hf w
      · cases hf
    · intro j v hf
      split at hf
      · rename_i hs
        simp only [Option.some.injEq, Prod.mk.injEq] at hf
        obtain ⟨rfl, rfl⟩ := hf
        exact ⟨e'.val, fun w => by simp only [Sem.run_bind, eqV_sound hs hk h0.2.1 w, Result.andThen_ok, if_true, Sem.run_pure], h0.2.2⟩
      · rename_i hs
        obtain ⟨v', a1, a2⟩ := ih2 j v hf
        exact ⟨v', fun w => by
          simp only [Sem.run_bind, eqV_sound hs hk h0.2.1 w, Result.andThen_ok, Bool.false_eq_true, if_false]
          exact a1 w, a2⟩
      · cases hf
theorem findKey_deep {t : TypeId} {fs : Array Field} (hu : P.underlying t = some (.struct fs)) (k : Value) (es : List MapEntry) (w : World) : (Instr.findKey t k es).run P w = (Instr.findAsking t k es 0).run P w := by
  cases es with
  | nil => simp [Instr.findKey, run_underlying hu, Instr.findNow, Instr.findAsking]
  | cons e es => simp [Instr.findKey, run_underlying hu, Instr.findNow, Instr.sameNow]
theorem lookupD_sound {t : TypeId} {x x' k k' v : Value} {ok : Bool} (hz : ∀ kt et z, P.underlying t = some (.map kt et) → tZero P et = some z → closed z = true) (hx : VR M false x x') (hk : VR M false k k') (hr : Rel M σ w) (h : lookupD P t x k ok σ.get = some v) :
    ∃ v', VR M false v v' ∧ (Instr.lookup t x' k' ok).run P w = .ok v' w := by
  unfold lookupD at h
  split at h
  case h_2 => cases h
  rename_i kt et r hu
  obtain ⟨l, hl, rfl⟩ := VR.map_ hx
  split at h
  case h_2 => cases h
  rename_i z es ck hze hg
  have hzc := hz kt et z hu hze
  obtain ⟨_, es', h1, h2⟩ := get_map hr hg hl
  cases hd : (deepT P kt && (eqV P kt k k).isSome) <;> rw [hd] at h <;> simp only [cond_true, cond_false] at h
  · cases h
  simp only [Bool.and_eq_true] at hd
  obtain ⟨fs, hks, _⟩ := deep_struct hd.1
  have hck := check_deep hd.1 hd.2 hk es'.isEmpty w
  obtain ⟨f1, f2⟩ := findAsking_sound (P := P) (t := kt) hk es es'.toList 0 h2.toL
  split at h
  · cases h
  · rename_i j v0 hf
    obtain ⟨v', g1, g2⟩ := f2 j v0 hf
    cases h
    refine ⟨_, pair_sound g2, ?_⟩
    cases ok <;> simp [Instr.lookup, run_underlying hu, hck, findKey_deep hks, g1, run_getMap h1]
  · rename_i hf
    cases h
    refine ⟨_, pair_sound (VR.of_closed hzc), ?_⟩
    cases ok <;> simp [Instr.lookup, run_underlying hu, hck, findKey_deep hks, f1 hf, run_tZero hze, run_getMap h1]
theorem lookup_sound {t : TypeId} {x x' k k' v : Value} {ok : Bool} (hz : ∀ kt et z, P.underlying t = some (.map kt et) → tZero P et = some z → closed z = true) (hx : VR M false x x') (hk : VR M false k k') (hr : Rel M σ w) (h : lookupV P t x k ok σ.get = some v) :
    ∃ v', VR M false v v' ∧ (Instr.lookup t x' k' ok).run P w = .ok v' w := by
  unfold lookupV at h
  split at h
  · rename_i v0 h0
    cases h
    exact lookup_sound0 hz hx hk hr h0
  · exact lookupD_sound hz hx hk hr h
theorem mapUpdateD_sound {t : TypeId} {x x' k k' v v' u : Value} {σ' : Store} (hx : VR M false x x') (hk : VR M false k k') (hv : VR M false v v') (hr : Rel M σ w) (h : mapUpdateD P t x k v σ = some (u, σ')) :
    u = junk ∧ Did P σ M w (Instr.mapUpdate t x' k' v') σ' := by
  unfold mapUpdateD at h
  split at h
  case h_2 => cases h
  rename_i kt et r hu
  obtain ⟨l, hl, rfl⟩ := VR.map_ hx
  split at h
  case h_2 => cases h
  rename_i es ck hg
  obtain ⟨_, es', h1, h2⟩ := get_map hr hg hl
  cases hd : (deepT P kt && (eqV P kt k k).isSome) <;> rw [hd] at h <;> simp only [cond_true, cond_false] at h
  · cases h
  simp only [Bool.and_eq_true] at hd
  obtain ⟨fs, hks, _⟩ := deep_struct hd.1
  have hck := check_deep hd.1 hd.2 hk false w
  obtain ⟨f1, f2⟩ := findAsking_sound (P := P) (t := kt) hk es es'.toList 0 h2.toL
  split at h
  · rename_i hf
    cases h
    have hm : Entries M (es ++ [{ key := k, val := v, born := ck }]) (es'.push { key := k', val := v', born := ck }) := by
      have := (h2.toL.snoc (e := { key := k, val := v, born := ck }) (e' := { key := k', val := v', born := ck }) ⟨rfl, hk, hv⟩).ofL
      have he : (es'.toList ++ [(⟨k', v', ck⟩ : MapEntry)]).toArray = es'.push ⟨k', v', ck⟩ := by
        apply Array.ext'
        simp
      rwa [he] at this
    obtain ⟨a1, a2⟩ := write_map (ck2 := ck + 1) hr hg hl hm
    refine ⟨rfl, M, _, ?_, a1, a2⟩
    simp [Instr.mapUpdate, run_underlying hu, run_getMap h1, hck, findKey_deep hks, f1 hf, run_setMap h1]
  · cases h
theorem mapUpdate_sound {t : TypeId} {x x' k k' v v' u : Value} {σ' : Store} (hx : VR M false x x') (hk : VR M false k k') (hv : VR M false v v') (hr : Rel M σ w) (h : mapUpdateV P t x k v σ = some (u, σ')) :
    u = junk ∧ Did P σ M w (Instr.mapUpdate t x' k' v') σ' := by
  unfold mapUpdateV at h
  split at h
  · rename_i r h0
    cases h
    exact mapUpdate_sound0 hx hk hv hr h0
  · exact mapUpdateD_sound hx hk hv hr h
theorem setIf_same {α : Type} {h : Array α} {b : Nat} {x : α} (e : h[b]? = some x) : h.setIfInBounds b x = h := by
  apply Array.ext_getElem?
  intro i
  rw [Array.getElem?_setIfInBounds]
  split
  · rename_i hb
    subst hb
    have := (Array.getElem?_eq_some_iff.1 e).1
    rw [if_pos this, e]
  · rfl
theorem mapEntry_sound {t : TypeId} {x x' k k' u : Value} {σ' : Store} (hz : ∀ kt et z, P.underlying t = some (.map kt et) → tZero P et = some z → closed z = true) (hx : VR M false x x') (hk : VR M false k k') (hr : Rel M σ w) (h : mapEntryV P t x k σ = some (u, σ')) :
    ∃ u' M' w', VR M' false u u' ∧ (Instr.mapEntry t x' k').run P w = .ok u' w' ∧ Rel M' σ' w' ∧ Step σ M w σ' M' w' := by
  unfold mapEntryV at h
  split at h
  case h_2 => cases h
  rename_i kt et r hu
  obtain ⟨l, hl, rfl⟩ := VR.map_ hx
  split at h
  case h_2 => cases h
  rename_i d es ck z hd hg hze
  have hzc := hz kt et z hu hze
  obtain ⟨hdu, hck⟩ := run_keyDesc hd
  obtain ⟨_, es', h1, h2⟩ := get_map hr hg hl
  obtain ⟨f1, f2⟩ := findNow_sound (d := d) hk es es'.toList 0 h2.toL
  have two : ∀ {a a' : Value} {n : Int}, VR M false a a' → VR M false (.tuple #[a, .int .i64 n]) (.tuple #[a', .int .i64 n]) := fun ha => by
    refine .tuple _ _ rfl fun i b c hb hc => ?_
    match i with
    | 0 => simp at hb hc; subst hb hc; exact ha
    | 1 => simp at hb hc; subst hb hc; exact .cell _ _ (.scalar _ rfl)
    | n + 2 => simp at hb
  split at h
  · cases h
  · rename_i j v0 hf
    obtain ⟨v1, g1, g2, g3, g4, _, e, e', g5, g6, g7, g8⟩ := f2 j v0 hf
    cases h
    subst g3
    have hm : Entries M (es.modify j fun e => { e with key := k' }) (es'.modify j fun e => { e with key := k' }) := by
      have := (h2.toL.modify j (f := fun e => { e with key := k' }) (f' := fun e => { e with key := k' }) (fun a b hab => ⟨hab.1, hk, hab.2.2⟩)).ofL
      have he : (es'.toList.modify j fun e => { e with key := k' }).toArray = es'.modify j fun e => { e with key := k' } := by
        apply Array.ext'
        simp
      rwa [he] at this
    obtain ⟨a1, a2⟩ := write_map (ck2 := ck) hr hg hl hm
    have g6' : es'[j]? = some e' := by simpa using g6
    have g5' : es[j]? = some e := by simpa using g5
    refine ⟨.tuple #[v1, .int .i64 (e'.born : Nat)], M, _, ?_, ?_, a1, a2⟩
    · rw [g5', ← g7.1]; exact two g2
    · simp [Instr.mapEntry, run_underlying hu, run_getMap h1, hck, run_findKey hdu g1, g6', g8, keyThatStays_run g4, run_setMap h1, goInt]
  · rename_i hf
    cases h
    have hm : Entries M (es ++ [{ key := k, val := z, born := ck }]) (es'.push { key := k', val := z, born := ck }) := by
      have := (h2.toL.snoc (e := { key := k, val := z, born := ck }) (e' := { key := k', val := z, born := ck }) ⟨rfl, hk, VR.of_closed hzc⟩).ofL
      have he : (es'.toList ++ [(⟨k', z, ck⟩ : MapEntry)]).toArray = es'.push ⟨k', z, ck⟩ := by
        apply Array.ext'
        simp
      rwa [he] at this
    obtain ⟨a1, a2⟩ := write_map (ck2 := ck + 1) hr hg hl hm
    refine ⟨.tuple #[z, .int .i64 (ck : Nat)], M, _, two (VR.of_closed hzc), ?_, a1, a2⟩
    simp [Instr.mapEntry, run_underlying hu, run_getMap h1, hck, run_findKey hdu (f1 hf), run_setMap h1, run_tZero hze, goInt]
theorem entryStore_sound {t : TypeId} {x x' s s' v v' u : Value} {σ' : Store} (hx : VR M false x x') (hs : VR M false s s') (hv : VR M false v v') (hr : Rel M σ w) (h : entryStoreV x s v σ = some (u, σ')) :
    u = junk ∧ Did P σ M w (Instr.entryStore t x' s' v') σ' := by
  unfold entryStoreV at h
  split at h
  case h_2 => cases h
  rename_i r ik n
  obtain ⟨l, hl, rfl⟩ := VR.map_ hx
  have := hs.int_; subst this
  split at h
  case h_2 => cases h
  rename_i es ck hg
  obtain ⟨_, es', h1, h2⟩ := get_map hr hg hl
  split at h
  case h_2 => cases h
  rename_i i hi
  cases h
  have hi' : es'.findIdx? (fun e => decide ((e.born : Int) = n)) = some i := by
    have key : ∀ (as bs : List MapEntry) (i : Nat), EntriesL M as bs → as.findIdx? (fun e => decide ((e.born : Int) = n)) = some i → bs.findIdx? (fun e => decide ((e.born : Int) = n)) = some i := by
      intro as
      induction as with
      | nil => intro bs i _ h; simp at h
      | cons a as ih =>
        intro bs i hab h
        cases bs with
        | nil => simp [EntriesL] at hab
        | cons b bs =>
          obtain ⟨h0, h1⟩ := hab.tail
          rw [List.findIdx?_cons] at h ⊢
          rw [← h0.1]
          split
          · rename_i hc; rw [if_pos hc] at h; exact h
          · rename_i hc
            rw [if_neg hc] at h
            cases hx : as.findIdx? (fun e => decide ((e.born : Int) = n)) with
            | none => rw [hx] at h; simp at h
            | some j => rw [hx] at h; rw [ih bs j h1 hx]; exact h
    have h9 := key es es'.toList i h2.toL hi
    rw [← List.findIdx?_toArray] at h9
    simpa using h9
  have hi2 : es'.findIdx? (fun e => (e.born : Int) == n) = some i := by
    have he : (fun e : MapEntry => (e.born : Int) == n) = (fun e => decide ((e.born : Int) = n)) := by funext e; rfl
    rw [he]; exact hi'
  have hm : Entries M (es.modify i fun e => { e with val := v }) (es'.modify i fun e => { e with val := v' }) := by
    have := (h2.toL.modify i (f := fun e => { e with val := v }) (f' := fun e => { e with val := v' }) (fun a b hab => ⟨hab.1, hab.2.1, hv⟩)).ofL
    have he : (es'.toList.modify i fun e => { e with val := v' }).toArray = es'.modify i fun e => { e with val := v' } := by
      apply Array.ext'
      simp
    rwa [he] at this
  obtain ⟨a1, a2⟩ := write_map (ck2 := ck) hr hg hl hm
  refine ⟨rfl, M, _, ?_, a1, a2⟩
  simp [Instr.entryStore, run_getMap h1, asInt, asIntOf, hi2, run_setMap h1]
theorem delete_sound {t ty : TypeId} {ts : Array TypeId} {x x' k k' u : Value} {σ' : Store} (hts : ts[0]? = some t) (hx : VR M false x x') (hk : VR M false k k') (hr : Rel M σ w) (h : deleteV P t x k σ = some (u, σ')) :
    u = junk ∧ ∃ M' w', (Builtin.delete_ ts ty #[x', k']).run P w = .ok (.tuple #[]) w' ∧ Rel M' σ' w' ∧ Step σ M w σ' M' w' := by
  unfold deleteV at h
  split at h
  · rename_i kt et hu
    have := VR.scalar_eq (v := .map none) rfl hx
    subst this
    split at h
    case h_2 => cases h
    rename_i d hd
    cases h
    obtain ⟨hdu, hck⟩ := run_keyDesc hd
    exact ⟨rfl, M, w, by simp [Builtin.delete_, hts, run_underlying hu, hck], hr, Step.refl _ _ _⟩
  · rename_i kt et r hu
    obtain ⟨l, hl, rfl⟩ := VR.map_ hx
    split at h
    case h_2 => cases h
    rename_i d es ck hd hg
    obtain ⟨hdu, hck⟩ := run_keyDesc hd
    obtain ⟨_, es', h1, h2⟩ := get_map hr hg hl
    obtain ⟨f1, f2⟩ := findNow_sound (d := d) hk es es'.toList 0 h2.toL
    split at h
    · cases h
    · rename_i j v0 hf
      obtain ⟨v1, g1, g2, g3, g4, _, e, e', g5, g6, g7, g8⟩ := f2 j v0 hf
      cases h
      have hj : j < es'.size := by
        have g6' : es'[j]? = some e' := by simpa using g6
        exact (Array.getElem?_eq_some_iff.1 g6').1
      have hm : Entries M (es.eraseIdx j) (es'.eraseIdxIfInBounds j) := by
        have := (h2.toL.erase j).ofL
        have he : (es'.toList.eraseIdx j).toArray = es'.eraseIdxIfInBounds j := by
          apply Array.ext'
          simp [Array.eraseIdxIfInBounds, hj]
        rwa [he] at this
      obtain ⟨a1, a2⟩ := write_map (ck2 := ck) hr hg hl hm
      refine ⟨rfl, M, _, ?_, a1, a2⟩
      simp [Builtin.delete_, hts, run_underlying hu, run_getMap h1, hck, run_findKey hdu g1, run_setMap h1]
    · rename_i hf
      cases h
      obtain ⟨a1, a2⟩ := write_map (ck2 := ck) hr hg hl h2
      refine ⟨rfl, M, _, ?_, a1, a2⟩
      simp [Builtin.delete_, hts, run_underlying hu, run_getMap h1, hck, run_findKey hdu (f1 hf), run_setMap h1]
  · cases h
theorem clear_sound {t ty kt et : TypeId} {ts : Array TypeId} {x x' u : Value} {σ' : Store} (hts : ts[0]? = some t) (hu : P.underlying t = some (.map kt et)) (hx : VR M false x x') (hr : Rel M σ w) (h : clearV x σ = some (u, σ')) :
    u = junk ∧ ∃ M' w', (Builtin.clear_ ts ty #[x']).run P w = .ok (.tuple #[]) w' ∧ Rel M' σ' w' ∧ Step σ M w σ' M' w' := by
  unfold clearV at h
  split at h
  · have := VR.scalar_eq (v := .map none) rfl hx
    subst this
    cases h
    exact ⟨rfl, M, w, by simp [Builtin.clear_, hts, run_underlying hu], hr, Step.refl _ _ _⟩
  · rename_i r
    obtain ⟨l, hl, rfl⟩ := VR.map_ hx
    split at h
    case h_2 => cases h
    rename_i es ck hg
    cases h
    obtain ⟨_, es', h1, h2⟩ := get_map hr hg hl
    obtain ⟨a1, a2⟩ := write_map (es2 := []) (ck2 := ck) (es2' := #[]) hr hg hl ⟨rfl, fun i e e' he => by simp at he⟩
    exact ⟨rfl, M, _, by simp [Builtin.clear_, hts, run_underlying hu, run_getMap h1, run_setMap h1], a1, a2⟩
  · cases h
end Go.Am
end
section
/- The abstract machine, part 9: stores, append and copy are as the model has them. No program in sight. -/
set_option linter.all false
namespace Go.Am
open Go.RowKit
variable {P : Program} {M : Places} {σ : Store} {w : World}

theorem run_storeCells (b : Nat) (e : TypeId) (fz : Nat × Nat) : ∀ (vs : List Value) (o i : Nat) (arr : Array Value) (w : World), w.heap[b]? = some (.cells arr e fz) → o + i + vs.length ≤ arr.size → (fz = (0, 0) ∨ arr.size ≤ fz.1) → (∀ v ∈ vs, v.oneCell' = true) →
    ∃ arr', arr'.size = arr.size ∧ (∀ j, arr'[j]? = if o + i ≤ j ∧ j < o + i + vs.length then vs[j - (o + i)]? else arr[j]?) ∧ (storeCells ⟨b, o, none⟩ vs i).run P w = .ok () { w with heap := w.heap.setIfInBounds b (.cells arr' e fz) }
  | [], o, i, arr, w, hb, _, _, _ => ⟨arr, rfl, fun j => by simp; omega, by
    rw [setIf_same hb]; rfl⟩
  | v :: vs, o, i, arr, w, hb, hle, hf, h1 => by
    simp only [List.length_cons] at hle
    have hlt := (Array.getElem?_eq_some_iff.1 hb).1
    have hcell : w.cell? ⟨b, o + i, none⟩ = some arr[o + i] := by simp [World.cell?, hb]
    have hfr : w.frozen? ⟨b, o + i, none⟩ = false := by
      simp only [World.frozen?, hb]
      rcases hf with rfl | hf
      · simp
      · have : ¬ fz.1 ≤ o + i := by omega
        simp [this]
    have hset : w.setCell ⟨b, o + i, none⟩ v = { w with heap := w.heap.setIfInBounds b (.cells (arr.setIfInBounds (o + i) v) e fz) } := by
      unfold World.setCell
      congr 1
      apply Array.ext_getElem?
      intro j
      rw [Array.getElem?_modify, Array.getElem?_setIfInBounds]
      by_cases hj : b = j
      · subst hj
        have he : w.heap[b] = .cells arr e fz := (Array.getElem?_eq_some_iff.1 hb).2
        simp [hlt, he]
      · simp [hj]
    obtain ⟨arr', g1, g2, g3⟩ := run_storeCells b e fz vs o (i + 1) (arr.setIfInBounds (o + i) v) { w with heap := w.heap.setIfInBounds b (.cells (arr.setIfInBounds (o + i) v) e fz) } (by simp [hlt]) (by simp; omega) (by simpa using hf) (fun u hu => h1 u (List.mem_cons_of_mem _ hu))
    refine ⟨arr', by rw [g1]; simp, fun j => ?_, ?_⟩
    · rw [g2 j, Array.getElem?_setIfInBounds]
      simp only [List.length_cons]
      by_cases c1 : o + i = j
      · subst c1
        rw [if_neg (by omega), if_pos rfl, if_pos (by omega), if_pos (by omega)]
        simp
      · rw [if_neg c1]
        by_cases c2 : o + (i + 1) ≤ j ∧ j < o + (i + 1) + vs.length
        · rw [if_pos c2, if_pos (by omega), show j - (o + i) = (j - (o + (i + 1))) + 1 from by omega]
          rfl
        · rw [if_neg c2, if_neg (by omega)]
    · unfold storeCells
      simp only [Sem.run_bind, add_mk, run_store P w _ v _ (h1 v List.mem_cons_self), hcell, hfr, Bool.false_eq_true, if_false, Result.andThen_ok, hset, g3]
      simp

theorem Row.splice {c vs vs' : List Value} {arr arr' : Array Value} {base off : Nat} (h : Row M c arr base) (hv : Cells M vs vs') (hle : off + vs.length ≤ c.length)
    (h2 : ∀ j, arr'[j]? = if base + off ≤ j ∧ j < base + off + vs'.length then vs'[j - (base + off)]? else arr[j]?) : Row M (Am.splice c off vs) arr' base := by
  intro j v hj
  rw [getElem?_splice c vs off j hle] at hj
  rw [h2]
  have hl := hv.1
  by_cases c1 : off ≤ j ∧ j < off + vs.length
  · rw [if_pos c1] at hj
    rw [if_pos (by omega), show base + j - (base + off) = j - off from by omega]
    have hi : j - off < vs'.length := by omega
    exact ⟨vs'[j - off], List.getElem?_eq_getElem hi, hv.2 _ v _ hj (List.getElem?_eq_getElem hi)⟩
  · rw [if_neg c1] at hj
    rw [if_neg (by omega)]
    exact h j v hj
theorem splice_nil (c : List Value) (off : Nat) : Am.splice c off [] = c := by
  cases off with
  | zero => simp [Am.splice]
  | succ n => simp [Am.splice]
theorem Cells.oneCell {xs ys : List Value} (h : Cells M xs ys) : ∀ v ∈ ys, v.oneCell' = true := by
  intro v hv
  obtain ⟨i, hi, e⟩ := List.getElem_of_mem hv
  have hx : i < xs.length := by rw [h.1]; exact hi
  have := (h.2 i _ _ (List.getElem?_eq_getElem hx) (List.getElem?_eq_getElem hi)).one
  rw [e] at this
  cases v <;> first | rfl | cases this

/-- Cells are written. -/
theorem write_cells {i : Nat} {c : List Value} {g : Option Nat} (hr : Rel M σ w) (hi : σ.get i = some (.cells c g)) {l : Loc} (hl : M i = some l) {vs vs' : List Value} (hv : Cells M vs vs') {off : Nat} (hle : off + vs.length ≤ c.length) :
    ∃ w', (storeCells ⟨l.block, l.base + off, none⟩ vs').run P w = .ok () w' ∧ Rel M (σ.put i (some (.cells (splice c off vs) g))) w' ∧ Step σ M w (σ.put i (some (.cells (splice c off vs) g))) M w' := by
  obtain ⟨l', h1, hs⟩ := hr.shows i _ hi
  rw [hl] at h1; cases h1
  cases vs' with
  | nil =>
    have : vs = [] := List.eq_nil_of_length_eq_zero (by rw [hv.1]; rfl)
    subst this
    obtain ⟨a1, a2⟩ := hr.write (o' := .cells (splice c off []) g) hi hl rfl rfl rfl (fun _ _ => rfl) (by rw [splice_nil]; exact hs) rfl rfl rfl
    exact ⟨w, rfl, a1, a2⟩
  | cons v vs'' =>
    obtain ⟨hg, arr, e, fz, h2, h3, h4, h5⟩ := hs
    have hlen := hv.1
    simp only [List.length_cons] at hlen
    have hrow := h3.le (by omega)
    obtain ⟨arr', g1, g2, g3⟩ := run_storeCells (P := P) l.block e fz (v :: vs'') (l.base + off) 0 arr w h2 (by simp; omega) (h4.imp id (·.2)) hv.oneCell
    refine ⟨_, g3, hr.write (o' := .cells (splice c off vs) g) hi hl rfl rfl (by simp) (fun b hb => by simp [Array.getElem?_setIfInBounds_ne (Ne.symm hb)]) ⟨hg, arr', e, fz, ?_, ?_, ?_, ?_⟩ rfl rfl rfl⟩
    · have hlt := (Array.getElem?_eq_some_iff.1 h2).1
      simp [hlt]
    · exact h3.splice hv hle (fun j => by rw [g2 j, Nat.add_zero])
    · rw [g1]; exact h4
    · rw [g1]; exact h5

theorem store_sound {t : TypeId} {n : Nat} {x x' v v' u : Value} {σ' : Store} (hn : tSize P t = some n) (hx : VR M false x x') (hv : VR M false v v') (hr : Rel M σ w) (h : storeV n x v σ = some (u, σ')) :
    u = junk ∧ Did P σ M w (Instr.storeAt t x' v') σ' := by
  unfold storeV at h
  split at h
  case h_2 => cases h
  rename_i i o vs hvs
  obtain ⟨_, l, hl, rfl⟩ := VR.ptr_ hx
  split at h
  case h_2 => cases h
  rename_i c g hg
  cases hle : Nat.ble (o + n) c.length <;> rw [hle] at h <;> simp only [cond_true, cond_false] at h
  case false => cases h
  have hle' := Nat.le_of_ble_eq_true hle
  cases h
  obtain ⟨hc, hlen⟩ := asCells_some hvs
  have hcv := VR.cells_ hv hc
  obtain ⟨w', a1, a2, a3⟩ := write_cells (P := P) hr hg hl hcv (off := o) (by omega)
  refine ⟨rfl, M, w', ?_, a2, a3⟩
  have hsz : v'.cells.size = n := by rw [← hlen, hcv.1]; simp
  simp [Instr.storeAt, Instr.sureAddr, storeVar, run_tSize hn, hsz, a1]

/-! ## append -/
theorem growBy_le (newLen : Nat) : ∀ (r c : Nat), 256 ≤ c → c ≤ 2 * newLen → Builtin.growBy newLen r c ≤ 2 * newLen
  | 0, c, _, h => h
  | r + 1, c, h0, h => by
    unfold Builtin.growBy
    split
    · exact h
    · exact growBy_le newLen r _ (by omega) (by omega)
theorem nextslicecap_le (need c : Nat) (h : c < need) : Builtin.nextslicecap need c ≤ 2 * need := by
  unfold Builtin.nextslicecap
  split
  · omega
  · split
    · omega
    · exact growBy_le need 4 c (by omega) (by omega)
theorem lenV_sound {x x' : Value} {m : Nat} (hx : VR M false x x') (h : lenV x = some m) (w : World) : (Builtin.lenOf x').run P w = .ok m w := by
  unfold lenV at h
  split at h
  · rename_i a n c
    cases h
    cases a with
    | none => have := VR.scalar_eq (v := .slice none m c) rfl hx; subst this; rfl
    | some a => obtain ⟨l, c', _, rfl, _⟩ := VR.slice_ (i := a.block) (o := a.off) (s := a.spot) hx; rfl
  · cases h; have := hx.string_; subst this; rfl
  · cases h
theorem cell_heap {w w' : World} (h : w'.heap = w.heap) (a : Addr) : w'.cell? a = w.cell? a := by unfold World.cell?; rw [h]
theorem cellsAt_sound {i o : Nat} {s : Option Nat} {c : List Value} (hr : Rel M σ w) {l : Loc} (hl : M i = some l) (h : cellsAt ⟨i, o, s⟩ σ = some c) {n : Nat} (hn : n ≤ c.length) :
    ∃ ys, Cells M (c.take n) ys ∧ ∀ w' : World, w'.heap = w.heap → (loadCells ⟨l.block, l.base + o, none⟩ n).run P w' = .ok ys.toArray w' := by
  have fin : ∀ (c0 : List Value), (∀ (j : Nat) (v : Value), c0[j]? = some v → ∃ v', w.cell? ⟨l.block, l.base + j, none⟩ = some v' ∧ VR M true v v') → c = c0.drop o →
      ∃ ys, Cells M (c.take n) ys ∧ ∀ w' : World, w'.heap = w.heap → (loadCells ⟨l.block, l.base + o, none⟩ n).run P w' = .ok ys.toArray w' := fun c0 h0 e => by
    subst e
    obtain ⟨ys, h1, h2⟩ := read_list h0 ((c0.drop o).take n) o (fun j v hv => by
      rw [List.getElem?_take] at hv
      split at hv
      · rwa [List.getElem?_drop] at hv
      · cases hv)
    have hlen : ys.length = n := by rw [← h1.1]; simp at hn ⊢; omega
    exact ⟨ys, h1, fun w' hw => run_loadCells _ ys w' (fun j v hv => by rw [add_mk, cell_heap hw]; exact h2 j v hv) hlen⟩
  unfold cellsAt at h
  split at h
  · rename_i c0 g hg; cases h; exact fin c0 (get_cells hr hg (.inl ⟨g, rfl⟩) hl) rfl
  · rename_i c0 hg; cases h; exact fin c0 (get_cells hr hg (.inr rfl) hl) rfl
  · cases h
theorem source_sound {sz n : Nat} {x x' : Value} {news : List Value} (hr : Rel M σ w) (hx : VR M false x x') (h : sourceV sz n x σ = some news) :
    ∃ ys, Cells M news ys ∧ news.length = n * sz ∧ ∀ w' : World, w'.heap = w.heap → (Builtin.firstCells sz n x').run P w' = .ok ys.toArray w' := by
  unfold sourceV at h
  split at h
  · rename_i n0 c
    have := VR.scalar_eq (v := .slice none n0 c) rfl hx; subst this
    cases hn : n == 0 <;> rw [hn] at h <;> simp at h
    subst h
    have hn' : n = 0 := by simpa using hn
    subst hn'
    exact ⟨[], Cells.nil, by simp, fun w' _ => rfl⟩
  · rename_i a n0 c0
    obtain ⟨l, c', hl, rfl, _⟩ := VR.slice_ (i := a.block) (o := a.off) (s := a.spot) hx
    split at h
    case h_2 => cases h
    rename_i c hc
    cases hle : Nat.ble (n * sz) c.length <;> rw [hle] at h <;> simp only [cond_true, cond_false] at h
    case false => cases h
    cases h
    have hle' := Nat.le_of_ble_eq_true hle
    obtain ⟨ys, h1, h2⟩ := cellsAt_sound (P := P) hr hl hc hle'
    exact ⟨ys, h1, by simp; omega, fun w' hw => h2 w' hw⟩
  · rename_i s
    have := hx.string_; subst this
    cases hc : (sz == 1 && Nat.ble n s.size) <;> rw [hc] at h <;> simp only [cond_true, cond_false] at h
    case false => cases h
    cases h
    simp only [Bool.and_eq_true, beq_iff_eq] at hc
    obtain ⟨rfl, hle⟩ := hc
    have hle' := Nat.le_of_ble_eq_true hle
    have hsz : s.data.toList.length = s.size := by simp
    refine ⟨_, Cells.of_closed (xs := (s.data.toList.take n).map fun b => .int .u8 b.toNat) (by
      rw [List.all_eq_true]
      intro x hx
      obtain ⟨b, _, rfl⟩ := List.mem_map.1 hx
      rfl), by simp; omega, fun w' _ => ?_⟩
    simp only [Builtin.firstCells, Sem.run_pure, Result.ok.injEq, and_true]
    apply Array.ext'
    simp [ByteArray.data_extract]
  · cases h
/-- A new row behind an append. -/
theorem grow_sound {t ty el : TypeId} {ts : Array TypeId} {sz bytes n m c' : Nat} {base : Option Addr} {x' : Value} {olds olds' news news' ze : List Value} (hts : ts[0]? = some t) (ht1 : ∃ t1, ts[1]? = some t1 ∧ ∃ d, P.underlying t1 = some d ∧ ∀ k, d ≠ .int k)
    (hu : P.underlying t = some (.slice el)) (hsz : tSize P el = some sz) (hby : tBytes P el = some bytes) (hze : tZeros P el = some ze) (hzl : ze.length = sz)
    (hr : Rel M σ w) (hlen : ∀ w, (Builtin.lenOf x').run P w = .ok m w) (ho : Cells M olds olds') (hol : olds.length = n * sz) (hof : ∀ w' : World, w'.heap = w.heap → (Builtin.firstCells sz n (.slice base n c')).run P w' = .ok olds'.toArray w')
    (hn : Cells M news news') (hnl : news.length = m * sz) (hnf : ∀ w' : World, w'.heap = w.heap → (Builtin.firstCells sz m x').run P w' = .ok news'.toArray w')
    (hgt : c' < n + m) (hb : (n + m) * bytes ≤ 140737488355328) (h63 : n + m ≤ 9223372036854775807) :
    ∃ v' w' M', (Builtin.append_ ts ty #[.slice base n c', x']).run P w = .ok v' w' ∧ VR M' false (.slice (some ⟨σ.next, 0, some sz⟩) (n + m) (n + m)) v' ∧ Rel M' (σ.push (.cells (olds ++ news) (some sz))) w' ∧ Step σ M w (σ.push (.cells (olds ++ news) (some sz))) M' w' := by
  obtain ⟨t1, ht1, d, hd, hdi⟩ := ht1
  obtain ⟨i, hi, hib, hit⟩ := run_tBytes hby w
  obtain ⟨zv, hz1, hz2, hz3⟩ := tZeros_run hze
  have hcap := nextslicecap_le (n + m) c' hgt
  have hcapb : Builtin.nextslicecap (n + m) c' * bytes ≤ 2 ^ 48 := by
    have h1 : Builtin.nextslicecap (n + m) c' * bytes ≤ 2 * (n + m) * bytes := Nat.mul_le_mul_right _ hcap
    have h2 : 2 * (n + m) * bytes = 2 * ((n + m) * bytes) := Nat.mul_assoc _ _ _
    omega
  obtain ⟨q, hq⟩ : ∃ q : Question, q = .appendCap (n + m) c' el := ⟨_, rfl⟩
  obtain ⟨nc, hnc⟩ : ∃ nc : Nat, nc = q.cut (w.tape w.drawn q) := ⟨_, rfl⟩
  have hncge : n + m ≤ nc := by rw [hnc, hq]; simp [Question.cut]
  obtain ⟨w1, hw1⟩ : ∃ w1 : World, w1 = { w with drawn := w.drawn + 1 } := ⟨_, rfl⟩
  have hchoose : (choose (.appendCap (n + m) c' el)).run P w = .ok nc w1 := by rw [hnc, hq, hw1]; simp [run_choose, Question.forced]
  have hti : ∀ w, (typeInfo el).run P w = .ok i w := fun w => by simp [typeInfo, hi]
  have hnot : ¬ (((n + m : Nat) : Int) > IntKind.i64.max ∧ (false = true ∨ i.bytes = 0)) := by rw [IntKind.max_i64]; omega
  have hnot2 : ¬ Builtin.nextslicecap (n + m) c' * i.bytes > 2 ^ 48 := by rw [hib]; omega
  have hle : ¬ n + m ≤ c' := by omega
  have hmint : (match d with | .int _ => true | _ => false) = false := by cases d <;> first | rfl | exact absurd rfl (hdi _)
  have hrun : (Builtin.append_ ts ty #[.slice base n c', x']).run P w = .ok (.slice (some ⟨w.heap.size, 0, none⟩) (n + m) nc) { w1 with heap := w1.heap.push (.cells (olds'.toArray ++ news'.toArray ++ Builtin.zeroCells zv.cells (nc - (n + m))) el) } := by
    have hh1 : w1.heap = w.heap := by rw [hw1]
    unfold Builtin.append_
    simp only [hts, ht1, List.getElem?_toArray, List.getElem?_cons_zero, List.getElem?_cons_succ, Sem.run_bind, run_underlying hu, Result.andThen_ok, run_tSize hsz, run_underlying hd, Sem.run_pure, Bool.false_eq_true, if_false, hlen, hle]
    have hnotA : ¬ (9223372036854775807 < (n : Int) + (m : Int) ∧ bytes = 0) := by omega
    have hnotB : ¬ 281474976710656 < Builtin.nextslicecap (n + m) c' * bytes := by omega
    have hqf : q.forced = false := by rw [hq]; rfl
    have hd1 : w1 = w.drew := by rw [hw1]; rfl
    subst hd1
    simp [newRow, hnotA, hnotB, hti, hib, ← hq, ← hnc, hqf, hof w.drew hh1, hnf w.drew hh1, hz3]
    have e9 : olds'.toArray ++ (news'.toArray ++ Builtin.zeroCells zv.cells (nc - (n + m))) = (olds' ++ news').toArray ++ Builtin.zeroCells zv.cells (nc - (n + m)) := by
      apply Array.ext'
      simp
    rw [e9]
    rfl
  obtain ⟨x, hx⟩ : ∃ x : Obj, x = .cells (olds'.toArray ++ news'.toArray ++ Builtin.zeroCells zv.cells (nc - (n + m))) el := ⟨_, rfl⟩
  obtain ⟨w2, hw2⟩ : ∃ w2 : World, w2 = { w1 with heap := w1.heap.push x } := ⟨_, rfl⟩
  have hheap : w2.heap = w.heap.push x := by rw [hw2, hw1]
  have hsh : Shows M w2 ⟨w.heap.size, 0, some (sz, nc * sz)⟩ (.cells (olds ++ news) (some sz)) := by
    refine ⟨rfl, _, el, (0, 0), by rw [hheap, ← hx]; exact Array.getElem?_push_size, fun j v hv => ?_, .inl rfl, fun sz' room h => ?_⟩
    · have hc := ho.append hn
      have hj : j < (olds' ++ news').length := by rw [← hc.1]; exact (List.getElem?_eq_some_iff.1 hv).1
      refine ⟨(olds' ++ news')[j], ?_, hc.2 j v _ hv (List.getElem?_eq_getElem hj)⟩
      have hj' : j < olds'.length + news'.length := by simpa using hj
      rw [Array.getElem?_append]
      simp only [Nat.zero_add, List.append_toArray, List.size_toArray]
      rw [if_pos hj]
      simp
    · simp only [Option.some.injEq, Prod.mk.injEq] at h
      obtain ⟨rfl, rfl⟩ := h
      have e1 : olds'.length = n * sz := by rw [← ho.1, hol]
      have e2 : news'.length = m * sz := by rw [← hn.1, hnl]
      have e3 : zv.cells.size = sz := by rw [hz2]; simp [hzl]
      simp [Builtin.zeroCells, e1, e2, e3]
      rw [← Nat.add_mul, ← Nat.add_mul]
      exact Nat.le_of_eq (by congr 1; omega)
  obtain ⟨a1, a2⟩ := hr.push (l := ⟨w.heap.size, 0, some (sz, nc * sz)⟩) rfl hheap rfl hsh (by rw [hw2, hw1]) (by rw [hw2, hw1]) (by rw [hw2, hw1])
  rw [← hx] at hrun
  rw [hw2] at a1 a2
  exact ⟨_, _, _, hrun, .cell _ _ (.grown _ 0 (n + m) (n + m) nc sz (nc * sz) w.heap.size 0 (Places.upd_same _ _ _) hncge (by simp)), a1, a2⟩
theorem append_fits_run {t ty el : TypeId} {ts : Array TypeId} {sz n m c' : Nat} {base : Option Addr} {x' : Value} {news' : List Value} (hts : ts[0]? = some t) (ht1 : ∃ t1, ts[1]? = some t1 ∧ ∃ d, P.underlying t1 = some d ∧ ∀ k, d ≠ .int k)
    (hu : P.underlying t = some (.slice el)) (hsz : tSize P el = some sz) (hlen : ∀ w, (Builtin.lenOf x').run P w = .ok m w) (hnf : (Builtin.firstCells sz m x').run P w = .ok news'.toArray w) (hle : n + m ≤ c') :
    (Builtin.append_ ts ty #[.slice base n c', x']).run P w = ((match base with | some a => storeCells (a.add (n * sz)) news' | none => pure () : Sem Unit).run P w).andThen fun _ w' => .ok (.slice base (n + m) c') w' := by
  obtain ⟨t1, ht1, d, hd, hdi⟩ := ht1
  have hmint : (match d with | .int _ => true | _ => false) = false := by cases d <;> first | rfl | exact absurd rfl (hdi _)
  unfold Builtin.append_
  cases base <;> simp [hts, ht1, run_underlying hu, run_tSize hsz, run_underlying hd, hmint, hlen, hle, hnf]
theorem append_sound {t ty el : TypeId} {ts : Array TypeId} {sz bytes : Nat} {s s' x x' u : Value} {ze : List Value} {σ' : Store} (hts : ts[0]? = some t) (ht1 : ∃ t1, ts[1]? = some t1 ∧ ∃ d, P.underlying t1 = some d ∧ ∀ k, d ≠ .int k)
    (hu : P.underlying t = some (.slice el)) (hsz : tSize P el = some sz) (hby : tBytes P el = some bytes) (hze : tZeros P el = some ze) (hzl : ze.length = sz) (hs : VR M false s s') (hx : VR M false x x') (hr : Rel M σ w) (h : appendV sz bytes s x σ = some (u, σ')) :
    ∃ u' w' M', (Builtin.append_ ts ty #[s', x']).run P w = .ok u' w' ∧ VR M' false u u' ∧ Rel M' σ' w' ∧ Step σ M w σ' M' w' := by
  unfold appendV at h
  split at h
  · cases h
  rename_i m hm
  have hlen := fun w => lenV_sound (P := P) hx hm w
  split at h
  · cases h
  rename_i news hnews
  obtain ⟨news', hn1, hn2, hn3⟩ := source_sound (P := P) hr hx hnews
  split at h
  · -- nil
    have := VR.scalar_eq (v := .slice none 0 0) rfl hs
    subst this
    split at h
    · cases h
      refine ⟨.slice none (0 + 0) 0, w, M, ?_, .cell _ _ (.scalar _ rfl), hr, Step.refl _ _ _⟩
      rw [append_fits_run hts ht1 hu hsz hlen (hn3 w rfl) (by omega)]
      simp
    · rename_i hm0
      cases hc : (Nat.ble (m * bytes) 140737488355328 && Nat.ble m 9223372036854775807) <;> rw [hc] at h <;> simp only [cond_true, cond_false] at h
      case false => cases h
      simp only [Bool.and_eq_true] at hc
      have hc1 := Nat.le_of_ble_eq_true hc.1
      have hc2 := Nat.le_of_ble_eq_true hc.2
      cases h
      have hmpos : 0 < m := Nat.pos_of_ne_zero fun e => hm0 e
      obtain ⟨v', w', M', a1, a2, a3, a4⟩ := grow_sound (P := P) (ty := ty) (n := 0) (c' := 0) (base := none) (olds := []) (olds' := []) hts ht1 hu hsz hby hze hzl hr hlen Cells.nil (by simp) (fun w' _ => rfl) hn1 hn2 hn3 (by omega) (by simpa using hc1) (by simpa using hc2)
      simp only [List.nil_append, Nat.zero_add] at a2 a3 a4
      exact ⟨v', w', M', a1, a2, a3, a4⟩
  · rename_i i o g n c
    obtain ⟨l, c', hl, rfl, hcc, hor⟩ := VR.slice_ hs
    have same : ∀ k, VR M false (.slice (some ⟨i, o, g⟩) k c) (.slice (some ⟨l.block, l.base + o, none⟩) k c') := fun k => by
      rcases hor with ⟨rfl, rfl⟩ | ⟨sz', room, rfl, hg, hroom⟩
      · exact .cell _ _ (.slice i o k _ l hl)
      · obtain ⟨lb, lbase, lg⟩ := l
        simp only at hg
        subst hg
        exact .cell _ _ (.grown i o k c c' sz' room lb lbase hl hcc hroom)
    have nothing : m = 0 → n ≤ c → ∃ u' w' M', (Builtin.append_ ts ty #[.slice (some ⟨l.block, l.base + o, none⟩) n c', x']).run P w = .ok u' w' ∧ VR M' false (.slice (some ⟨i, o, g⟩) n c) u' ∧ Rel M' σ w' ∧ Step σ M w σ M' w' := fun hm0 hnc => by
      subst hm0
      have hnil : news' = [] := List.eq_nil_of_length_eq_zero (by rw [← hn1.1, hn2]; simp)
      subst hnil
      refine ⟨.slice (some ⟨l.block, l.base + o, none⟩) (n + 0) c', w, M, ?_, same n, hr, Step.refl _ _ _⟩
      rw [append_fits_run hts ht1 hu hsz hlen (hn3 w rfl) (by omega)]
      simp [storeCells]
    split at h
    · -- cells
      rename_i cs g' hg
      cases hgg : (g == none || (g == some sz && g' == some sz)) <;> rw [hgg] at h <;> simp only [cond_true, cond_false] at h
      case false => cases h
      split at h
      · cases hnc : Nat.ble n c <;> rw [hnc] at h <;> simp only [cond_true, cond_false] at h
        case false => cases h
        cases h
        exact nothing rfl (Nat.le_of_ble_eq_true hnc)
      · rename_i hm0
        have hmpos : 0 < m := Nat.pos_of_ne_zero fun e => hm0 e
        cases hfit : Nat.ble (n + m) c <;> rw [hfit] at h <;> simp only [cond_true, cond_false] at h
        case true =>
          have hfit' := Nat.le_of_ble_eq_true hfit
          cases hle : Nat.ble (o + (n + m) * sz) cs.length <;> rw [hle] at h <;> simp only [cond_true, cond_false] at h
          case false => cases h
          have hle' := Nat.le_of_ble_eq_true hle
          cases h
          have e1 : (n + m) * sz = n * sz + m * sz := Nat.add_mul _ _ _
          obtain ⟨w', a1, a2, a3⟩ := write_cells (P := P) hr hg hl hn1 (off := o + n * sz) (by omega)
          refine ⟨_, w', M, ?_, same (n + m), a2, a3⟩
          rw [append_fits_run hts ht1 hu hsz hlen (hn3 w rfl) (by omega)]
          simp only [add_mk, Nat.add_assoc, a1, Result.andThen_ok]
        case false =>
          have hfit' : ¬ n + m ≤ c := fun h => by rw [Nat.ble_eq_true_of_le h] at hfit; cases hfit
          cases hc : (Nat.ble ((n + m) * bytes) 140737488355328 && Nat.ble (n + m) 9223372036854775807 && Nat.ble (o + n * sz) cs.length) <;> rw [hc] at h <;> simp only [cond_true, cond_false] at h
          case false => cases h
          simp only [Bool.and_eq_true] at hc
          have hc1 := Nat.le_of_ble_eq_true hc.1.1
          have hc2 := Nat.le_of_ble_eq_true hc.1.2
          have hc3 := Nat.le_of_ble_eq_true hc.2
          have hca : cellsAt ⟨i, o, g⟩ σ = some (cs.drop o) := by simp [cellsAt, hg]
          obtain ⟨olds', ho1, ho2⟩ := cellsAt_sound (P := P) hr hl hca (n := n * sz) (by simp; omega)
          have hol : ((cs.drop o).take (n * sz)).length = n * sz := by simp; omega
          have hof : ∀ w' : World, w'.heap = w.heap → (Builtin.firstCells sz n (.slice (some ⟨l.block, l.base + o, none⟩) n c')).run P w' = .ok olds'.toArray w' := fun w' hw => ho2 w' hw
          rcases hor with ⟨rfl, rfl⟩ | ⟨sz', room, rfl, hgr, hroom⟩
          · cases h
            obtain ⟨v', w', M', a1, a2, a3, a4⟩ := grow_sound (P := P) (ty := ty) hts ht1 hu hsz hby hze hzl hr hlen ho1 hol hof hn1 hn2 hn3 (by omega) hc1 hc2
            exact ⟨v', w', M', a1, a2, a3, a4⟩
          · cases h
            have hsz' : sz' = sz := by simp at hgg; exact hgg.1
            subst hsz'
            have hlt := Store.lt_of_get hg
            by_cases hin : n + m ≤ c'
            · obtain ⟨l', h1, hsh⟩ := hr.shows i _ hg
              rw [hl] at h1; cases h1
              obtain ⟨hgm, arr, e, fz, h2, h3, h4, h5⟩ := hsh
              have hroom2 := h5 sz' room hgr
              have e1 : (n + m) * sz' = n * sz' + m * sz' := Nat.add_mul _ _ _
              have e2 : (n + m) * sz' ≤ c' * sz' := Nat.mul_le_mul_right _ hin
              have hnl' : news'.length = m * sz' := by rw [← hn1.1, hn2]
              obtain ⟨arr', q1, q2, q3⟩ := run_storeCells (P := P) l.block e fz news' (l.base + o + n * sz') 0 arr w h2 (by omega) (h4.imp id (·.2)) hn1.oneCell
              obtain ⟨a1, a2⟩ := hr.hand (w' := { w with heap := w.heap.setIfInBounds l.block (.cells arr' e fz) }) (o' := .cells ((cs.drop o).take (n * sz') ++ news) (some sz')) (l' := ⟨l.block, l.base + o, some (sz', room - o)⟩) hg hl rfl rfl rfl (by simp) (fun b hb => by simp [Array.getElem?_setIfInBounds_ne (Ne.symm hb)])
                ⟨rfl, arr', e, fz, by
                  have hlt := (Array.getElem?_eq_some_iff.1 h2).1
                  simp [hlt], fun j v hv => by
                  rw [List.getElem?_append, hol] at hv
                  show ∃ v', arr'[l.base + o + j]? = some v' ∧ VR M true v v'
                  rw [q2, Nat.add_zero]
                  by_cases hj : j < n * sz'
                  · rw [if_pos hj] at hv
                    rw [if_neg (by omega)]
                    rw [List.getElem?_take, if_pos hj, List.getElem?_drop] at hv
                    have := h3 (o + j) v hv
                    rwa [← Nat.add_assoc] at this
                  · rw [if_neg hj] at hv
                    have hjl : j - n * sz' < news'.length := by rw [← hn1.1]; exact (List.getElem?_eq_some_iff.1 hv).1
                    rw [if_pos (by omega), show l.base + o + j - (l.base + o + n * sz') = j - n * sz' from by omega]
                    exact ⟨news'[j - n * sz'], List.getElem?_eq_getElem hjl, hn1.2 _ v _ hv (List.getElem?_eq_getElem hjl)⟩, by
                  rw [q1]; exact h4.imp id (fun h => ⟨by simp, h.2⟩), fun s2 r2 h => by
                  simp only [Option.some.injEq, Prod.mk.injEq] at h
                  obtain ⟨rfl, rfl⟩ := h
                  rw [q1]; simp only; omega⟩ rfl rfl rfl
              refine ⟨.slice (some ⟨l.block, l.base + o, none⟩) (n + m) c', _, _, ?_, ?_, a1, a2⟩
              · rw [append_fits_run hts ht1 hu hsz hlen (hn3 w rfl) hin]
                simp only [add_mk, q3, Result.andThen_ok]
              · exact .cell _ _ (.grown σ.next 0 (n + m) (n + m) c' sz' (room - o) l.block (l.base + o) (Places.upd_same _ _ _) hin (by omega))
            · obtain ⟨b1, b2⟩ := hr.forget hlt
              obtain ⟨v', w', M', a1, a2, a3, a4⟩ := grow_sound (P := P) (ty := ty) hts ht1 hu hsz hby hze hzl b1 hlen ho1 hol hof hn1 hn2 hn3 (by omega) hc1 hc2
              rw [Store.next_put_lt _ _ hlt] at a2
              exact ⟨v', w', M', a1, a2, a3, b2.trans a4⟩
    · -- lent
      rename_i cs hg
      split at h
      · cases hnc : (g.isNone && Nat.ble n c) <;> rw [hnc] at h <;> simp only [cond_true, cond_false] at h
        case false => cases h
        cases h
        simp only [Bool.and_eq_true] at hnc
        exact nothing rfl (Nat.le_of_ble_eq_true hnc.2)
      · rename_i hm0
        cases hfit : (Nat.ble (n + m) c || g.isSome) <;> rw [hfit] at h <;> simp only [cond_true, cond_false] at h
        case true => cases h
        simp only [Bool.or_eq_false_iff] at hfit
        have hfit' : ¬ n + m ≤ c := fun h => by have := hfit.1; rw [Nat.ble_eq_true_of_le h] at this; cases this
        cases hc : (Nat.ble ((n + m) * bytes) 140737488355328 && Nat.ble (n + m) 9223372036854775807 && Nat.ble (o + n * sz) cs.length) <;> rw [hc] at h <;> simp only [cond_true, cond_false] at h
        case false => cases h
        simp only [Bool.and_eq_true] at hc
        have hc1 := Nat.le_of_ble_eq_true hc.1.1
        have hc2 := Nat.le_of_ble_eq_true hc.1.2
        have hc3 := Nat.le_of_ble_eq_true hc.2
        have hca : cellsAt ⟨i, o, g⟩ σ = some (cs.drop o) := by simp [cellsAt, hg]
        obtain ⟨olds', ho1, ho2⟩ := cellsAt_sound (P := P) hr hl hca (n := n * sz) (by simp; omega)
        have hol : ((cs.drop o).take (n * sz)).length = n * sz := by simp; omega
        have hof : ∀ w' : World, w'.heap = w.heap → (Builtin.firstCells sz n (.slice (some ⟨l.block, l.base + o, none⟩) n c')).run P w' = .ok olds'.toArray w' := fun w' hw => ho2 w' hw
        rcases hor with ⟨rfl, rfl⟩ | ⟨sz', room, rfl, _, _⟩
        · cases h
          obtain ⟨v', w', M', a1, a2, a3, a4⟩ := grow_sound (P := P) (ty := ty) hts ht1 hu hsz hby hze hzl hr hlen ho1 hol hof hn1 hn2 hn3 (by omega) hc1 hc2
          exact ⟨v', w', M', a1, a2, a3, a4⟩
        · simp at hfit
    · cases h
  · cases h

/-! ## ranging over a map -/
theorem range_sound {t : TypeId} {x x' u : Value} {σ' : Store} (hx : VR M false x x') (hr : Rel M σ w) (h : rangeV P t x σ = some (u, σ')) :
    ∃ u' M' w', VR M' false u u' ∧ (Instr.range t x').run P w = .ok u' w' ∧ Rel M' σ' w' ∧ Step σ M w σ' M' w' := by
  unfold rangeV at h
  split at h
  · rename_i kt et hu
    cases h
    have hx' : x' = .map none := VR.scalar_eq rfl hx
    subst hx'
    obtain ⟨a1, a2⟩ := hr.push (w' := w.alloc (.mapIter none 0 #[] 0)) (o := .iter none 0 [] 0) (l := ⟨w.heap.size, 0, none⟩) (x := .mapIter none 0 #[] 0) rfl rfl rfl ⟨rfl, rfl, none, heap_alloc_new _ _, trivial⟩ rfl rfl rfl
    exact ⟨.pointer (some ⟨w.heap.size, 0, none⟩), _, _, .cell _ _ (.ptr σ.next 0 ⟨w.heap.size, 0, none⟩ (Places.upd_same _ _ _)), run_range_nilMap w t kt et hu, a1, a2⟩
  · rename_i kt et i hu
    obtain ⟨l, hl, rfl⟩ := VR.map_ hx
    split at h
    · rename_i es ck hg
      cases h
      obtain ⟨_, es', h1, h2⟩ := get_map hr hg hl
      obtain ⟨a1, a2⟩ := hr.push (w' := w.alloc (.mapIter (some l.block) ck #[] ck)) (o := .iter (some i) ck [] ck) (l := ⟨w.heap.size, 0, none⟩) (x := .mapIter (some l.block) ck #[] ck) rfl rfl rfl ⟨rfl, rfl, some l.block, heap_alloc_new _ _, l, hl, rfl⟩ rfl rfl rfl
      exact ⟨.pointer (some ⟨w.heap.size, 0, none⟩), _, _, .cell _ _ (.ptr σ.next 0 ⟨w.heap.size, 0, none⟩ (Places.upd_same _ _ _)), run_range_map w t kt et l.block es' ck hu h1, a1, a2⟩
    · cases h
  · cases h
theorem next_sound {x x' : Value} {ls : List (Value × Store)} (ty : TypeId) (hx : VR M false x x') (hr : Rel M σ w) (h : nextL x σ = some ls) :
    ∃ v σ' M' w' v', (v, σ') ∈ ls ∧ (Instr.next x' false ty).run P w = .ok v' w' ∧ VR M' false v v' ∧ Rel M' σ' w' ∧ Step σ M w σ' M' w' := by
  unfold nextL at h
  split at h
  case h_2 => cases h
  rename_i i
  obtain ⟨_, l, hl, rfl⟩ := VR.ptr_ hx
  have hno : VR M false (.tuple #[.bool false]) (.tuple #[.bool false]) := .tuple _ _ rfl fun k a b ha hb => by
    rw [ha] at hb; cases hb
    match k, ha with
    | 0, ha => cases ha; exact .cell _ _ (.scalar _ rfl)
  split at h
  · rename_i since seen ck hg
    cases h
    obtain ⟨l2, hl2, hgr, hb0, mb, hb, hm⟩ := hr.shows i _ hg
    rw [hl] at hl2; cases hl2
    cases mb with
    | some b => exact hm.elim
    | none =>
      refine ⟨_, σ, M, w, .tuple #[.bool false], List.mem_singleton.2 rfl, ?_, hno, hr, Step.refl _ _ _⟩
      rw [hb0]
      simp only [Instr.next, getObj, Sem.run_bind, Sem.run, hb, Result.andThen]
      rfl
  · rename_i m since seen c0 hg
    split at h
    case h_2 => cases h
    rename_i es ck hgm
    cases hc : ((es.all fun e => Nat.blt e.born since) && Nat.ble since c0 && Nat.beq c0 ck) <;> rw [hc] at h
    · cases h
    simp only [cond_true] at h
    simp only [Bool.and_eq_true, List.all_eq_true] at hc
    obtain ⟨⟨hc1, hc2⟩, hc3⟩ := hc
    have hc2 := Nat.le_of_ble_eq_true hc2
    have hc3 := Nat.eq_of_beq_eq_true hc3
    subst hc3
    obtain ⟨l2, hl2, hgr, hb0, mb, hb, hm⟩ := hr.shows i _ hg
    rw [hl] at hl2; cases hl2
    cases mb with
    | none => exact hm.elim
    | some bm =>
    obtain ⟨lm, hlm, rfl⟩ := hm
    obtain ⟨_, es', hb', hes⟩ := get_map hr hgm hlm
    have hold : ∀ e ∈ es'.toList, e.born < since := fun e he => by
      obtain ⟨k, hk, e1⟩ := List.getElem_of_mem he
      have hk' : k < es.length := by have := hes.1; simp at hk; omega
      have h1 := (hes.2 k es[k] e (List.getElem?_eq_getElem hk') (by rw [← e1]; simp)).1
      have h2 := hc1 es[k] (List.getElem_mem hk')
      have h3 : es[k].born + 1 ≤ since := by simpa [Nat.blt] using h2
      omega
    rw [hb0]
    simp only [Instr.next, getObj, Sem.run_bind, Sem.run, hb, hb', Result.andThen, next_test_false seen.toArray es' since c0 hold hc2, Bool.false_eq_true, if_false]
    have hmem : ∀ x ∈ (Array.filter (fun e => !seen.toArray.contains e.born) es').toList, x.born < since := fun x hx => hold x (by simp at hx ⊢; exact hx.1)
    have hmem2 : ∀ x ∈ (Array.filter (fun e => !seen.toArray.contains e.born) es').toList, x ∈ es'.toList ∧ seen.toArray.contains x.born = false := fun x hx => by simpa using hx
    have hempty : (Array.filter (fun e => !seen.toArray.contains e.born) es').size = 0 → es.filter (fun e => !seen.contains e.born) = [] := fun h0 => by
      have h1 := Array.eq_empty_of_size_eq_zero h0
      rw [Array.filter_eq_empty_iff] at h1
      rw [List.filter_eq_nil_iff]
      intro e he
      obtain ⟨k, hk, e1⟩ := List.getElem_of_mem he
      have hk' : k < es'.size := by have := hes.1; omega
      have h2 := (hes.2 k e es'[k] (by rw [← e1]; exact List.getElem?_eq_getElem hk) (Array.getElem?_eq_getElem hk')).1
      have h3 := h1 es'[k] (Array.getElem_mem hk')
      rw [h2]
      simpa using h3
    generalize Array.filter (fun e => !seen.toArray.contains e.born) es' = L at hmem hmem2 hempty ⊢
    have e1 : L.filter (fun x => decide (x.born < since)) = L := Array.filter_eq_self.2 (fun x hx => by simpa using hmem x (by simpa using hx))
    have e2 : L.filter (fun x => decide (x.born ≥ since)) = #[] := by
      rw [Array.filter_eq_empty_iff]
      intro x hx
      have := hmem x (by simpa using hx)
      simp
      omega
    simp only [e1, e2, Array.append_empty]
    by_cases h0 : L.size = 0
    · rw [hempty h0] at h
      cases h
      refine ⟨_, σ, M, w, .tuple #[.bool false], List.mem_singleton.2 rfl, ?_, hno, hr, Step.refl _ _ _⟩
      have : L = #[] := Array.eq_empty_of_size_eq_zero h0
      subst this
      simp [choose, Sem.run, Question.forced]
    · have hne : L.isEmpty = false := by simp [Array.isEmpty, h0]
      simp only [hne, Bool.false_eq_true, if_false, Array.empty_append, Array.size_map]
      have hch : ∃ (j : Nat) (w1 : World), j < L.size ∧ w1.os = w.os ∧ w1.tape = w.tape ∧ w1.output = w.output ∧ w1.heap = w.heap ∧ (choose (Question.mapNext L.size)).run P w = .ok j w1 := by
        by_cases hf : L.size ≤ 1
        · exact ⟨0, w, by omega, rfl, rfl, rfl, rfl, by simp [choose, Sem.run, Question.forced, hf]⟩
        · exact ⟨_, w.drew, Nat.mod_lt _ (by omega), rfl, rfl, rfl, rfl, by
            simp only [choose, Sem.run, Question.forced, decide_eq_true_eq, hf, if_false, Question.cut]
            rfl⟩
      obtain ⟨j, w1, hj, q1, q2, q3, hw1, hrun⟩ := hch
      obtain ⟨hx1, hx2⟩ := hmem2 L[j] (by simp)
      obtain ⟨k, hk, hxk⟩ := List.getElem_of_mem hx1
      have hk' : k < es.length := by have := hes.1; simp at hk; omega
      obtain ⟨r1, r2, r3⟩ := hes.2 k es[k] L[j] (List.getElem?_eq_getElem hk') (by rw [← hxk]; simp)
      have hin : es[k] ∈ es.filter (fun e => !seen.contains e.born) := List.mem_filter.2 ⟨List.getElem_mem hk', by rw [r1]; simpa using hx2⟩
      have hls : ls = (es.filter (fun e => !seen.contains e.born)).map fun e => (.tuple #[.bool true, e.key, e.val], σ.put i (some (.iter (some m) since (seen ++ [e.born]) c0))) := by
        split at h
        · rename_i hnil; rw [hnil] at hin; cases hin
        · cases h; rfl
      have hlt := (Array.getElem?_eq_some_iff.1 hb).1
      obtain ⟨a1, a2⟩ := hr.write (w' := { w1 with heap := w1.heap.setIfInBounds l.block (.mapIter (some lm.block) since (seen.toArray.push L[j].born) c0) }) (o' := .iter (some m) since (seen ++ [es[k].born]) c0) hg hl rfl rfl
        (by simp [hw1]) (fun b hb2 => by show (w1.heap.setIfInBounds l.block _)[b]? = _; rw [Array.getElem?_setIfInBounds_ne (Ne.symm hb2), hw1])
        ⟨hgr, hb0, some lm.block, by show (w1.heap.setIfInBounds l.block _)[l.block]? = _; rw [Array.getElem?_setIfInBounds_self_of_lt (by rw [hw1]; exact hlt), r1]; simp, lm, hlm, rfl⟩ q1 q2 q3
      refine ⟨_, _, M, _, .tuple #[.bool true, L[j].key, L[j].val], by rw [hls]; exact List.mem_map.2 ⟨es[k], hin, rfl⟩, ?_, ?_, a1, a2⟩
      · simp only [hrun, Array.getElem?_map, Array.getElem?_eq_getElem hj, Option.map_some, Sem.run_bind, Result.andThen, setObj, Sem.run]
        rw [hw1, hb]
        simp [Sem.run_pure]
      · refine .tuple _ _ rfl fun q a b ha hb2 => ?_
        match q, ha, hb2 with
        | 0, ha, hb2 => cases ha; cases hb2; exact .cell _ _ (.scalar _ rfl)
        | 1, ha, hb2 => cases ha; cases hb2; exact r2
        | 2, ha, hb2 => cases ha; cases hb2; exact r3
  · cases h
theorem entry_sound {x x' v : Value} (hx : VR M false x x') (hr : Rel M σ w) (h : entryL x σ.get = some v) : ∃ v', VR M false v v' ∧ (Instr.entry x').run P w = .ok v' w := by
  unfold entryL at h
  split at h
  case h_2 => cases h
  rename_i i
  obtain ⟨_, l, hl, rfl⟩ := VR.ptr_ hx
  split at h
  case h_2 => cases h
  rename_i m since seen c0 hg
  split at h
  case h_2 => cases h
  rename_i es ck s hgm hs
  cases hc : Nat.beq ck c0 <;> rw [hc] at h
  · cases h
  simp only [cond_true] at h
  have hc := Nat.eq_of_beq_eq_true hc
  subst hc
  split at h
  case h_2 => cases h
  rename_i e hf
  cases h
  obtain ⟨l2, hl2, hgr, hb0, mb, hb, hm⟩ := hr.shows i _ hg
  rw [hl] at hl2; cases hl2
  cases mb with
  | none => exact hm.elim
  | some bm =>
  obtain ⟨lm, hlm, rfl⟩ := hm
  obtain ⟨_, es', hb', hes⟩ := get_map hr hgm hlm
  have key : ∀ (l1 : List MapEntry) (l2 : List MapEntry), l1.length = l2.length → (∀ (i : Nat) (e e' : MapEntry), l1[i]? = some e → l2[i]? = some e' → EntryR M e e') → l1.find? (fun e => Nat.beq e.born s) = some e → ∃ e', l2.find? (fun e => e.born == s) = some e' ∧ EntryR M e e' := by
    intro l1
    induction l1 with
    | nil => intro l2 _ _ h; cases h
    | cons a l1 ih =>
      intro l2 hlen hel hfi
      cases l2 with
      | nil => cases hlen
      | cons a' l2 =>
        have h0 := hel 0 a a' rfl rfl
        rw [List.find?_cons] at hfi ⊢
        have e0 : (a'.born == s) = Nat.beq a.born s := by
          rw [h0.1, Bool.eq_iff_iff, beq_iff_eq]
          exact ⟨fun e => by rw [e]; exact Nat.beq_refl _, Nat.eq_of_beq_eq_true⟩
        rw [e0]
        cases hq : Nat.beq a.born s <;> rw [hq] at hfi
        · exact ih l2 (by simpa using hlen) (fun i e e' he he' => hel (i + 1) e e' he he') hfi
        · cases hfi; exact ⟨a', rfl, h0⟩
  obtain ⟨e', k1, k2⟩ := key es es'.toList (by simpa using hes.1) (fun i e e' he he' => hes.2 i e e' he (by simpa using he')) hf
  refine ⟨.tuple #[e'.key, e'.val], .tuple _ _ rfl fun q a b ha hb2 => ?_, ?_⟩
  · match q, ha, hb2 with
    | 0, ha, hb2 => cases ha; cases hb2; exact k2.2.1
    | 1, ha, hb2 => cases ha; cases hb2; exact k2.2.2
  · have hbk : seen.toArray.back? = some s := by simpa using hs
    have hfi : es'.find? (fun e => e.born == s) = some e' := by rw [← Array.find?_toList]; exact k1
    rw [hb0]
    simp only [Instr.entry, getObj, Sem.run_bind, Sem.run, hb, hb', Result.andThen, hbk, hfi, Sem.run_pure, bne_self_eq_false, Bool.false_eq_true, if_false]
end Go.Am
end
section
/- The abstract machine, part 10: every operation that the machine takes is as the model has it. No program in sight. -/
set_option linter.all false
namespace Go.Am
open Go.RowKit
variable {P : Program} {M : Places} {σ : Store} {w : World}

theorem copy_sound {t ty el : TypeId} {ts : Array TypeId} {sz : Nat} {d d' x x' u : Value} {σ' : Store} (hts : ts[0]? = some t) (hu : P.underlying t = some (.slice el)) (hsz : tSize P el = some sz) (hd : VR M false d d') (hx : VR M false x x') (hr : Rel M σ w)
    (h : copyV sz d x σ = some (u, σ')) : ∃ w', (Builtin.copy_ ts ty #[d', x']).run P w = .ok u w' ∧ scalar u = true ∧ ∃ M', Rel M' σ' w' ∧ Step σ M w σ' M' w' := by
  unfold copyV at h
  split at h
  · rename_i n c m hm
    have := VR.scalar_eq (v := .slice none n c) rfl hd; subst this
    have hlen := lenV_sound (P := P) hx hm w
    cases hz : Nat.min m n == 0 <;> rw [hz] at h <;> simp only [cond_true, cond_false] at h
    case false => cases h
    split at h
    case h_2 => cases h
    rename_i news hnews
    cases h
    obtain ⟨news', h1, h2, h3⟩ := source_sound (P := P) hr hx hnews
    have hz' : Nat.min m n = 0 := by simpa using hz
    refine ⟨w, ?_, rfl, M, hr, Step.refl _ _ _⟩
    simp [Builtin.copy_, hts, run_underlying hu, hlen, hz', run_tSize hsz, h3 w rfl, goInt]
  · rename_i i o g n c m hm
    have hlen := lenV_sound (P := P) hx hm w
    obtain ⟨l, c', hl, rfl, _, _⟩ := VR.slice_ hd
    split at h
    case h_2 => cases h
    rename_i news cs g' hnews hg
    cases hle : Nat.ble (o + news.length) cs.length <;> rw [hle] at h <;> simp only [cond_true, cond_false] at h
    case false => cases h
    cases h
    have hle' := Nat.le_of_ble_eq_true hle
    obtain ⟨news', h1, h2, h3⟩ := source_sound (P := P) hr hx hnews
    obtain ⟨w', a1, a2, a3⟩ := write_cells (P := P) hr hg hl h1 hle'
    refine ⟨w', ?_, rfl, M, a2, a3⟩
    simp [Builtin.copy_, hts, run_underlying hu, hlen, run_tSize hsz, h3 w rfl, a1, goInt]
  · cases h
theorem minMax_sound {mx : Bool} : ∀ (xs : List Value) (ys : List Value) (a : Value) (v : Value), xs.length = ys.length → (∀ (i : Nat) (v v' : Value), xs[i]? = some v → ys[i]? = some v' → VR M false v v') →
    xs.foldl (fun acc y => match acc, y with
      | some (.int k a), .int _ b => some (.int k (bif mx then (if b > a then b else a) else (if b < a then b else a)))
      | _, _ => none) (some a) = some v → (∃ k n, a = .int k n) → scalar v = true ∧ ∀ w, (ys.foldlM (if mx then Builtin.max2 else Builtin.min2) a).run P w = .ok v w
  | [], [], a, v, _, _, h, ha => by obtain ⟨k, n, rfl⟩ := ha; simp at h; subst h; exact ⟨rfl, fun w => by simp⟩
  | [], _ :: _, a, v, hl, _, _, _ => by simp at hl
  | _ :: _, [], a, v, hl, _, _, _ => by simp at hl
  | x :: xs, y :: ys, a, v, hl, hr, h, ha => by
    obtain ⟨k, n, rfl⟩ := ha
    have hxy := hr 0 x y rfl rfl
    have none_ : ∀ xs : List Value, xs.foldl (fun (acc : Option Value) y => match acc, y with
      | some (.int k a), .int _ b => some (Value.int k (bif mx then (if b > a then b else a) else (if b < a then b else a)))
      | _, _ => none) none = none := fun xs => by induction xs with
      | nil => rfl
      | cons x xs ih => simpa using ih
    simp only [List.foldl_cons] at h
    cases x with
    | int k' b =>
      have := hxy.int_; subst this
      simp only at h
      obtain ⟨h1, h2⟩ := minMax_sound xs ys _ v (by simpa using hl) (fun i v v' hv hv' => hr (i + 1) v v' (by simpa using hv) (by simpa using hv')) h ⟨_, _, rfl⟩
      refine ⟨h1, fun w => ?_⟩
      rw [List.foldlM_cons]
      cases mx
      · simp only [Bool.false_eq_true, if_false, cond_false] at h2 ⊢
        simp only [Builtin.min2, Sem.run_bind, Sem.run_pure, Result.andThen_ok]
        exact h2 w
      · simp only [if_true, cond_true] at h2 ⊢
        simp only [Builtin.max2, Sem.run_bind, Sem.run_pure, Result.andThen_ok]
        exact h2 w
    | _ => simp only at h; rw [none_] at h; cases h

def okOperand : Operand → Bool
  | .const v => closed v
  | _ => true
def zerosOk (P : Program) (t : TypeId) : Bool :=
  match tZeros P t with
  | some z => z.all scalar
  | none => true
def zeroOk (P : Program) (t : TypeId) : Bool :=
  match tZero P t with
  | some z => closed z
  | none => true
def rowOk (P : Program) (t : TypeId) : Bool :=
  match tZeros P t, tSize P t with
  | some z, some n => z.all scalar && z.length == n && Nat.blt 0 n
  | _, _ => false
/-- What is asked of an operation's text. -/
def okOp (P : Program) (o : Oper) : Bool :=
  o.op.operands.toList.all okOperand &&
  match o.op with
  | .alloc t => zerosOk P t
  | .build t _ => okBuild P t
  | .buildSlice t _ _ => (match P.underlying t with | some (.slice el) => rowOk P el | _ => true)
  | .makeSlice t _ _ => (match P.underlying t with | some (.slice el) => rowOk P el | _ => true)
  | .lookup t _ _ _ => (match P.underlying t with | some (.map _ et) => zeroOk P et | _ => true)
  | .mapEntry t _ _ => (match P.underlying t with | some (.map _ et) => zeroOk P et | _ => true)
  | .binOp op t _ _ _ => guardOk P op t
  | _ => true

theorem ofVal_some {x : Option Value} {A : Action} (h : ofVal x = some A) : ∃ v, x = some v ∧ A = .val v := by
  cases x with
  | none => cases h
  | some v => simp [ofVal] at h; exact ⟨v, rfl, h.symm⟩
/-- A value and no more. -/
theorem sound_of {n : Sem Next} {s : Sem Value} {x : Option Value} {A : Action} (hn : n = (do let a ← s; pure (.value a))) (h : ofVal x = some A) (hs : ∀ v, x = some v → ∃ v', VR M false v v' ∧ ∀ w, s.run P w = .ok v' w) : Sound P M n A := by
  obtain ⟨v, e, rfl⟩ := ofVal_some h
  obtain ⟨v', h1, h2⟩ := hs v e
  exact ⟨v', h1, fun w => by rw [hn]; simp [h2]⟩
theorem args_sound {e ρ : Operand → Value} : ∀ {xs : List Operand}, (∀ x ∈ xs, VR M false (e x) (ρ x)) → ∀ (i : Nat) (v v' : Value), (xs.map e)[i]? = some v → (xs.map ρ)[i]? = some v' → VR M false v v' := by
  intro xs h i v v' hv hv'
  rw [List.getElem?_map] at hv hv'
  cases hx : xs[i]? with
  | none => rw [hx] at hv; cases hv
  | some x =>
    rw [hx] at hv hv'
    simp at hv hv'
    subst hv hv'
    exact h x (List.mem_of_getElem? hx)
theorem rowOk_spec {t : TypeId} (h : rowOk P t = true) : ∃ z n, tZeros P t = some z ∧ tSize P t = some n ∧ z.all scalar = true ∧ z.length = n ∧ 0 < n := by
  unfold rowOk at h
  split at h
  · rename_i z n hz hn
    simp only [Bool.and_eq_true, beq_iff_eq] at h
    exact ⟨z, n, hz, hn, h.1.1, h.1.2, by have := h.2; simp [Nat.blt] at this; omega⟩
  · cases h
theorem alloc_sound {t : TypeId} {o : Oper} {ρ : Operand → Value} {z : List Value} (ho : o.op = .alloc t) (hz : tZeros P t = some z) (hc : z.all scalar = true) : Sound P M (execOp ρ o) (.new (.cells z none) ptrTo) := by
  obtain ⟨zv, h1, h2, h3⟩ := tZeros_run hz
  refine sound_new (e := t) (arr := z.toArray) (by simpa using Cells.of_closed hc) ptrTo_ok fun w => ?_
  simp [execOp, ho, Instr.alloc, h3, newVar, newRow, h2, ptrTo]
theorem box_sound {t : TypeId} {x : Operand} {o : Oper} {e ρ : Operand → Value} {cs : List Value} (ho : o.op = .box t x) (hx : VR M false (e x) (ρ x)) (hc : cellsL (e x) = some cs) : Sound P M (execOp ρ o) (.new (.cells cs none) ptrTo) := by
  refine sound_new (e := t) (arr := (ρ x).cells) (VR.cells_ hx hc) ptrTo_ok fun w => ?_
  simp [execOp, ho, Instr.box, newVar, newRow, ptrTo]
theorem slice_new_ok (n : Nat) (N : Places) (i b : Nat) (h : N i = some ⟨b, 0, none⟩) : VR N false (.slice (some ⟨i, 0, none⟩) n n) (.slice (some ⟨b, 0, none⟩) n n) := by
  have := VR.slice i 0 n n ⟨b, 0, none⟩ h
  exact .cell _ _ (by simpa using this)
theorem makeMap_sound {t : TypeId} {o : Oper} {ρ : Operand → Value} (ho : o.op = .makeMap t none) : Sound P M (execOp ρ o) (.new (.map [] 0) fun i => .map (some i)) := ⟨rfl, fun w => by
  refine ⟨.map (some w.heap.size), ⟨w.heap.size, 0, none⟩, { w with heap := w.heap.push (.map #[] 0) }, .map #[] 0, ?_, rfl, rfl, ⟨rfl, #[], by simp, ⟨rfl, fun i e e' h => by simp at h⟩⟩, fun N i h => .cell _ _ (.map i _ h), rfl, rfl, rfl⟩
  simp [execOp, ho, Instr.makeMap]⟩
theorem makeSlice_sound {t el : TypeId} {l c : Operand} {o : Oper} {ρ : Operand → Value} {ze : List Value} {by_ : Nat} {k k' : IntKind} {li ci : Int} (ho : o.op = .makeSlice t l c) (hu : P.underlying t = some (.slice el)) (hz : tZeros P el = some ze) (hrow : rowOk P el = true) (hb : tBytes P el = some by_)
    (hl : ρ l = .int k li) (hc : ρ c = .int k' ci) (h : 0 ≤ li ∧ li = ci ∧ ci ≤ 9223372036854775807 ∧ by_ * ci ≤ 281474976710656) :
    Sound P M (execOp ρ o) (.new (.cells (List.replicate ci.toNat ze).flatten none) fun i => .slice (some ⟨i, 0, none⟩) ci.toNat ci.toNat) := by
  obtain ⟨z, n, r1, r2, r3, r4, r5⟩ := rowOk_spec hrow
  rw [hz] at r1; cases r1
  obtain ⟨zv, h1, h2, h3⟩ := tZeros_run hz
  obtain ⟨h0, rfl, hm, hbb⟩ := h
  have hrowl : ((Array.range (li.toNat * ze.length)).map fun i => ze.toArray[i % ze.toArray.size]!).toList = (List.replicate li.toNat ze).flatten := row_list (by omega) _
  refine sound_new (e := el) (arr := (Array.range (li.toNat * ze.length)).map fun i => ze.toArray[i % ze.toArray.size]!) (by rw [hrowl]; exact rep_cells r3 _) (slice_new_ok _) fun w => ?_
  obtain ⟨i, hi, hib, hit⟩ := run_tBytes hb w
  have hw1 : IntKind.i64.wrap li = li := by rw [IntKind.wrap_i64]; omega
  have hnl : ¬ li < 0 := by omega
  have hnb : ¬ ((by_ : Int) * li > 2 ^ 48) := by omega
  have hti : ∀ w, (typeInfo el).run P w = .ok i w := fun w => by simp [typeInfo, hi]
  have hno : ¬ (281474976710656 < (by_ : Int) * li) := by omega
  simp only [execOp, ho, hl, hc, Instr.makeSlice, Sem.run_bind, run_underlying hu, Result.andThen_ok, asInt, asIntOf, Sem.run_pure, hti, hib, hw1]
  have hcond : (decide (li < 0) || decide ((by_ : Int) * li > 2 ^ 48) || decide (li < 0) || decide (li > li)) = false := by simp [hnl, hno]
  simp only [hcond, Bool.false_eq_true, if_false, Sem.run_bind, run_askRoom, Result.andThen_ok, run_tSize r2, ← r4]
  by_cases hn0 : li.toNat * ze.length = 0
  · have hl0 : li.toNat = 0 := by
      rcases Nat.mul_eq_zero.1 hn0 with h0 | h0
      · exact h0
      · omega
    have hr0 : Array.range 0 = #[] := rfl
    simp only [hn0, if_true, Sem.run_bind, Sem.run_pure, Result.andThen_ok, hl0]
    simp [newRow]
    rw [hr0]
    simp
  · simp only [hn0, if_false, Sem.run_bind, h3, Sem.run_pure, Result.andThen_ok, h2]
    simp [newRow]
theorem call_sound {c : Call} {fv : Operand} {g : FuncId} {first captured : Array Value} {o : Oper} {e ρ : Operand → Value} (ho : o.op = .call c) (hcal : c.callee = .value fv) (he : ∀ x ∈ c.operands.toList, VR M false (e x) (ρ x)) (hf : e fv = .func (.func g) first captured) (hg : callable P g = true) :
    Sound P M (execOp ρ o) (.call g (first.toList ++ c.args.toList.map e ++ captured.toList)) := by
  have hfv : VR M false (e fv) (ρ fv) := he fv (by simp [Call.operands, hcal])
  rw [hf] at hfv
  obtain ⟨f', xs', ys', e1, e2, h1, h2, h3, h4⟩ := VR.func_ hfv
  cases e1
  have hargs : ∀ x ∈ c.args.toList, VR M false (e x) (ρ x) := fun x hx => he x (by simp [Call.operands]; right; simpa using hx)
  refine ⟨xs' ++ c.args.map ρ ++ ys', ⟨by simp [h1, h2], fun i v v' hv hv' => ?_⟩, fun w => ?_⟩
  · have hv'' : (xs'.toList ++ c.args.toList.map ρ ++ ys'.toList)[i]? = some v' := by
      rw [← Array.getElem?_toList] at hv'
      simpa using hv'
    rw [List.append_assoc, List.getElem?_append] at hv hv''
    simp only [Array.length_toList] at hv hv''
    by_cases c1 : i < first.size
    · rw [if_pos c1] at hv; rw [if_pos (by omega)] at hv''
      exact h3 i v v' (by simpa using hv) (by simpa using hv'')
    · rw [if_neg c1] at hv; rw [if_neg (by omega), ← h1] at hv''
      rw [List.getElem?_append] at hv hv''
      simp only [List.length_map, Array.length_toList] at hv hv''
      by_cases c2 : i - first.size < c.args.size
      · rw [if_pos c2] at hv hv''
        exact args_sound hargs _ v v' hv hv''
      · rw [if_neg c2] at hv hv''
        exact h4 _ v v' (by simpa using hv) (by simpa using hv'')
  · unfold callable at hg
    split at hg
    · rename_i fn hfn
      simp only [Bool.and_eq_true, bne_iff_ne, ne_eq] at hg
      have hb : fn.body.isNone = false := by cases hfb : fn.body <;> simp_all
      have hnm : (fn.name == "runtime.NumGoroutine") = false := by simpa using hg.1
      have hb' : ¬ fn.body = none := by intro h; rw [h] at hb; cases hb
      simp [execOp, ho, resolve, hcal, e2, Deferred.ofValue, invoke, callFunc, hfn, hg.1, hb']
    · cases hg

theorem freeze_heap {w : World} {b : Nat} {arr : Array Value} {e : TypeId} {fz : Nat × Nat} (h : w.heap[b]? = some (.cells arr e fz)) (n : Nat) : ∃ fz', (w.freeze ⟨b, n, none⟩ 1).heap[b]? = some (.cells arr e fz') ∧ (fz = (0, 0) → fz' = (n, n + 1)) ∧ (w.freeze ⟨b, n, none⟩ 1).heap.size = w.heap.size ∧ (∀ c, c ≠ b → (w.freeze ⟨b, n, none⟩ 1).heap[c]? = w.heap[c]?) ∧
    (w.freeze ⟨b, n, none⟩ 1).os = w.os ∧ (w.freeze ⟨b, n, none⟩ 1).tape = w.tape ∧ (w.freeze ⟨b, n, none⟩ 1).output = w.output := by
  unfold World.freeze
  rw [if_neg (by decide)]
  obtain ⟨lo, hi⟩ := fz
  refine ⟨if lo == hi then (n, n + 1) else (min lo n, max hi (n + 1)), ?_, fun e => ?_, by simp, fun c hc => ?_, rfl, rfl, rfl⟩
  · simp [Array.getElem?_modify, h]
  · cases e; rfl
  · simp [Array.getElem?_modify, Ne.symm hc]
theorem hand_sound {src dst el el' : TypeId} {x x' v : Value} {σ σ' : Store} {w : World} (h1 : P.underlying src = some (.slice el')) (h2 : P.underlying dst = some (.slice el)) (h3 : P.underlying el = some (.int .u8)) (hsd : (src == dst) = true)
    (hx : VR M false x x') (hr : Rel M σ w) (h : handV x σ = some (v, σ')) : ∃ v' w' M', (convert src dst x').run P w = .ok v' w' ∧ VR M' false v v' ∧ Rel M' σ' w' ∧ Step σ M w σ' M' w' := by
  unfold handV at h
  split at h
  case h_2 => cases h
  rename_i i o n c
  split at h
  case h_2 => cases h
  rename_i cs hg
  cases hc : (Nat.blt 0 cs.length && Nat.ble (o + c) cs.length) <;> rw [hc] at h <;> simp only [cond_true, cond_false] at h
  · cases h
  simp only [Bool.and_eq_true] at hc
  have hc1 : 0 < cs.length := Nat.le_of_ble_eq_true hc.1
  have hc2 := Nat.le_of_ble_eq_true hc.2
  cases h
  obtain ⟨l, c', hl, rfl, hcc, hor⟩ := VR.slice_ hx
  obtain rfl : c' = c := by
    rcases hor with ⟨_, e⟩ | ⟨sz, room, e, _⟩
    · exact e
    · cases e
  obtain ⟨l2, hl2, hsh⟩ := hr.shows i _ hg
  rw [hl] at hl2; cases hl2
  have hsh0 := hsh
  obtain ⟨hg1, arr, e, fz, hb, hrow, hfz, hroom⟩ := hsh
  have hfz0 : fz = (0, 0) := by
    rcases hfz with h0 | ⟨h0, _⟩
    · exact h0
    · exact absurd rfl h0
  obtain ⟨fz', k1, k2, k3, k4, k5, k6, k7⟩ := freeze_heap hb arr.size
  have hlen : l.base + cs.length ≤ arr.size := by
    obtain ⟨v', hv', _⟩ := hrow (cs.length - 1) cs[cs.length - 1] (List.getElem?_eq_getElem (by omega))
    have := (Array.getElem?_eq_some_iff.1 hv').1
    omega
  obtain ⟨a1, a2⟩ := hr.hand (w' := w.freeze ⟨l.block, arr.size, none⟩ 1) (o' := .cells cs (some 1)) (l' := ⟨l.block, l.base, some (1, cs.length)⟩) hg hl rfl rfl rfl k3 k4
    ⟨rfl, arr, e, fz', k1, hrow, .inr ⟨by simp, by rw [k2 hfz0]; exact Nat.le_refl _⟩, fun sz room h => by cases h; exact hlen⟩ k5 k6 k7
  refine ⟨.slice (some ⟨l.block, l.base + o, none⟩) n c', w.freeze ⟨l.block, arr.size, none⟩ 1, _, ?_, .cell _ _ (.grown σ.next o n c' c' 1 cs.length l.block l.base (Places.upd_same _ _ _) (Nat.le_refl _) (by omega)), a1, a2⟩
  simp [convert, run_underlying h1, run_underlying h2, run_underlying h3, hsd, markStringish, World.shape?, hb]
theorem bytes_sound {src dst el : TypeId} {s : ByteArray} (h1 : P.underlying src = some .string) (h2 : P.underlying dst = some (.slice el)) (h3 : P.underlying el = some (.int .u8)) (w : World) :
    ∃ v' l w' x, (convert src dst (.string s)).run P w = .ok v' w' ∧ w'.heap = w.heap.push x ∧ l.block = w.heap.size ∧ Shows M w' l (.cells (bytesV s) (some 1)) ∧ (∀ N i, N i = some l → VR N false (.slice (some ⟨i, 0, some 1⟩) s.size s.size) v') ∧ w'.os = w.os ∧ w'.tape = w.tape ∧ w'.output = w.output := by
  obtain ⟨q, hq⟩ : ∃ q : Question, q = .appendCap s.size 0 el := ⟨_, rfl⟩
  obtain ⟨nc, hnc⟩ : ∃ nc : Nat, nc = q.cut (w.tape w.drawn q) := ⟨_, rfl⟩
  have hncge : s.size ≤ nc := by rw [hnc, hq]; simp [Question.cut]
  have hqf : q.forced = false := by rw [hq]; rfl
  obtain ⟨arr, harr⟩ : ∃ arr : Array Value, arr = (s.data.map fun b => Value.int .u8 b.toNat) ++ Array.replicate (nc - s.size) (.int .u8 0) := ⟨_, rfl⟩
  have hsz : arr.size = nc := by
    rw [harr]
    have : s.data.size = s.size := rfl
    simp [this]; omega
  obtain ⟨w1, hw1⟩ : ∃ w1 : World, w1 = { w with drawn := w.drawn + 1, heap := w.heap.push (.cells arr el) } := ⟨_, rfl⟩
  have hb : w1.heap[w.heap.size]? = some (.cells arr el (0, 0)) := by rw [hw1]; exact Array.getElem?_push_size
  obtain ⟨fz', k1, k2, k3, k4, k5, k6, k7⟩ := freeze_heap hb arr.size
  rw [k2 rfl] at k1
  have hpush : (w1.freeze ⟨w.heap.size, arr.size, none⟩ 1).heap = w.heap.push (.cells arr el (arr.size, arr.size + 1)) := by
    apply Array.ext_getElem?
    intro c
    by_cases hc : c = w.heap.size
    · subst hc
      rw [k1, Array.getElem?_push_size]
    · rw [k4 c hc, hw1, Array.getElem?_push, Array.getElem?_push, if_neg hc, if_neg hc]
  refine ⟨.slice (some ⟨w.heap.size, 0, none⟩) s.size nc, ⟨w.heap.size, 0, some (1, nc)⟩, w1.freeze ⟨w.heap.size, arr.size, none⟩ 1, _, ?_, hpush, rfl, ?_, fun N i hi => .cell _ _ (.grown i 0 s.size s.size nc 1 nc w.heap.size 0 hi hncge (by omega)), by rw [k5, hw1], by rw [k6, hw1], by rw [k7, hw1]⟩
  · have hch : (choose q).run P w = .ok nc w.drew := by rw [hnc]; simp [run_choose, hqf]
    subst hq
    simp only [convert, Sem.run_bind, run_underlying h1, run_underlying h2, run_underlying h3, Result.andThen_ok, Conv.stringToBytes, hch]
    have hal : w.drew.alloc (.cells arr el) = w1 := by rw [hw1]; rfl
    have hsh : w1.shape? w.heap.size = some (el, arr.size) := by simp only [World.shape?, hb]
    simp [newRow, ← harr, markStringish, hal, hsh]
  · refine ⟨rfl, arr, el, (arr.size, arr.size + 1), by rw [hpush]; exact Array.getElem?_push_size, fun j v hv => ?_, .inr ⟨by simp, Nat.le_refl _⟩, fun sz room h => by cases h; show 0 + nc ≤ arr.size; omega⟩
    have hj := (List.getElem?_eq_some_iff.1 hv).1
    simp only [bytesV, List.getElem?_map] at hv
    simp only [bytesV, List.length_map] at hj
    rw [List.getElem?_eq_getElem hj] at hv
    simp only [Option.map_some, Option.some.injEq] at hv
    refine ⟨v, ?_, by rw [← hv]; exact .scalar _ rfl⟩
    have hj' : j < s.data.size := by simpa using hj
    rw [harr, Nat.zero_add, Array.getElem?_append_left (by simpa using hj'), Array.getElem?_map, Array.getElem?_eq_getElem hj', ← hv]
    simp



theorem max_sound (mx : Bool) {e ρ : Operand → Value} (args : List Operand) (v : Value) (he : ∀ x ∈ args, VR M false (e x) (ρ x)) (h : minMaxV mx (args.map e) = some v) :
    scalar v = true ∧ ∃ x rest, args.map ρ = x :: rest ∧ ∀ w, (rest.foldlM (if mx then Builtin.max2 else Builtin.min2) x : Sem Value).run P w = .ok v w := by
  cases args with
  | nil => simp [minMaxV] at h
  | cons a as =>
    have ha := he a (by simp)
    cases hea : e a with
    | int k n =>
      simp only [List.map_cons, hea, minMaxV] at h
      rw [hea] at ha
      obtain ⟨h1, h2⟩ := minMax_sound (P := P) (as.map e) (as.map ρ) (.int k n) v (by simp) (args_sound fun x hx => he x (List.mem_cons_of_mem _ hx)) h ⟨k, n, rfl⟩
      exact ⟨h1, ρ a, as.map ρ, rfl, by rw [ha.int_]; exact h2⟩
    | _ => simp only [List.map_cons, hea, minMaxV, reduceCtorEq] at h
theorem builtin_sound {c : Call} {b : Builtin} {o : Oper} {e ρ : Operand → Value} {A : Action} (ho : o.op = .call c) (hcal : c.callee = .builtin b) (he : ∀ x ∈ c.args.toList, VR M false (e x) (ρ x)) (h : builtinA P b c.argTypes.toList (c.args.toList.map e) = some A) :
    Sound P M (execOp ρ o) A := by
  obtain ⟨callee, args, ts⟩ := c
  simp only at hcal he h
  subst hcal
  obtain ⟨args⟩ := args
  obtain ⟨ts⟩ := ts
  simp only at he h
  have hex : ∀ (cs : Array Bool), execOp ρ o = builtin b ⟨ts⟩ o.type (args.toArray.map fun | .const _ => true | _ => false) (args.toArray.map ρ) := fun _ => by
    simp only [execOp, ho, resolve]
    rfl
  replace hex := hex #[]
  generalize (args.toArray.map fun | .const _ => true | _ => false) = consts at hex
  unfold builtinA at h
  split at h
  · -- append
    rename_i t t1 s x e2
    obtain ⟨a, b, rfl, rfl, rfl⟩ : ∃ a b, args = [a, b] ∧ e a = s ∧ e b = x := by
      match args, e2 with
      | [a, b], h => simp at h; exact ⟨a, b, rfl, h.1, h.2⟩
      | [], h => simp at h
      | [_], h => simp at h
      | _ :: _ :: _ :: _, h => simp at h
    split at h
    case h_2 => cases h
    rename_i el hu ht1
    split at h
    case h_2 => cases h
    rename_i sz by_ ze hsz hby hze
    cases hl : ze.length == sz + 1 <;> rw [hl] at h <;> simp only [cond_true, cond_false] at h
    case false => cases h
    cases h
    have ht1' : ∃ d, P.underlying t1 = some d ∧ ∀ k, d ≠ .int k := by
      revert ht1
      cases P.underlying t1 with
      | none => intro h; cases h
      | some d => cases d <;> intro h <;> first | (cases h; done) | exact ⟨_, rfl, by simp⟩
    intro σ w v σ' hr hv
    obtain ⟨u', w', M', a1, a2, a3, a4⟩ := append_sound (P := P) (ts := #[t, t1]) (ty := o.type) rfl ⟨t1, rfl, ht1'⟩ hu hsz hby hze (by simpa using hl) (he a (by simp)) (he b (by simp)) hr hv
    refine ⟨M', .value u', w', u', ?_, .inl rfl, a2, a3, a4⟩
    rw [hex]
    simp [builtin, a1]
  · -- len
    rename_i t x e2
    obtain ⟨a, rfl, rfl⟩ : ∃ a, args = [a] ∧ e a = x := by
      match args, e2 with
      | [a], h => simp at h; exact ⟨a, rfl, h⟩
      | [], h => simp at h
      | _ :: _ :: _, h => simp at h
    have hx := he a (by simp)
    have fin : ∀ v : Value, scalar v = true → (∀ w, (Builtin.len_ #[t] o.type #[ρ a]).run P w = .ok v w) → Sound P M (execOp ρ o) (.val v) := fun v hs hrun => ⟨v, .cell _ _ (.scalar v hs), fun w => by rw [hex]; simp [builtin, hrun w]⟩
    split at h
    · rename_i s hu hs
      cases h
      rw [hs] at hx
      have hxs := hx.string_
      exact fin _ rfl fun w => by simp [Builtin.len_, run_underlying hu, hxs, goInt]
    · rename_i n el hu
      cases h
      exact fin _ rfl fun w => by simp [Builtin.len_, run_underlying hu, goInt]
    · rename_i el a0 n c hu hs
      cases h
      rw [hs] at hx
      cases a0 with
      | none =>
        have hxs := VR.scalar_eq (v := .slice none n c) rfl hx
        exact fin _ rfl fun w => by simp [Builtin.len_, run_underlying hu, hxs, goInt]
      | some a0 =>
        obtain ⟨l, c', _, hxs, _⟩ := VR.slice_ (i := a0.block) (o := a0.off) (s := a0.spot) hx
        exact fin _ rfl fun w => by simp [Builtin.len_, run_underlying hu, hxs, goInt]
    · rename_i el t0 xs0 ys0 hu hs
      cases h
      rw [hs] at hx
      obtain ⟨a0, hxs⟩ := VR.hollow_ hx
      exact fin _ rfl fun w => by simp [Builtin.len_, run_underlying hu, hxs, goInt]
    · rename_i k el hu hs
      cases h
      rw [hs] at hx
      have hxs := VR.scalar_eq (v := .map none) rfl hx
      exact fin _ rfl fun w => by simp [Builtin.len_, run_underlying hu, hxs, goInt]
    · rename_i k el r hu hs
      cases h
      rw [hs] at hx
      obtain ⟨l, hl, hxs⟩ := VR.map_ hx
      intro σ w v hr hv
      simp only at hv
      split at hv
      case h_2 => cases hv
      rename_i es ck hg
      cases hv
      obtain ⟨_, es', h1, h2⟩ := get_map hr hg hl
      refine ⟨_, .cell _ _ (.scalar _ rfl), ?_⟩
      rw [hex]
      simp [builtin, Builtin.len_, run_underlying hu, hxs, run_getMap h1, goInt, h2.1]
    · cases h
  · -- copy
    rename_i t t1 s x e2
    obtain ⟨a, b, rfl, rfl, rfl⟩ : ∃ a b, args = [a, b] ∧ e a = s ∧ e b = x := by
      match args, e2 with
      | [a, b], h => simp at h; exact ⟨a, b, rfl, h.1, h.2⟩
      | [], h => simp at h
      | [_], h => simp at h
      | _ :: _ :: _ :: _, h => simp at h
    split at h
    case h_2 => cases h
    rename_i el hu
    split at h
    case h_2 => cases h
    rename_i sz hsz
    cases h
    intro σ w v σ' hr hv
    obtain ⟨w', a1, a2, M', a3, a4⟩ := copy_sound (P := P) (ts := #[t, t1]) (ty := o.type) rfl hu hsz (he a (by simp)) (he b (by simp)) hr hv
    refine ⟨M', .value v, w', v, ?_, .inl rfl, .cell _ _ (.scalar _ a2), a3, a4⟩
    rw [hex]
    simp [builtin, a1]
  · -- clear
    rename_i t x e2
    obtain ⟨a, rfl, rfl⟩ : ∃ a, args = [a] ∧ e a = x := by
      match args, e2 with
      | [a], h => simp at h; exact ⟨a, rfl, h⟩
      | [], h => simp at h
      | _ :: _ :: _, h => simp at h
    split at h
    case h_2 => cases h
    rename_i kt et hu
    cases h
    intro σ w v σ' hr hv
    obtain ⟨rfl, M', w', a1, a2, a3⟩ := clear_sound (P := P) (ts := #[t]) (ty := o.type) rfl hu (he a (by simp)) hr hv
    refine ⟨M', .value (.tuple #[]), w', .tuple #[], ?_, .inl rfl, .junk _, a2, a3⟩
    rw [hex]
    simp [builtin, a1]
  · -- delete
    rename_i t t1 s x e2
    obtain ⟨a, b, rfl, rfl, rfl⟩ : ∃ a b, args = [a, b] ∧ e a = s ∧ e b = x := by
      match args, e2 with
      | [a, b], h => simp at h; exact ⟨a, b, rfl, h.1, h.2⟩
      | [], h => simp at h
      | [_], h => simp at h
      | _ :: _ :: _ :: _, h => simp at h
    cases h
    intro σ w v σ' hr hv
    obtain ⟨rfl, M', w', a1, a2, a3⟩ := delete_sound (P := P) (ts := #[t, t1]) (ty := o.type) rfl (he a (by simp)) (he b (by simp)) hr hv
    refine ⟨M', .value (.tuple #[]), w', .tuple #[], ?_, .inl rfl, .junk _, a2, a3⟩
    rw [hex]
    simp [builtin, a1]
  · rename_i t s x e2
    obtain ⟨a, b, rfl, rfl, rfl⟩ : ∃ a b, args = [a, b] ∧ e a = s ∧ e b = x := by
      match args, e2 with
      | [a, b], h => simp at h; exact ⟨a, b, rfl, h.1, h.2⟩
      | [], h => simp at h
      | [_], h => simp at h
      | _ :: _ :: _ :: _, h => simp at h
    cases h
    intro σ w v σ' hr hv
    obtain ⟨rfl, M', w', a1, a2, a3⟩ := delete_sound (P := P) (ts := #[t]) (ty := o.type) rfl (he a (by simp)) (he b (by simp)) hr hv
    refine ⟨M', .value (.tuple #[]), w', .tuple #[], ?_, .inl rfl, .junk _, a2, a3⟩
    rw [hex]
    simp [builtin, a1]
  · obtain ⟨v, hv, rfl⟩ := ofVal_some h
    obtain ⟨h1, y, rest, h3, h2⟩ := max_sound (P := P) true args v he hv
    refine ⟨v, .cell _ _ (.scalar _ h1), fun w => ?_⟩
    rw [hex]
    have := h2 w
    simp only [if_true] at this
    have e9 : ∀ tt, (Builtin.max_ tt o.type (Array.map ρ args.toArray)).run P w = .ok v w := by
      intro tt
      unfold Builtin.max_
      simp only [Array.toList_map, h3]
      exact this
    simp only [builtin, Sem.run_bind]
    rw [e9]
    rfl
  · obtain ⟨v, hv, rfl⟩ := ofVal_some h
    obtain ⟨h1, y, rest, h3, h2⟩ := max_sound (P := P) false args v he hv
    refine ⟨v, .cell _ _ (.scalar _ h1), fun w => ?_⟩
    rw [hex]
    have := h2 w
    simp only [Bool.false_eq_true, if_false] at this
    have e9 : ∀ tt, (Builtin.min_ tt o.type (Array.map ρ args.toArray)).run P w = .ok v w := by
      intro tt
      unfold Builtin.min_
      simp only [Array.toList_map, h3]
      exact this
    simp only [builtin, Sem.run_bind]
    rw [e9]
    rfl
  · cases h
theorem op_sound {o : Oper} {e ρ : Operand → Value} {A : Action} (hok : okOp P o = true) (he : ∀ x ∈ o.op.operands.toList, VR M false (e x) (ρ x)) (h : action P o e = some A) : Sound P M (execOp ρ o) A := by
  unfold okOp at hok
  simp only [Bool.and_eq_true] at hok
  replace hok := hok.2
  obtain ⟨op, hop⟩ : ∃ op, o.op = op := ⟨_, rfl⟩
  unfold action at h
  rw [hop] at hok he h
  cases op with
  | move x => cases h; exact ⟨ρ x, he x (by simp [Op.operands]), fun w => by simp [execOp, hop]⟩
  | assign x => cases h; exact ⟨ρ x, he x (by simp [Op.operands]), fun w => by simp [execOp, hop]⟩
  | pick c a b =>
    simp only at h
    split at h
    case h_2 => cases h
    rename_i t hc
    cases h
    have hcv := he c (by simp [Op.operands])
    rw [hc] at hcv
    refine ⟨bif t then ρ a else ρ b, ?_, fun w => ?_⟩
    · cases t
      · exact he b (by simp [Op.operands])
      · exact he a (by simp [Op.operands])
    · cases t <;> simp [execOp, hop, hcv.bool_, asBool]
  | alloc t =>
    simp only at h hok
    split at h
    case h_2 => cases h
    rename_i z hz
    cases h
    exact alloc_sound hop hz (by simpa [zerosOk, hz] using hok)
  | box t x =>
    simp only at h
    split at h
    case h_2 => cases h
    rename_i cs hc
    cases h
    exact box_sound hop (he x (by simp [Op.operands])) hc
  | build t parts =>
    simp only at h hok
    refine sound_of (s := Instr.build t (parts.map fun (x : Nat × Operand) => (x.1, ρ x.2))) ?_ h fun v hv => build_sound hok (fun x hx => he x.2 (by simp [Op.operands]; exact ⟨x.1, by simpa using hx⟩)) hv
    simp only [execOp, hop]
  | buildSlice t n parts =>
    simp only at h hok
    split at h
    case h_2 => cases h
    rename_i el hu
    rw [hu] at hok
    simp only at hok
    split at h
    case h_2 => cases h
    rename_i ze hze
    split at h
    case h_2 => cases h
    rename_i fs hfs
    cases hle : Nat.ble (n * ze.length) 16777216 <;> rw [hle] at h <;> simp only [cond_true, cond_false] at h
    case false => cases h
    cases h
    obtain ⟨z, n', r1, r2, r3, r4, r5⟩ := rowOk_spec hok
    rw [hze] at r1; cases r1
    subst r4
    obtain ⟨arr, h1, h2⟩ := buildSlice_sound hu hze r3 r2 r5 hle (fun x hx => he x.2 (by simp [Op.operands]; exact ⟨x.1, by simpa using hx⟩)) hfs
    refine sound_new (e := el) h1 (slice_new_ok n) fun w => ?_
    have h3 := h2 w
    simp only [execOp, hop, Sem.run_bind]
    rw [h3]
    rfl
  | load t a =>
    simp only at h
    split at h
    case h_2 => cases h
    rename_i b n hb hn
    cases h
    intro σ w v hr hv
    obtain ⟨v', h1, h2⟩ := load_sound hb hn (he a (by simp [Op.operands])) hr hv
    exact ⟨v', h1, by simp [execOp, hop, h2]⟩
  | store t a x =>
    simp only at h
    split at h
    case h_2 => cases h
    rename_i n hn
    cases h
    intro σ w v σ' hr hv
    obtain ⟨rfl, M', w', h1, h2, h3⟩ := store_sound hn (he a (by simp [Op.operands])) (he x (by simp [Op.operands])) hr hv
    exact ⟨M', .skip, w', undef, by simp [execOp, hop, h1], .inr ⟨rfl, rfl⟩, .junk _, h2, h3⟩
  | nilCheck x =>
    simp only at h
    have hx := he x (by simp [Op.operands])
    split at h
    · rename_i a hxe
      cases h
      rw [hxe] at hx
      obtain ⟨hs, l, hl, hxr⟩ := VR.ptr_ (i := a.block) (o := a.off) (s := a.spot) hx
      exact ⟨_, hx, fun w => by simp [execOp, hop, hxr]⟩
    · rename_i f xs ys hxe
      cases h
      rw [hxe] at hx
      obtain ⟨f', xs', ys', e1, hxr, _⟩ := VR.func_ hx
      exact ⟨_, hx, fun w => by simp [execOp, hop, hxr]⟩
    · cases h
  | binOp op t x y yt => exact bin_sound hok (he x (by simp [Op.operands])) (he y (by simp [Op.operands])) h o hop
  | unOp op t x =>
    refine sound_of (s := Op.unary op (ρ x)) (by simp only [execOp, hop]) h fun v hv => ?_
    have hx := he x (by simp [Op.operands])
    unfold unV at hv
    split at hv
    · rename_i b hxe
      cases hv
      rw [hxe] at hx
      exact ⟨_, .cell _ _ (.scalar _ rfl), fun w => by simp [hx.bool_, Op.unary]⟩
    · rename_i k n hxe
      cases hv
      rw [hxe] at hx
      exact ⟨_, .cell _ _ (.scalar _ rfl), fun w => by simp [hx.int_, Op.unary, Op.intArith]⟩
    · rename_i k n hxe
      cases hv
      rw [hxe] at hx
      exact ⟨_, .cell _ _ (.scalar _ rfl), fun w => by simp [hx.int_, Op.unary, Op.intBits]⟩
    · cases hv
  | convert src dst x =>
    simp only at h
    have hx := he x (by simp [Op.operands])
    split at h
    · rename_i d k k' n h1 h2 h3
      cases h
      rw [h3] at hx
      refine ⟨_, .cell _ _ (.scalar _ rfl), fun w => ?_⟩
      simp only [execOp, hop, hx.int_, convert, Sem.run_bind, run_underlying h1, run_underlying h2, Result.andThen_ok]
      cases d <;> simp [Conv.intToInt]
    · rename_i s h1 h2 h3
      cases h
      rw [h3] at hx
      refine ⟨_, .cell _ _ (.scalar _ rfl), fun w => ?_⟩
      simp [execOp, hop, hx.string_, convert, run_underlying h1, run_underlying h2]
    · rename_i el s h1 h2 h3
      split at h
      case h_2 => cases h
      rename_i h4
      cases h
      rw [h3] at hx
      refine ⟨rfl, fun w => ?_⟩
      obtain ⟨v', l, w', y, k1, k2⟩ := bytes_sound (M := M) (s := s) h1 h2 h4 w
      exact ⟨v', l, w', y, by simp [execOp, hop, hx.string_, k1], k2⟩
    · rename_i el' el h1 h2
      split at h
      case h_2 => cases h
      rename_i h4
      cases hb : Nat.beq src dst <;> rw [hb] at h <;> simp only [cond_true, cond_false] at h
      case false => cases h
      cases h
      intro σ w v σ' hr hv
      have hsd : (src == dst) = true := by simp [Nat.eq_of_beq_eq_true hb]
      obtain ⟨v', w', M', k1, k2, k3, k4⟩ := hand_sound h1 h2 h4 hsd hx hr hv
      exact ⟨M', .value v', w', v', by simp [execOp, hop, k1], .inl rfl, k2, k3, k4⟩
    · cases h
  | sliceToArrayPointer t x =>
    simp only at h
    have hx := he x (by simp [Op.operands])
    split at h
    case h_2 => cases h
    rename_i n el i o0 s len c hu hxe
    cases hle : Nat.ble n len <;> rw [hle] at h <;> simp only [cond_true, cond_false] at h
    case false => cases h
    cases h
    have hle' := Nat.le_of_ble_eq_true hle
    rw [hxe] at hx
    obtain ⟨l, c', hl, hxr, _⟩ := VR.slice_ hx
    refine ⟨.pointer (some ⟨l.block, l.base + o0, none⟩), .cell _ _ (.ptr i o0 l hl), fun w => ?_⟩
    have : ¬ len < n := by omega
    simp [execOp, hop, hxr, Instr.arrayAt, run_underlying hu, this]
  | makeFunc fn first captured =>
    cases fn with
    | func f =>
      cases h
      have h1 : ∀ x ∈ first.toList, VR M false (e x) (ρ x) := fun x hx => he x (by simp [Op.operands]; left; simpa using hx)
      have h2 : ∀ x ∈ captured.toList, VR M false (e x) (ρ x) := fun x hx => he x (by simp [Op.operands]; right; simpa using hx)
      refine ⟨.func (.func f) (first.map ρ) (captured.map ρ), .cell _ _ (.func f _ _ _ _ (by simp) (by simp) (fun i v v' hv hv' => ?_) (fun i v v' hv hv' => ?_)), fun w => by simp [execOp, hop, Instr.makeFunc]⟩
      · exact args_sound h1 i v v' (by rw [← Array.getElem?_toList] at hv; simpa using hv) (by rw [← Array.getElem?_toList] at hv'; simpa using hv')
      · exact args_sound h2 i v v' (by rw [← Array.getElem?_toList] at hv; simpa using hv) (by rw [← Array.getElem?_toList] at hv'; simpa using hv')
    | _ => cases h
  | makeInterface t x =>
    simp only at h
    split at h
    case h_2 => cases h
    rename_i el hu
    cases h
    exact ⟨.iface t (ρ x), .cell _ _ (.iface t _ _ (he x (by simp [Op.operands]))), fun w => by simp [execOp, hop, Instr.makeInterface, run_underlying hu]⟩
  | makeMap t r =>
    cases r with
    | none => cases h; exact makeMap_sound hop
    | some r => cases h
  | makeSlice t l c =>
    simp only at h hok
    split at h
    case h_2 => cases h
    rename_i el hu
    rw [hu] at hok
    simp only at hok
    split at h
    case h_2 => cases h
    rename_i ze by_ k li k' ci hze hby hle hce
    split at h
    case isFalse => cases h
    rename_i hc
    cases h
    have hl := he l (by simp [Op.operands]); rw [hle] at hl
    have hc' := he c (by simp [Op.operands]); rw [hce] at hc'
    exact makeSlice_sound hop hu hze hok hby hl.int_ hc'.int_ hc
  | slice t x lo hi mx =>
    have hall : ∀ y : Option Operand, (∀ z, y = some z → VR M false (e z) (ρ z)) → OptR M (y.map e) (y.map ρ) := fun y hy => by
      cases y with
      | none => trivial
      | some z => exact hy z rfl
    refine sound_of (s := Instr.sliceAt t (ρ x) (lo.map ρ) (hi.map ρ) (mx.map ρ)) (by simp only [execOp, hop]) h fun v hv =>
      slice_sound (he x (by simp [Op.operands])) (hall lo fun z hz => he z (by simp [Op.operands, hz])) (hall hi fun z hz => he z (by simp [Op.operands, hz])) (hall mx fun z hz => he z (by simp [Op.operands, hz])) hv
  | fieldAddr t x f => exact sound_of (s := Instr.fieldAt t (ρ x) f) (by simp only [execOp, hop]) h fun v hv => fieldAddr_sound (he x (by simp [Op.operands])) hv
  | field t x f => exact sound_of (s := Instr.field t (ρ x) f) (by simp only [execOp, hop]) h fun v hv => field_sound (he x (by simp [Op.operands])) hv
  | indexAddr t x i => exact sound_of (s := Instr.indexAt t (ρ x) (ρ i)) (by simp only [execOp, hop]) h fun v hv => indexAddr_sound (he x (by simp [Op.operands])) (he i (by simp [Op.operands])) hv
  | index t x i => exact sound_of (s := Instr.index t (ρ x) (ρ i)) (by simp only [execOp, hop]) h fun v hv => index_sound (he x (by simp [Op.operands])) (he i (by simp [Op.operands])) hv
  | lookup t x k ok =>
    simp only at h hok
    cases h
    intro σ w v hr hv
    obtain ⟨v', h1, h2⟩ := lookup_sound (fun kt et z hu hz => by rw [hu] at hok; simpa [zeroOk, hz] using hok) (he x (by simp [Op.operands])) (he k (by simp [Op.operands])) hr hv
    exact ⟨v', h1, by simp [execOp, hop, h2]⟩
  | mapUpdate t m k x =>
    cases h
    intro σ w v σ' hr hv
    obtain ⟨rfl, M', w', h1, h2, h3⟩ := mapUpdate_sound (he m (by simp [Op.operands])) (he k (by simp [Op.operands])) (he x (by simp [Op.operands])) hr hv
    exact ⟨M', .skip, w', undef, by simp [execOp, hop, h1], .inr ⟨rfl, rfl⟩, .junk _, h2, h3⟩
  | mapEntry t m k =>
    simp only at h hok
    cases h
    intro σ w v σ' hr hv
    obtain ⟨u', M', w', h1, h2, h3, h4⟩ := mapEntry_sound (fun kt et z hu hz => by rw [hu] at hok; simpa [zeroOk, hz] using hok) (he m (by simp [Op.operands])) (he k (by simp [Op.operands])) hr hv
    exact ⟨M', .value u', w', u', by simp [execOp, hop, h2], .inl rfl, h1, h3, h4⟩
  | entryStore t m s x =>
    cases h
    intro σ w v σ' hr hv
    obtain ⟨rfl, M', w', h1, h2, h3⟩ := entryStore_sound (P := P) (t := t) (he m (by simp [Op.operands])) (he s (by simp [Op.operands])) (he x (by simp [Op.operands])) hr hv
    exact ⟨M', .skip, w', undef, by simp [execOp, hop, h1], .inr ⟨rfl, rfl⟩, .junk _, h2, h3⟩
  | range t x =>
    cases h
    intro σ w v σ' hr hv
    obtain ⟨u', M', w', h1, h2, h3, h4⟩ := range_sound (he x (by simp [Op.operands])) hr hv
    exact ⟨M', .value u', w', u', by simp [execOp, hop, h2], .inl rfl, h1, h3, h4⟩
  | entry x =>
    cases h
    intro σ w v hr hv
    obtain ⟨v', h1, h2⟩ := entry_sound (P := P) (he x (by simp [Op.operands])) hr hv
    exact ⟨v', h1, by simp [execOp, hop, h2]⟩
  | next x b =>
    cases b with
    | true => cases h
    | false =>
      cases h
      intro σ w ls hr hv
      obtain ⟨v, σ', M', w', v', h0, h1, h2, h3, h4⟩ := next_sound (P := P) o.type (he x (by simp [Op.operands])) hr hv
      exact ⟨v, σ', M', w', v', h0, by simp [execOp, hop, h1], h2, h3, h4⟩
  | extract x i =>
    simp only at h
    have hx := he x (by simp [Op.operands])
    split at h
    case h_2 => cases h
    rename_i vs hxe
    obtain ⟨v, hv, rfl⟩ := ofVal_some h
    rw [hxe] at hx
    have hi := (Array.getElem?_eq_some_iff.1 hv).1
    obtain ⟨ys, hxr, h1, h2⟩ := VR.tuple_ hx (by omega)
    have hy : ys[i]? = some ys[i] := Array.getElem?_eq_getElem (by omega)
    exact ⟨ys[i], h2 i v _ hv hy, fun w => by simp [execOp, hop, hxr, Instr.extract, hy]⟩
  | call c =>
    simp only at h
    split at h
    · rename_i b hb
      exact builtin_sound hop hb (fun x hx => he x (by simp [Op.operands, Call.operands]; right; simpa using hx)) h
    · rename_i f hf
      split at h
      case h_2 => cases h
      rename_i g first captured hfe
      cases hg : callable P g <;> rw [hg] at h <;> simp only [cond_true, cond_false] at h
      case false => cases h
      cases h
      exact call_sound hop hf (fun x hx => he x (by simpa [Op.operands] using hx)) hfe hg
    · cases h
  | _ => cases h
end Go.Am
end
