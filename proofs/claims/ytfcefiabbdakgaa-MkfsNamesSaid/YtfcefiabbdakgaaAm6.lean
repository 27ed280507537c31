/- The abstract machine, part 6: composites, addresses, slices are as the model has them. No program in sight. -/
import Derived.Test.YtfcefiabbdakgaaAm5
set_option linter.all false
namespace Go.Am
open Go.RowKit
variable {P : Program} {M : Places} {σ : Store} {w : World}

/-! ## composites -/
theorem foldl_put : ∀ (vs : List Value) (k o : Nat) (z : Array Value), o + k + vs.length ≤ z.size →
    ((vs.zipIdx k).foldl (fun cs (x : Value × Nat) => cs.setIfInBounds (o + x.2) x.1) z).size = z.size ∧
    ∀ j, ((vs.zipIdx k).foldl (fun cs (x : Value × Nat) => cs.setIfInBounds (o + x.2) x.1) z)[j]? = if o + k ≤ j ∧ j < o + k + vs.length then vs[j - (o + k)]? else z[j]?
  | [], k, o, z, _ => ⟨rfl, fun j => by simp; omega⟩
  | v :: vs, k, o, z, h => by
    simp only [List.length_cons] at h
    obtain ⟨h1, h2⟩ := foldl_put vs (k + 1) o (z.setIfInBounds (o + k) v) (by simp; omega)
    simp only [List.zipIdx_cons, List.foldl_cons]
    refine ⟨by rw [h1]; simp, fun j => ?_⟩
    rw [h2 j, Array.getElem?_setIfInBounds]
    by_cases e : o + k = j
    · subst e
      rw [if_neg (by omega), if_pos rfl, if_pos (by omega), if_pos (by simp)]
      simp
    · rw [if_neg e]
      by_cases c : o + (k + 1) ≤ j ∧ j < o + (k + 1) + vs.length
      · rw [if_pos c, if_pos (by simp; omega)]
        rw [show j - (o + k) = (j - (o + (k + 1))) + 1 from by omega]
        rfl
      · rw [if_neg c, if_neg (by simp; omega)]
theorem flatten_set : ∀ (fs : List (List Value)) (i : Nat) (z c : List Value), fs[i]? = some z → c.length = z.length → (fs.set i c).flatten.length = fs.flatten.length ∧ (fs.take i).flatten.length + z.length ≤ fs.flatten.length ∧
    ∀ j, (fs.set i c).flatten[j]? = if (fs.take i).flatten.length ≤ j ∧ j < (fs.take i).flatten.length + c.length then c[j - (fs.take i).flatten.length]? else fs.flatten[j]?
  | [], i, z, c, h, _ => by simp at h
  | f :: fs, 0, z, c, h, hl => by
    simp at h
    subst h
    refine ⟨by simp [hl], by simp, fun j => ?_⟩
    simp only [List.set_cons_zero, List.flatten_cons, List.take_zero, List.flatten_nil, List.length_nil, Nat.zero_le, Nat.zero_add, true_and, Nat.sub_zero, List.getElem?_append]
    by_cases h1 : j < c.length
    · rw [if_pos h1, if_pos h1]
    · rw [if_neg h1, if_neg h1, if_neg (by omega), hl]
  | f :: fs, i + 1, z, c, h, hl => by
    obtain ⟨h1, h2, h3⟩ := flatten_set fs i z c (by simpa using h) hl
    refine ⟨by simp only [List.set_cons_succ, List.flatten_cons, List.length_append, h1], by simp only [List.take_succ_cons, List.flatten_cons, List.length_append]; omega, fun j => ?_⟩
    simp only [List.set_cons_succ, List.flatten_cons, List.take_succ_cons, List.length_append, List.getElem?_append]
    by_cases h4 : j < f.length
    · rw [if_pos h4, if_pos h4, if_neg (by omega)]
    · rw [if_neg h4, if_neg h4, h3]
      by_cases h5 : (fs.take i).flatten.length ≤ j - f.length ∧ j - f.length < (fs.take i).flatten.length + c.length
      · rw [if_pos h5, if_pos (by omega)]
        congr 1; omega
      · rw [if_neg h5, if_neg (by omega)]
theorem set_shape (fs : List (List Value)) (i : Nat) (z c : List Value) (h : fs[i]? = some z) (hl : c.length = z.length) : (fs.set i c).map List.length = fs.map List.length := by
  rw [List.map_set, hl]
  apply List.ext_getElem?
  intro j
  rw [List.getElem?_set]
  by_cases e : i = j
  · subst e
    simp [h]
    exact (List.getElem?_eq_some_iff.1 h).1
  · rw [if_neg e]
theorem take_shape {fs gs : List (List Value)} (h : fs.map List.length = gs.map List.length) (i : Nat) : (fs.take i).flatten.length = (gs.take i).flatten.length := by
  rw [List.length_flatten, List.length_flatten, List.map_take, List.map_take, h]

/-- Where the parts lie. -/
def PlaceOk (place : Nat → Option (Nat × Nat)) (fs : List (List Value)) : Prop := ∀ (i : Nat) (z : List Value), fs[i]? = some z → place i = some ((fs.take i).flatten.length, z.length)

theorem fill_sound {place : Nat → Option (Nat × Nat)} : ∀ (parts : List (Nat × Value)) (parts' : List (Nat × Value)) (fs gs : List (List Value)) (zs : Array Value),
    parts.length = parts'.length → (∀ (i : Nat) (a b : Nat × Value), parts[i]? = some a → parts'[i]? = some b → a.1 = b.1 ∧ VR M false a.2 b.2) → PlaceOk place fs → Cells M fs.flatten zs.toList → buildL fs parts = some gs →
    ∃ zs', Instr.fill place zs parts' = some zs' ∧ Cells M gs.flatten zs'.toList
  | [], parts', fs, gs, zs, hl, _, _, hc, h => by
    cases parts' with
    | cons x xs => simp at hl
    | nil => simp [buildL] at h; subst h; exact ⟨zs, rfl, hc⟩
  | (i, v) :: parts, [], fs, gs, zs, hl, _, _, _, _ => by simp at hl
  | (i, v) :: parts, (i', v') :: parts', fs, gs, zs, hl, hp, hpl, hc, h => by
    obtain ⟨e, hv⟩ := hp 0 (i, v) (i', v') rfl rfl
    simp only at e hv
    subst e
    unfold buildL at h
    cases hz : fs[i]? with
    | none => rw [hz] at h; cases h
    | some z =>
      rw [hz] at h
      simp only at h
      cases ha : asCells z.length v with
      | none => rw [ha] at h; cases h
      | some c =>
        rw [ha] at h
        simp only at h
        obtain ⟨hcl, hlen⟩ := asCells_some ha
        have hvc := VR.cells_ hv hcl
        have hsz : v'.cells.size = z.length := by rw [← hlen, hvc.1]; simp
        obtain ⟨f1, f2, f3⟩ := flatten_set fs i z c hz hlen
        have hzs : zs.size = fs.flatten.length := by rw [hc.1]; simp
        have hsh := set_shape fs i z c hz hlen
        have hpi := hpl i z hz
        have hsame : ∀ j, ((fs.set i c).take j).flatten.length = (fs.take j).flatten.length := fun j => take_shape hsh j
        generalize hF : (fs.take i).flatten.length = F at *
        unfold Instr.fill
        rw [hpi]
        simp only
        rw [if_neg (by simp only [Bool.or_eq_true, decide_eq_true_eq, not_or, ne_eq]; omega)]
        obtain ⟨g1, g2⟩ := foldl_put v'.cells.toList 0 F zs (by simp; omega)
        have hfold : (v'.cells.zipIdx.foldl (fun cs x => cs.setIfInBounds (F + x.2) x.1) zs) = (v'.cells.toList.zipIdx.foldl (fun cs (x : Value × Nat) => cs.setIfInBounds (F + x.2) x.1) zs) := by
          rw [← Array.foldl_toList, Array.toList_zipIdx]
        have hfold' : (v'.cells.zipIdx.foldl (fun cs (x : Value × Nat) => match x with | (c, j) => cs.setIfInBounds (F + j) c) zs) = (v'.cells.toList.zipIdx.foldl (fun cs (x : Value × Nat) => cs.setIfInBounds (F + x.2) x.1) zs) := hfold
        rw [hfold']
        refine fill_sound parts parts' (fs.set i c) gs _ (by simpa using hl) (fun j a b ha hb => hp (j + 1) a b (by simpa using ha) (by simpa using hb)) (fun j y hy => ?_) ⟨?_, fun j a b ha hb => ?_⟩ h
        · rw [hsame j]
          by_cases e : i = j
          · subst e
            rw [List.getElem?_set] at hy
            simp at hy
            obtain ⟨_, rfl⟩ := hy
            rw [hpi, hF, hlen]
          · rw [List.getElem?_set_ne e] at hy
            exact hpl j y hy
        · rw [f1, hc.1]
          simp only [Array.length_toList] at g1 ⊢
          exact g1.symm
        · rw [f3] at ha
          rw [Array.getElem?_toList, g2, Nat.add_zero] at hb
          rw [Array.length_toList, hsz, ← hlen] at hb
          by_cases c1 : F ≤ j ∧ j < F + c.length
          · rw [if_pos c1] at ha hb
            exact hvc.2 _ a b ha hb
          · rw [if_neg c1] at ha hb
            exact hc.2 j a b ha (by simpa using hb)
/-! ### where parts lie -/
def offsOk : Nat → List Field → List Nat → Bool
  | _, [], [] => true
  | k, f :: fs, n :: ns => f.offset == k && offsOk (k + n) fs ns
  | _, _, _ => false
def sameS : Value → Value → Bool
  | .int k a, .int j b => k == j && a == b
  | .bool a, .bool b => a == b
  | .string a, .string b => a.data.toList == b.data.toList
  | .pointer none, .pointer none => true
  | .slice none a b, .slice none c d => a == c && b == d
  | .map none, .map none => true
  | .nilFunc, .nilFunc => true
  | .nilIface, .nilIface => true
  | _, _ => false
theorem sameS_eq {a b : Value} (h : sameS a b = true) : a = b := by
  unfold sameS at h
  split at h
  · simp at h; rw [h.1, h.2]
  · simp at h; rw [h]
  · rename_i a b
    have h1 : a.data.toList = b.data.toList := by simpa using h
    obtain ⟨⟨a⟩⟩ := a
    obtain ⟨⟨b⟩⟩ := b
    simp at h1
    rw [h1]
  · rfl
  · simp at h; rw [h.1, h.2]
  · rfl
  · rfl
  · rfl
  · cases h
def sameL : List Value → List Value → Bool
  | [], [] => true
  | a :: as, b :: bs => sameS a b && sameL as bs
  | _, _ => false
theorem sameL_eq : ∀ {as bs : List Value}, sameL as bs = true → as = bs
  | [], [], _ => rfl
  | a :: as, b :: bs, h => by
    simp only [sameL, Bool.and_eq_true] at h
    rw [sameS_eq h.1, sameL_eq h.2]
  | [], _ :: _, h => by cases h
  | _ :: _, [], h => by cases h

theorem cutL_flatten : ∀ (ns : List Nat) (z : List Value), ns.sum = z.length → (cutL ns z).flatten = z
  | [], z, h => by simp at h; simp [cutL, List.eq_nil_of_length_eq_zero h.symm]
  | n :: ns, z, h => by
    simp only [List.sum_cons] at h
    simp only [cutL, List.flatten_cons]
    rw [cutL_flatten ns (z.drop n) (by simp; omega), List.take_append_drop]
theorem cutL_at : ∀ (ns : List Nat) (z : List Value) (i : Nat) (y : List Value), ns.sum ≤ z.length → (cutL ns z)[i]? = some y → ns[i]? = some y.length ∧ ((cutL ns z).take i).flatten.length = (ns.take i).sum
  | [], z, i, y, _, h => by simp [cutL] at h
  | n :: ns, z, 0, y, h0, h => by
    simp only [List.sum_cons] at h0
    simp [cutL] at h
    subst h
    simp; omega
  | n :: ns, z, i + 1, y, h0, h => by
    simp only [List.sum_cons] at h0
    simp only [cutL, List.getElem?_cons_succ] at h
    obtain ⟨h1, h2⟩ := cutL_at ns (z.drop n) i y (by simp; omega) h
    refine ⟨by simpa using h1, ?_⟩
    simp only [cutL, List.take_succ_cons, List.flatten_cons, List.length_append, h2, List.sum_cons, List.length_take]
    omega
theorem offsOk_at : ∀ (k : Nat) (fs : List Field) (ns : List Nat) (i : Nat) (n : Nat), offsOk k fs ns = true → ns[i]? = some n → ∃ f, fs[i]? = some f ∧ f.offset = k + (ns.take i).sum
  | k, [], [], i, n, _, h => by simp at h
  | k, [], _ :: _, i, n, h, _ => by cases h
  | k, _ :: _, [], i, n, h, _ => by cases h
  | k, f :: fs, m :: ns, 0, n, h, hn => by
    simp only [offsOk, Bool.and_eq_true, beq_iff_eq] at h
    exact ⟨f, rfl, by simp [h.1]⟩
  | k, f :: fs, m :: ns, i + 1, n, h, hn => by
    simp only [offsOk, Bool.and_eq_true, beq_iff_eq] at h
    obtain ⟨f', h1, h2⟩ := offsOk_at (k + m) fs ns i n h.2 (by simpa using hn)
    exact ⟨f', by simpa using h1, by simp [h2]; omega⟩
theorem fieldSizes_at : ∀ (fs : List Field) (ns : List Nat), fieldSizes P fs = some ns → ns.length = fs.length ∧ ∀ (i : Nat) (f : Field), fs[i]? = some f → ∃ n, ns[i]? = some n ∧ tSize P f.type = some n
  | [], ns, h => by simp [fieldSizes] at h; subst h; exact ⟨rfl, fun i f hf => by simp at hf⟩
  | f :: fs, ns, h => by
    unfold fieldSizes at h
    cases hn : tSize P f.type with
    | none => rw [hn] at h; cases h
    | some n =>
      cases hs : fieldSizes P fs with
      | none => rw [hn, hs] at h; cases h
      | some ms =>
        rw [hn, hs] at h
        simp only [Option.some.injEq] at h
        subst h
        obtain ⟨h1, h2⟩ := fieldSizes_at fs ms hs
        refine ⟨by simp [h1], fun i g hg => ?_⟩
        cases i with
        | zero => simp at hg; subst hg; exact ⟨n, rfl, hn⟩
        | succ i => obtain ⟨m, a, b⟩ := h2 i g (by simpa using hg); exact ⟨m, by simpa using a, b⟩
theorem run_places : ∀ (fs : List Field) (ns : List Nat) (w : World), fieldSizes P fs = some ns → (fs.mapM fun f => (do pure (f.offset, ← sizeOf f.type) : Sem (Nat × Nat))).run P w = .ok ((fs.map (·.offset)).zip ns) w
  | [], ns, w, h => by simp [fieldSizes] at h; subst h; simp
  | f :: fs, ns, w, h => by
    unfold fieldSizes at h
    cases hn : tSize P f.type with
    | none => rw [hn] at h; cases h
    | some n =>
      cases hs : fieldSizes P fs with
      | none => rw [hn, hs] at h; cases h
      | some ms =>
        rw [hn, hs] at h
        simp only [Option.some.injEq] at h
        subst h
        rw [List.mapM_cons]
        simp only [Sem.run_bind, run_tSize hn, Result.andThen_ok, Sem.run_pure, run_places fs ms w hs]
        rfl

def okBuild (P : Program) (t : TypeId) : Bool :=
  match P.underlying t, tZeros P t with
  | some (.struct fields), some z =>
    z.all scalar && match fieldSizes P fields.toList with
    | some ns => offsOk 0 fields.toList ns && ns.sum == z.length
    | none => true
  | some (.array n e), some z =>
    z.all scalar && match tZeros P e, tSize P e with
    | some ze, some c => ze.length == c && sameL (List.replicate n ze).flatten z
    | _, _ => false
  | _, _ => true
theorem tZeros_run {t : TypeId} {z : List Value} (h : tZeros P t = some z) : ∃ v, cellsL v = some z ∧ v.cells = z.toArray ∧ ∀ w, (zeroValue t).run P w = .ok v w := by
  unfold tZeros at h
  cases hz : tZero P t with
  | none => rw [hz] at h; cases h
  | some v => rw [hz] at h; exact ⟨v, h, cellsL_eq h, fun w => run_tZero hz w⟩
theorem parts_map {e ρ : Operand → Value} {parts : Array (Nat × Operand)} (he : ∀ x ∈ parts.toList, VR M false (e x.2) (ρ x.2)) :
    ∀ (i : Nat) (a b : Nat × Value), (parts.toList.map fun (x : Nat × Operand) => (x.1, e x.2))[i]? = some a → (parts.map fun (x : Nat × Operand) => (x.1, ρ x.2)).toList[i]? = some b → a.1 = b.1 ∧ VR M false a.2 b.2 := by
  intro i a b ha hb
  rw [Array.toList_map] at hb
  rw [List.getElem?_map] at ha hb
  cases hx : parts.toList[i]? with
  | none => rw [hx] at ha; cases ha
  | some x =>
    rw [hx] at ha hb
    simp only [Option.map_some, Option.some.injEq] at ha hb
    subst ha hb
    exact ⟨rfl, he x (List.mem_of_getElem? hx)⟩
theorem place_rep (n : Nat) (ze : List Value) : PlaceOk (fun i => some (i * ze.length, ze.length)) (List.replicate n ze) := by
  intro i z hz
  have h0 := List.getElem?_eq_some_iff.1 hz
  obtain ⟨hi, e⟩ := h0
  simp at e hi
  subst e
  simp [List.take_replicate, Nat.min_eq_left (Nat.le_of_lt hi)]

theorem build_sound {t : TypeId} {parts : Array (Nat × Operand)} {e ρ : Operand → Value} {v : Value} (hok : okBuild P t = true) (he : ∀ x ∈ parts.toList, VR M false (e x.2) (ρ x.2)) (h : buildAgg P t (parts.toList.map fun (x : Nat × Operand) => (x.1, e x.2)) = some v) :
    ∃ v', VR M false v v' ∧ ∀ w, (Instr.build t (parts.map fun (x : Nat × Operand) => (x.1, ρ x.2))).run P w = .ok v' w := by
  unfold buildAgg at h
  unfold okBuild at hok
  have hpm := parts_map he
  have hpl : (parts.toList.map fun (x : Nat × Operand) => (x.1, e x.2)).length = (parts.map fun (x : Nat × Operand) => (x.1, ρ x.2)).toList.length := by simp
  split at h
  · rename_i fields z hu hz
    rw [hu, hz] at hok
    simp only [Bool.and_eq_true] at hok
    obtain ⟨hsc, hok⟩ := hok
    obtain ⟨zv, hz1, hz2, hz3⟩ := tZeros_run hz
    split at h
    · cases h
    rename_i ns hns
    rw [hns] at hok
    simp only [Bool.and_eq_true, beq_iff_eq] at hok
    cases hb : buildL (cutL ns z) (parts.toList.map fun (x : Nat × Operand) => (x.1, e x.2)) with
    | none => rw [hb] at h; cases h
    | some fs =>
      rw [hb] at h
      simp only [Option.map_some, Option.some.injEq] at h
      subst h
      have hfl := cutL_flatten ns z hok.2
      obtain ⟨zs', h1, h2⟩ := fill_sound (place := (((fields.toList.map (·.offset)).zip ns).toArray[·]?)) _ _ _ _ z.toArray hpl hpm (fun i y hy => by
        obtain ⟨c1, c2⟩ := cutL_at ns z i y (by omega) hy
        obtain ⟨f, d1, d2⟩ := offsOk_at 0 fields.toList ns i y.length hok.1 c1
        simp [List.zip, List.getElem?_zipWith, c1, c2]
        have : fields[i]? = some f := by simpa using d1
        simp [this, d2]) (by rw [hfl]; exact Cells.of_closed hsc) hb
      refine ⟨_, h2.vagg', fun w => ?_⟩
      unfold Instr.build
      simp only [Sem.run_bind, hz3, Result.andThen_ok, run_underlying hu, hz2, Array.mapM_eq_mapM_toList, Sem.run_map, run_places fields.toList ns w hns, h1]
      rfl
  · rename_i n el z hu hz
    rw [hu, hz] at hok
    simp only [Bool.and_eq_true] at hok
    obtain ⟨hsc, hok⟩ := hok
    obtain ⟨zv, hz1, hz2, hz3⟩ := tZeros_run hz
    split at h
    · cases h
    rename_i ze hze
    rw [hze] at hok
    cases hcs : tSize P el with
    | none => rw [hcs] at hok; cases hok
    | some c =>
      rw [hcs] at hok
      simp only [Bool.and_eq_true, beq_iff_eq] at hok
      obtain ⟨hlen, hsame⟩ := hok
      cases hb : buildL (List.replicate n ze) (parts.toList.map fun (x : Nat × Operand) => (x.1, e x.2)) with
      | none => rw [hb] at h; cases h
      | some fs =>
        rw [hb] at h
        simp only [Option.map_some, Option.some.injEq] at h
        subst h
        obtain ⟨zs', h1, h2⟩ := fill_sound (place := fun i => some (i * c, c)) _ _ _ _ z.toArray hpl hpm (by rw [← hlen]; exact place_rep n ze) (by rw [sameL_eq hsame]; exact Cells.of_closed hsc) hb
        refine ⟨_, h2.vagg', fun w => ?_⟩
        unfold Instr.build
        simp only [Sem.run_bind, hz3, Result.andThen_ok, run_underlying hu, hz2, run_tSize hcs, h1]
        rfl
  · cases h
end Go.Am
