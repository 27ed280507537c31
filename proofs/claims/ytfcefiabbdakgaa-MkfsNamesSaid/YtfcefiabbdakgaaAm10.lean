/- The abstract machine, part 10: every operation that the machine takes is as the model has it. No program in sight. -/
import Derived.Test.YtfcefiabbdakgaaAm9
set_option linter.all false
namespace Go.Am
open Go.RowKit
variable {P : Program} {M : Places} {σ : Store} {w : World}

theorem copy_sound {t ty el : TypeId} {ts : Array TypeId} {sz : Nat} {d d' x x' u : Value} {σ' : Store} (hts : ts[0]? = some t) (hu : P.underlying t = some (.slice el)) (hsz : tSize P el = some sz) (hd : VR M false d d') (hx : VR M false x x') (hr : Rel M σ w)
    (h : copyV sz d x σ = some (u, σ')) : ∃ w', (Builtin.copy_ ts ty #[d', x']).run P w = .ok u w' ∧ scalar u = true ∧ ∃ M', Rel M' σ' w' ∧ Step σ M w σ' M' w' := by
  unfold copyV at h
  split at h
  · rename_i n c m hm
    have := VR.scalar_eq (v := .slice none n c) rfl hd; subst this
    have hlen := lenV_sound (P := P) hx hm w
    cases hz : Nat.min m n == 0 <;> rw [hz] at h <;> simp only [cond_true, cond_false] at h
    case false => cases h
    split at h
    case h_2 => cases h
    rename_i news hnews
    cases h
    obtain ⟨news', h1, h2, h3⟩ := source_sound (P := P) hr hx hnews
    have hz' : Nat.min m n = 0 := by simpa using hz
    refine ⟨w, ?_, rfl, M, hr, Step.refl _ _ _⟩
    simp [Builtin.copy_, hts, run_underlying hu, hlen, hz', run_tSize hsz, h3 w rfl, goInt]
  · rename_i i o g n c m hm
    have hlen := lenV_sound (P := P) hx hm w
    obtain ⟨l, c', hl, rfl, _, _⟩ := VR.slice_ hd
    split at h
    case h_2 => cases h
    rename_i news cs g' hnews hg
    cases hle : Nat.ble (o + news.length) cs.length <;> rw [hle] at h <;> simp only [cond_true, cond_false] at h
    case false => cases h
    cases h
    have hle' := Nat.le_of_ble_eq_true hle
    obtain ⟨news', h1, h2, h3⟩ := source_sound (P := P) hr hx hnews
    obtain ⟨w', a1, a2, a3⟩ := write_cells (P := P) hr hg hl h1 hle'
    refine ⟨w', ?_, rfl, M, a2, a3⟩
    simp [Builtin.copy_, hts, run_underlying hu, hlen, run_tSize hsz, h3 w rfl, a1, goInt]
  · cases h
theorem minMax_sound {mx : Bool} : ∀ (xs : List Value) (ys : List Value) (a : Value) (v : Value), xs.length = ys.length → (∀ (i : Nat) (v v' : Value), xs[i]? = some v → ys[i]? = some v' → VR M false v v') →
    xs.foldl (fun acc y => match acc, y with
      | some (.int k a), .int _ b => some (.int k (bif mx then (if b > a then b else a) else (if b < a then b else a)))
      | _, _ => none) (some a) = some v → (∃ k n, a = .int k n) → scalar v = true ∧ ∀ w, (ys.foldlM (if mx then Builtin.max2 else Builtin.min2) a).run P w = .ok v w
  | [], [], a, v, _, _, h, ha => by obtain ⟨k, n, rfl⟩ := ha; simp at h; subst h; exact ⟨rfl, fun w => by simp⟩
  | [], _ :: _, a, v, hl, _, _, _ => by simp at hl
  | _ :: _, [], a, v, hl, _, _, _ => by simp at hl
  | x :: xs, y :: ys, a, v, hl, hr, h, ha => by
    obtain ⟨k, n, rfl⟩ := ha
    have hxy := hr 0 x y rfl rfl
    have none_ : ∀ xs : List Value, xs.foldl (fun (acc : Option Value) y => match acc, y with
      | some (.int k a), .int _ b => some (Value.int k (bif mx then (if b > a then b else a) else (if b < a then b else a)))
      | _, _ => none) none = none := fun xs => by induction xs with
      | nil => rfl
      | cons x xs ih => simpa using ih
    simp only [List.foldl_cons] at h
    cases x with
    | int k' b =>
      have := hxy.int_; subst this
      simp only at h
      obtain ⟨h1, h2⟩ := minMax_sound xs ys _ v (by simpa using hl) (fun i v v' hv hv' => hr (i + 1) v v' (by simpa using hv) (by simpa using hv')) h ⟨_, _, rfl⟩
      refine ⟨h1, fun w => ?_⟩
      rw [List.foldlM_cons]
      cases mx
      · simp only [Bool.false_eq_true, if_false, cond_false] at h2 ⊢
        simp only [Builtin.min2, Sem.run_bind, Sem.run_pure, Result.andThen_ok]
        exact h2 w
      · simp only [if_true, cond_true] at h2 ⊢
        simp only [Builtin.max2, Sem.run_bind, Sem.run_pure, Result.andThen_ok]
        exact h2 w
    | _ => simp only at h; rw [none_] at h; cases h

def okOperand : Operand → Bool
  | .const v => closed v
  | _ => true
def zerosOk (P : Program) (t : TypeId) : Bool :=
  match tZeros P t with
  | some z => z.all scalar
  | none => true
def zeroOk (P : Program) (t : TypeId) : Bool :=
  match tZero P t with
  | some z => closed z
  | none => true
def rowOk (P : Program) (t : TypeId) : Bool :=
  match tZeros P t, tSize P t with
  | some z, some n => z.all scalar && z.length == n && Nat.blt 0 n
  | _, _ => false
/-- What is asked of an operation's text. -/
def okOp (P : Program) (o : Oper) : Bool :=
  o.op.operands.toList.all okOperand &&
  match o.op with
  | .alloc t => zerosOk P t
  | .build t _ => okBuild P t
  | .buildSlice t _ _ => (match P.underlying t with | some (.slice el) => rowOk P el | _ => true)
  | .makeSlice t _ _ => (match P.underlying t with | some (.slice el) => rowOk P el | _ => true)
  | .lookup t _ _ _ => (match P.underlying t with | some (.map _ et) => zeroOk P et | _ => true)
  | .mapEntry t _ _ => (match P.underlying t with | some (.map _ et) => zeroOk P et | _ => true)
  | .binOp op t _ _ _ => guardOk P op t
  | _ => true

theorem ofVal_some {x : Option Value} {A : Action} (h : ofVal x = some A) : ∃ v, x = some v ∧ A = .val v := by
  cases x with
  | none => cases h
  | some v => simp [ofVal] at h; exact ⟨v, rfl, h.symm⟩
/-- A value and no more. -/
theorem sound_of {n : Sem Next} {s : Sem Value} {x : Option Value} {A : Action} (hn : n = (do let a ← s; pure (.value a))) (h : ofVal x = some A) (hs : ∀ v, x = some v → ∃ v', VR M false v v' ∧ ∀ w, s.run P w = .ok v' w) : Sound P M n A := by
  obtain ⟨v, e, rfl⟩ := ofVal_some h
  obtain ⟨v', h1, h2⟩ := hs v e
  exact ⟨v', h1, fun w => by rw [hn]; simp [h2]⟩
theorem args_sound {e ρ : Operand → Value} : ∀ {xs : List Operand}, (∀ x ∈ xs, VR M false (e x) (ρ x)) → ∀ (i : Nat) (v v' : Value), (xs.map e)[i]? = some v → (xs.map ρ)[i]? = some v' → VR M false v v' := by
  intro xs h i v v' hv hv'
  rw [List.getElem?_map] at hv hv'
  cases hx : xs[i]? with
  | none => rw [hx] at hv; cases hv
  | some x =>
    rw [hx] at hv hv'
    simp at hv hv'
    subst hv hv'
    exact h x (List.mem_of_getElem? hx)
theorem rowOk_spec {t : TypeId} (h : rowOk P t = true) : ∃ z n, tZeros P t = some z ∧ tSize P t = some n ∧ z.all scalar = true ∧ z.length = n ∧ 0 < n := by
  unfold rowOk at h
  split at h
  · rename_i z n hz hn
    simp only [Bool.and_eq_true, beq_iff_eq] at h
    exact ⟨z, n, hz, hn, h.1.1, h.1.2, by have := h.2; simp [Nat.blt] at this; omega⟩
  · cases h
theorem alloc_sound {t : TypeId} {o : Oper} {ρ : Operand → Value} {z : List Value} (ho : o.op = .alloc t) (hz : tZeros P t = some z) (hc : z.all scalar = true) : Sound P M (execOp ρ o) (.new (.cells z none) ptrTo) := by
  obtain ⟨zv, h1, h2, h3⟩ := tZeros_run hz
  refine sound_new (e := t) (arr := z.toArray) (by simpa using Cells.of_closed hc) ptrTo_ok fun w => ?_
  simp [execOp, ho, Instr.alloc, h3, newVar, newRow, h2, ptrTo]
theorem box_sound {t : TypeId} {x : Operand} {o : Oper} {e ρ : Operand → Value} {cs : List Value} (ho : o.op = .box t x) (hx : VR M false (e x) (ρ x)) (hc : cellsL (e x) = some cs) : Sound P M (execOp ρ o) (.new (.cells cs none) ptrTo) := by
  refine sound_new (e := t) (arr := (ρ x).cells) (VR.cells_ hx hc) ptrTo_ok fun w => ?_
  simp [execOp, ho, Instr.box, newVar, newRow, ptrTo]
theorem slice_new_ok (n : Nat) (N : Places) (i b : Nat) (h : N i = some ⟨b, 0, none⟩) : VR N false (.slice (some ⟨i, 0, none⟩) n n) (.slice (some ⟨b, 0, none⟩) n n) := by
  have := VR.slice i 0 n n ⟨b, 0, none⟩ h
  exact .cell _ _ (by simpa using this)
theorem makeMap_sound {t : TypeId} {o : Oper} {ρ : Operand → Value} (ho : o.op = .makeMap t none) : Sound P M (execOp ρ o) (.new (.map [] 0) fun i => .map (some i)) := ⟨rfl, fun w => by
  refine ⟨.map (some w.heap.size), ⟨w.heap.size, 0, none⟩, { w with heap := w.heap.push (.map #[] 0) }, .map #[] 0, ?_, rfl, rfl, ⟨rfl, #[], by simp, ⟨rfl, fun i e e' h => by simp at h⟩⟩, fun N i h => .cell _ _ (.map i _ h), rfl, rfl, rfl⟩
  simp [execOp, ho, Instr.makeMap]⟩
theorem makeSlice_sound {t el : TypeId} {l c : Operand} {o : Oper} {ρ : Operand → Value} {ze : List Value} {by_ : Nat} {k k' : IntKind} {li ci : Int} (ho : o.op = .makeSlice t l c) (hu : P.underlying t = some (.slice el)) (hz : tZeros P el = some ze) (hrow : rowOk P el = true) (hb : tBytes P el = some by_)
    (hl : ρ l = .int k li) (hc : ρ c = .int k' ci) (h : 0 ≤ li ∧ li = ci ∧ ci ≤ 9223372036854775807 ∧ by_ * ci ≤ 281474976710656) :
    Sound P M (execOp ρ o) (.new (.cells (List.replicate ci.toNat ze).flatten none) fun i => .slice (some ⟨i, 0, none⟩) ci.toNat ci.toNat) := by
  obtain ⟨z, n, r1, r2, r3, r4, r5⟩ := rowOk_spec hrow
  rw [hz] at r1; cases r1
  obtain ⟨zv, h1, h2, h3⟩ := tZeros_run hz
  obtain ⟨h0, rfl, hm, hbb⟩ := h
  have hrowl : ((Array.range (li.toNat * ze.length)).map fun i => ze.toArray[i % ze.toArray.size]!).toList = (List.replicate li.toNat ze).flatten := row_list (by omega) _
  refine sound_new (e := el) (arr := (Array.range (li.toNat * ze.length)).map fun i => ze.toArray[i % ze.toArray.size]!) (by rw [hrowl]; exact rep_cells r3 _) (slice_new_ok _) fun w => ?_
  obtain ⟨i, hi, hib, hit⟩ := run_tBytes hb w
  have hw1 : IntKind.i64.wrap li = li := by rw [IntKind.wrap_i64]; omega
  have hnl : ¬ li < 0 := by omega
  have hnb : ¬ ((by_ : Int) * li > 2 ^ 48) := by omega
  have hti : ∀ w, (typeInfo el).run P w = .ok i w := fun w => by simp [typeInfo, hi]
  have hno : ¬ (281474976710656 < (by_ : Int) * li) := by omega
  simp only [execOp, ho, hl, hc, Instr.makeSlice, Sem.run_bind, run_underlying hu, Result.andThen_ok, asInt, asIntOf, Sem.run_pure, hti, hib, hw1]
  have hcond : (decide (li < 0) || decide ((by_ : Int) * li > 2 ^ 48) || decide (li < 0) || decide (li > li)) = false := by simp [hnl, hno]
  simp only [hcond, Bool.false_eq_true, if_false, Sem.run_bind, run_askRoom, Result.andThen_ok, run_tSize r2, ← r4]
  by_cases hn0 : li.toNat * ze.length = 0
  · have hl0 : li.toNat = 0 := by
      rcases Nat.mul_eq_zero.1 hn0 with h0 | h0
      · exact h0
      · omega
    have hr0 : Array.range 0 = #[] := rfl
    simp only [hn0, if_true, Sem.run_bind, Sem.run_pure, Result.andThen_ok, hl0]
    simp [newRow]
    rw [hr0]
    simp
  · simp only [hn0, if_false, Sem.run_bind, h3, Sem.run_pure, Result.andThen_ok, h2]
    simp [newRow]
theorem call_sound {c : Call} {fv : Operand} {g : FuncId} {first captured : Array Value} {o : Oper} {e ρ : Operand → Value} (ho : o.op = .call c) (hcal : c.callee = .value fv) (he : ∀ x ∈ c.operands.toList, VR M false (e x) (ρ x)) (hf : e fv = .func (.func g) first captured) (hg : callable P g = true) :
    Sound P M (execOp ρ o) (.call g (first.toList ++ c.args.toList.map e ++ captured.toList)) := by
  have hfv : VR M false (e fv) (ρ fv) := he fv (by simp [Call.operands, hcal])
  rw [hf] at hfv
  obtain ⟨f', xs', ys', e1, e2, h1, h2, h3, h4⟩ := VR.func_ hfv
  cases e1
  have hargs : ∀ x ∈ c.args.toList, VR M false (e x) (ρ x) := fun x hx => he x (by simp [Call.operands]; right; simpa using hx)
  refine ⟨xs' ++ c.args.map ρ ++ ys', ⟨by simp [h1, h2], fun i v v' hv hv' => ?_⟩, fun w => ?_⟩
  · have hv'' : (xs'.toList ++ c.args.toList.map ρ ++ ys'.toList)[i]? = some v' := by
      rw [← Array.getElem?_toList] at hv'
      simpa using hv'
    rw [List.append_assoc, List.getElem?_append] at hv hv''
    simp only [Array.length_toList] at hv hv''
    by_cases c1 : i < first.size
    · rw [if_pos c1] at hv; rw [if_pos (by omega)] at hv''
      exact h3 i v v' (by simpa using hv) (by simpa using hv'')
    · rw [if_neg c1] at hv; rw [if_neg (by omega), ← h1] at hv''
      rw [List.getElem?_append] at hv hv''
      simp only [List.length_map, Array.length_toList] at hv hv''
      by_cases c2 : i - first.size < c.args.size
      · rw [if_pos c2] at hv hv''
        exact args_sound hargs _ v v' hv hv''
      · rw [if_neg c2] at hv hv''
        exact h4 _ v v' (by simpa using hv) (by simpa using hv'')
  · unfold callable at hg
    split at hg
    · rename_i fn hfn
      simp only [Bool.and_eq_true, bne_iff_ne, ne_eq] at hg
      have hb : fn.body.isNone = false := by cases hfb : fn.body <;> simp_all
      have hnm : (fn.name == "runtime.NumGoroutine") = false := by simpa using hg.1
      have hb' : ¬ fn.body = none := by intro h; rw [h] at hb; cases hb
      simp [execOp, ho, resolve, hcal, e2, Deferred.ofValue, invoke, callFunc, hfn, hg.1, hb']
    · cases hg

theorem freeze_heap {w : World} {b : Nat} {arr : Array Value} {e : TypeId} {fz : Nat × Nat} (h : w.heap[b]? = some (.cells arr e fz)) (n : Nat) : ∃ fz', (w.freeze ⟨b, n, none⟩ 1).heap[b]? = some (.cells arr e fz') ∧ (fz = (0, 0) → fz' = (n, n + 1)) ∧ (w.freeze ⟨b, n, none⟩ 1).heap.size = w.heap.size ∧ (∀ c, c ≠ b → (w.freeze ⟨b, n, none⟩ 1).heap[c]? = w.heap[c]?) ∧
    (w.freeze ⟨b, n, none⟩ 1).os = w.os ∧ (w.freeze ⟨b, n, none⟩ 1).tape = w.tape ∧ (w.freeze ⟨b, n, none⟩ 1).output = w.output := by
  unfold World.freeze
  rw [if_neg (by decide)]
  obtain ⟨lo, hi⟩ := fz
  refine ⟨if lo == hi then (n, n + 1) else (min lo n, max hi (n + 1)), ?_, fun e => ?_, by simp, fun c hc => ?_, rfl, rfl, rfl⟩
  · simp [Array.getElem?_modify, h]
  · cases e; rfl
  · simp [Array.getElem?_modify, Ne.symm hc]
theorem hand_sound {src dst el el' : TypeId} {x x' v : Value} {σ σ' : Store} {w : World} (h1 : P.underlying src = some (.slice el')) (h2 : P.underlying dst = some (.slice el)) (h3 : P.underlying el = some (.int .u8)) (hsd : (src == dst) = true)
    (hx : VR M false x x') (hr : Rel M σ w) (h : handV x σ = some (v, σ')) : ∃ v' w' M', (convert src dst x').run P w = .ok v' w' ∧ VR M' false v v' ∧ Rel M' σ' w' ∧ Step σ M w σ' M' w' := by
  unfold handV at h
  split at h
  case h_2 => cases h
  rename_i i o n c
  split at h
  case h_2 => cases h
  rename_i cs hg
  cases hc : (Nat.blt 0 cs.length && Nat.ble (o + c) cs.length) <;> rw [hc] at h <;> simp only [cond_true, cond_false] at h
  · cases h
  simp only [Bool.and_eq_true] at hc
  have hc1 : 0 < cs.length := Nat.le_of_ble_eq_true hc.1
  have hc2 := Nat.le_of_ble_eq_true hc.2
  cases h
  obtain ⟨l, c', hl, rfl, hcc, hor⟩ := VR.slice_ hx
  obtain rfl : c' = c := by
    rcases hor with ⟨_, e⟩ | ⟨sz, room, e, _⟩
    · exact e
    · cases e
  obtain ⟨l2, hl2, hsh⟩ := hr.shows i _ hg
  rw [hl] at hl2; cases hl2
  have hsh0 := hsh
  obtain ⟨hg1, arr, e, fz, hb, hrow, hfz, hroom⟩ := hsh
  have hfz0 : fz = (0, 0) := by
    rcases hfz with h0 | ⟨h0, _⟩
    · exact h0
    · exact absurd rfl h0
  obtain ⟨fz', k1, k2, k3, k4, k5, k6, k7⟩ := freeze_heap hb arr.size
  have hlen : l.base + cs.length ≤ arr.size := by
    obtain ⟨v', hv', _⟩ := hrow (cs.length - 1) cs[cs.length - 1] (List.getElem?_eq_getElem (by omega))
    have := (Array.getElem?_eq_some_iff.1 hv').1
    omega
  obtain ⟨a1, a2⟩ := hr.hand (w' := w.freeze ⟨l.block, arr.size, none⟩ 1) (o' := .cells cs (some 1)) (l' := ⟨l.block, l.base, some (1, cs.length)⟩) hg hl rfl rfl rfl k3 k4
    ⟨rfl, arr, e, fz', k1, hrow, .inr ⟨by simp, by rw [k2 hfz0]; exact Nat.le_refl _⟩, fun sz room h => by cases h; exact hlen⟩ k5 k6 k7
  refine ⟨.slice (some ⟨l.block, l.base + o, none⟩) n c', w.freeze ⟨l.block, arr.size, none⟩ 1, _, ?_, .cell _ _ (.grown σ.next o n c' c' 1 cs.length l.block l.base (Places.upd_same _ _ _) (Nat.le_refl _) (by omega)), a1, a2⟩
  simp [convert, run_underlying h1, run_underlying h2, run_underlying h3, hsd, markStringish, World.shape?, hb]
theorem bytes_sound {src dst el : TypeId} {s : ByteArray} (h1 : P.underlying src = some .string) (h2 : P.underlying dst = some (.slice el)) (h3 : P.underlying el = some (.int .u8)) (w : World) :
    ∃ v' l w' x, (convert src dst (.string s)).run P w = .ok v' w' ∧ w'.heap = w.heap.push x ∧ l.block = w.heap.size ∧ Shows M w' l (.cells (bytesV s) (some 1)) ∧ (∀ N i, N i = some l → VR N false (.slice (some ⟨i, 0, some 1⟩) s.size s.size) v') ∧ w'.os = w.os ∧ w'.tape = w.tape ∧ w'.output = w.output := by
  obtain ⟨q, hq⟩ : ∃ q : Question, q = .appendCap s.size 0 el := ⟨_, rfl⟩
  obtain ⟨nc, hnc⟩ : ∃ nc : Nat, nc = q.cut (w.tape w.drawn q) := ⟨_, rfl⟩
  have hncge : s.size ≤ nc := by rw [hnc, hq]; simp [Question.cut]
  have hqf : q.forced = false := by rw [hq]; rfl
  obtain ⟨arr, harr⟩ : ∃ arr : Array Value, arr = (s.data.map fun b => Value.int .u8 b.toNat) ++ Array.replicate (nc - s.size) (.int .u8 0) := ⟨_, rfl⟩
  have hsz : arr.size = nc := by
    rw [harr]
    have : s.data.size = s.size := rfl
    simp [this]; omega
  obtain ⟨w1, hw1⟩ : ∃ w1 : World, w1 = { w with drawn := w.drawn + 1, heap := w.heap.push (.cells arr el) } := ⟨_, rfl⟩
  have hb : w1.heap[w.heap.size]? = some (.cells arr el (0, 0)) := by rw [hw1]; exact Array.getElem?_push_size
  obtain ⟨fz', k1, k2, k3, k4, k5, k6, k7⟩ := freeze_heap hb arr.size
  rw [k2 rfl] at k1
  have hpush : (w1.freeze ⟨w.heap.size, arr.size, none⟩ 1).heap = w.heap.push (.cells arr el (arr.size, arr.size + 1)) := by
    apply Array.ext_getElem?
    intro c
    by_cases hc : c = w.heap.size
    · subst hc
      rw [k1, Array.getElem?_push_size]
    · rw [k4 c hc, hw1, Array.getElem?_push, Array.getElem?_push, if_neg hc, if_neg hc]
  refine ⟨.slice (some ⟨w.heap.size, 0, none⟩) s.size nc, ⟨w.heap.size, 0, some (1, nc)⟩, w1.freeze ⟨w.heap.size, arr.size, none⟩ 1, _, ?_, hpush, rfl, ?_, fun N i hi => .cell _ _ (.grown i 0 s.size s.size nc 1 nc w.heap.size 0 hi hncge (by omega)), by rw [k5, hw1], by rw [k6, hw1], by rw [k7, hw1]⟩
  · have hch : (choose q).run P w = .ok nc w.drew := by rw [hnc]; simp [run_choose, hqf]
    subst hq
    simp only [convert, Sem.run_bind, run_underlying h1, run_underlying h2, run_underlying h3, Result.andThen_ok, Conv.stringToBytes, hch]
    have hal : w.drew.alloc (.cells arr el) = w1 := by rw [hw1]; rfl
    have hsh : w1.shape? w.heap.size = some (el, arr.size) := by simp only [World.shape?, hb]
    simp [newRow, ← harr, markStringish, hal, hsh]
  · refine ⟨rfl, arr, el, (arr.size, arr.size + 1), by rw [hpush]; exact Array.getElem?_push_size, fun j v hv => ?_, .inr ⟨by simp, Nat.le_refl _⟩, fun sz room h => by cases h; show 0 + nc ≤ arr.size; omega⟩
    have hj := (List.getElem?_eq_some_iff.1 hv).1
    simp only [bytesV, List.getElem?_map] at hv
    simp only [bytesV, List.length_map] at hj
    rw [List.getElem?_eq_getElem hj] at hv
    simp only [Option.map_some, Option.some.injEq] at hv
    refine ⟨v, ?_, by rw [← hv]; exact .scalar _ rfl⟩
    have hj' : j < s.data.size := by simpa using hj
    rw [harr, Nat.zero_add, Array.getElem?_append_left (by simpa using hj'), Array.getElem?_map, Array.getElem?_eq_getElem hj', ← hv]
    simp



theorem max_sound (mx : Bool) {e ρ : Operand → Value} (args : List Operand) (v : Value) (he : ∀ x ∈ args, VR M false (e x) (ρ x)) (h : minMaxV mx (args.map e) = some v) :
    scalar v = true ∧ ∃ x rest, args.map ρ = x :: rest ∧ ∀ w, (rest.foldlM (if mx then Builtin.max2 else Builtin.min2) x : Sem Value).run P w = .ok v w := by
  cases args with
  | nil => simp [minMaxV] at h
  | cons a as =>
    have ha := he a (by simp)
    cases hea : e a with
    | int k n =>
      simp only [List.map_cons, hea, minMaxV] at h
      rw [hea] at ha
      obtain ⟨h1, h2⟩ := minMax_sound (P := P) (as.map e) (as.map ρ) (.int k n) v (by simp) (args_sound fun x hx => he x (List.mem_cons_of_mem _ hx)) h ⟨k, n, rfl⟩
      exact ⟨h1, ρ a, as.map ρ, rfl, by rw [ha.int_]; exact h2⟩
    | _ => simp only [List.map_cons, hea, minMaxV, reduceCtorEq] at h
theorem builtin_sound {c : Call} {b : Builtin} {o : Oper} {e ρ : Operand → Value} {A : Action} (ho : o.op = .call c) (hcal : c.callee = .builtin b) (he : ∀ x ∈ c.args.toList, VR M false (e x) (ρ x)) (h : builtinA P b c.argTypes.toList (c.args.toList.map e) = some A) :
    Sound P M (execOp ρ o) A := by
  obtain ⟨callee, args, ts⟩ := c
  simp only at hcal he h
  subst hcal
  obtain ⟨args⟩ := args
  obtain ⟨ts⟩ := ts
  simp only at he h
  have hex : ∀ (cs : Array Bool), execOp ρ o = builtin b ⟨ts⟩ o.type (args.toArray.map fun | .const _ => true | _ => false) (args.toArray.map ρ) := fun _ => by
    simp only [execOp, ho, resolve]
    rfl
  replace hex := hex #[]
  generalize (args.toArray.map fun | .const _ => true | _ => false) = consts at hex
  unfold builtinA at h
  split at h
  · -- append
    rename_i t t1 s x e2
    obtain ⟨a, b, rfl, rfl, rfl⟩ : ∃ a b, args = [a, b] ∧ e a = s ∧ e b = x := by
      match args, e2 with
      | [a, b], h => simp at h; exact ⟨a, b, rfl, h.1, h.2⟩
      | [], h => simp at h
      | [_], h => simp at h
      | _ :: _ :: _ :: _, h => simp at h
    split at h
    case h_2 => cases h
    rename_i el hu ht1
    split at h
    case h_2 => cases h
    rename_i sz by_ ze hsz hby hze
    cases hl : ze.length == sz + 1 <;> rw [hl] at h <;> simp only [cond_true, cond_false] at h
    case false => cases h
    cases h
    have ht1' : ∃ d, P.underlying t1 = some d ∧ ∀ k, d ≠ .int k := by
      revert ht1
      cases P.underlying t1 with
      | none => intro h; cases h
      | some d => cases d <;> intro h <;> first | (cases h; done) | exact ⟨_, rfl, by simp⟩
    intro σ w v σ' hr hv
    obtain ⟨u', w', M', a1, a2, a3, a4⟩ := append_sound (P := P) (ts := #[t, t1]) (ty := o.type) rfl ⟨t1, rfl, ht1'⟩ hu hsz hby hze (by simpa using hl) (he a (by simp)) (he b (by simp)) hr hv
    refine ⟨M', .value u', w', u', ?_, .inl rfl, a2, a3, a4⟩
    rw [hex]
    simp [builtin, a1]
  · -- len
    rename_i t x e2
    obtain ⟨a, rfl, rfl⟩ : ∃ a, args = [a] ∧ e a = x := by
      match args, e2 with
      | [a], h => simp at h; exact ⟨a, rfl, h⟩
      | [], h => simp at h
      | _ :: _ :: _, h => simp at h
    have hx := he a (by simp)
    have fin : ∀ v : Value, scalar v = true → (∀ w, (Builtin.len_ #[t] o.type #[ρ a]).run P w = .ok v w) → Sound P M (execOp ρ o) (.val v) := fun v hs hrun => ⟨v, .cell _ _ (.scalar v hs), fun w => by rw [hex]; simp [builtin, hrun w]⟩
    split at h
    · rename_i s hu hs
      cases h
      rw [hs] at hx
      have hxs := hx.string_
      exact fin _ rfl fun w => by simp [Builtin.len_, run_underlying hu, hxs, goInt]
    · rename_i n el hu
      cases h
      exact fin _ rfl fun w => by simp [Builtin.len_, run_underlying hu, goInt]
    · rename_i el a0 n c hu hs
      cases h
      rw [hs] at hx
      cases a0 with
      | none =>
        have hxs := VR.scalar_eq (v := .slice none n c) rfl hx
        exact fin _ rfl fun w => by simp [Builtin.len_, run_underlying hu, hxs, goInt]
      | some a0 =>
        obtain ⟨l, c', _, hxs, _⟩ := VR.slice_ (i := a0.block) (o := a0.off) (s := a0.spot) hx
        exact fin _ rfl fun w => by simp [Builtin.len_, run_underlying hu, hxs, goInt]
    · rename_i k el hu hs
      cases h
      rw [hs] at hx
      have hxs := VR.scalar_eq (v := .map none) rfl hx
      exact fin _ rfl fun w => by simp [Builtin.len_, run_underlying hu, hxs, goInt]
    · rename_i k el r hu hs
      cases h
      rw [hs] at hx
      obtain ⟨l, hl, hxs⟩ := VR.map_ hx
      intro σ w v hr hv
      simp only at hv
      split at hv
      case h_2 => cases hv
      rename_i es ck hg
      cases hv
      obtain ⟨_, es', h1, h2⟩ := get_map hr hg hl
      refine ⟨_, .cell _ _ (.scalar _ rfl), ?_⟩
      rw [hex]
      simp [builtin, Builtin.len_, run_underlying hu, hxs, run_getMap h1, goInt, h2.1]
    · cases h
  · -- copy
    rename_i t t1 s x e2
    obtain ⟨a, b, rfl, rfl, rfl⟩ : ∃ a b, args = [a, b] ∧ e a = s ∧ e b = x := by
      match args, e2 with
      | [a, b], h => simp at h; exact ⟨a, b, rfl, h.1, h.2⟩
      | [], h => simp at h
      | [_], h => simp at h
      | _ :: _ :: _ :: _, h => simp at h
    split at h
    case h_2 => cases h
    rename_i el hu
    split at h
    case h_2 => cases h
    rename_i sz hsz
    cases h
    intro σ w v σ' hr hv
    obtain ⟨w', a1, a2, M', a3, a4⟩ := copy_sound (P := P) (ts := #[t, t1]) (ty := o.type) rfl hu hsz (he a (by simp)) (he b (by simp)) hr hv
    refine ⟨M', .value v, w', v, ?_, .inl rfl, .cell _ _ (.scalar _ a2), a3, a4⟩
    rw [hex]
    simp [builtin, a1]
  · -- clear
    rename_i t x e2
    obtain ⟨a, rfl, rfl⟩ : ∃ a, args = [a] ∧ e a = x := by
      match args, e2 with
      | [a], h => simp at h; exact ⟨a, rfl, h⟩
      | [], h => simp at h
      | _ :: _ :: _, h => simp at h
    split at h
    case h_2 => cases h
    rename_i kt et hu
    cases h
    intro σ w v σ' hr hv
    obtain ⟨rfl, M', w', a1, a2, a3⟩ := clear_sound (P := P) (ts := #[t]) (ty := o.type) rfl hu (he a (by simp)) hr hv
    refine ⟨M', .value (.tuple #[]), w', .tuple #[], ?_, .inl rfl, .junk _, a2, a3⟩
    rw [hex]
    simp [builtin, a1]
  · -- delete
    rename_i t t1 s x e2
    obtain ⟨a, b, rfl, rfl, rfl⟩ : ∃ a b, args = [a, b] ∧ e a = s ∧ e b = x := by
      match args, e2 with
      | [a, b], h => simp at h; exact ⟨a, b, rfl, h.1, h.2⟩
      | [], h => simp at h
      | [_], h => simp at h
      | _ :: _ :: _ :: _, h => simp at h
    cases h
    intro σ w v σ' hr hv
    obtain ⟨rfl, M', w', a1, a2, a3⟩ := delete_sound (P := P) (ts := #[t, t1]) (ty := o.type) rfl (he a (by simp)) (he b (by simp)) hr hv
    refine ⟨M', .value (.tuple #[]), w', .tuple #[], ?_, .inl rfl, .junk _, a2, a3⟩
    rw [hex]
    simp [builtin, a1]
  · rename_i t s x e2
    obtain ⟨a, b, rfl, rfl, rfl⟩ : ∃ a b, args = [a, b] ∧ e a = s ∧ e b = x := by
      match args, e2 with
      | [a, b], h => simp at h; exact ⟨a, b, rfl, h.1, h.2⟩
      | [], h => simp at h
      | [_], h => simp at h
      | _ :: _ :: _ :: _, h => simp at h
    cases h
    intro σ w v σ' hr hv
    obtain ⟨rfl, M', w', a1, a2, a3⟩ := delete_sound (P := P) (ts := #[t]) (ty := o.type) rfl (he a (by simp)) (he b (by simp)) hr hv
    refine ⟨M', .value (.tuple #[]), w', .tuple #[], ?_, .inl rfl, .junk _, a2, a3⟩
    rw [hex]
    simp [builtin, a1]
  · obtain ⟨v, hv, rfl⟩ := ofVal_some h
    obtain ⟨h1, y, rest, h3, h2⟩ := max_sound (P := P) true args v he hv
    refine ⟨v, .cell _ _ (.scalar _ h1), fun w => ?_⟩
    rw [hex]
    have := h2 w
    simp only [if_true] at this
    have e9 : ∀ tt, (Builtin.max_ tt o.type (Array.map ρ args.toArray)).run P w = .ok v w := by
      intro tt
      unfold Builtin.max_
      simp only [Array.toList_map, h3]
      exact this
    simp only [builtin, Sem.run_bind]
    rw [e9]
    rfl
  · obtain ⟨v, hv, rfl⟩ := ofVal_some h
    obtain ⟨h1, y, rest, h3, h2⟩ := max_sound (P := P) false args v he hv
    refine ⟨v, .cell _ _ (.scalar _ h1), fun w => ?_⟩
    rw [hex]
    have := h2 w
    simp only [Bool.false_eq_true, if_false] at this
    have e9 : ∀ tt, (Builtin.min_ tt o.type (Array.map ρ args.toArray)).run P w = .ok v w := by
      intro tt
      unfold Builtin.min_
      simp only [Array.toList_map, h3]
      exact this
    simp only [builtin, Sem.run_bind]
    rw [e9]
    rfl
  · cases h
theorem op_sound {o : Oper} {e ρ : Operand → Value} {A : Action} (hok : okOp P o = true) (he : ∀ x ∈ o.op.operands.toList, VR M false (e x) (ρ x)) (h : action P o e = some A) : Sound P M (execOp ρ o) A := by
  unfold okOp at hok
  simp only [Bool.and_eq_true] at hok
  replace hok := hok.2
  obtain ⟨op, hop⟩ : ∃ op, o.op = op := ⟨_, rfl⟩
  unfold action at h
  rw [hop] at hok he h
  cases op with
  | move x => cases h; exact ⟨ρ x, he x (by simp [Op.operands]), fun w => by simp [execOp, hop]⟩
  | assign x => cases h; exact ⟨ρ x, he x (by simp [Op.operands]), fun w => by simp [execOp, hop]⟩
  | pick c a b =>
    simp only at h
    split at h
    case h_2 => cases h
    rename_i t hc
    cases h
    have hcv := he c (by simp [Op.operands])
    rw [hc] at hcv
    refine ⟨bif t then ρ a else ρ b, ?_, fun w => ?_⟩
    · cases t
      · exact he b (by simp [Op.operands])
      · exact he a (by simp [Op.operands])
    · cases t <;> simp [execOp, hop, hcv.bool_, asBool]
  | alloc t =>
    simp only at h hok
    split at h
    case h_2 => cases h
    rename_i z hz
    cases h
    exact alloc_sound hop hz (by simpa [zerosOk, hz] using hok)
  | box t x =>
    simp only at h
    split at h
    case h_2 => cases h
    rename_i cs hc
    cases h
    exact box_sound hop (he x (by simp [Op.operands])) hc
  | build t parts =>
    simp only at h hok
    refine sound_of (s := Instr.build t (parts.map fun (x : Nat × Operand) => (x.1, ρ x.2))) ?_ h fun v hv => build_sound hok (fun x hx => he x.2 (by simp [Op.operands]; exact ⟨x.1, by simpa using hx⟩)) hv
    simp only [execOp, hop]
  | buildSlice t n parts =>
    simp only at h hok
    split at h
    case h_2 => cases h
    rename_i el hu
    rw [hu] at hok
    simp only at hok
    split at h
    case h_2 => cases h
    rename_i ze hze
    split at h
    case h_2 => cases h
    rename_i fs hfs
    cases hle : Nat.ble (n * ze.length) 16777216 <;> rw [hle] at h <;> simp only [cond_true, cond_false] at h
    case false => cases h
    cases h
    obtain ⟨z, n', r1, r2, r3, r4, r5⟩ := rowOk_spec hok
    rw [hze] at r1; cases r1
    subst r4
    obtain ⟨arr, h1, h2⟩ := buildSlice_sound hu hze r3 r2 r5 hle (fun x hx => he x.2 (by simp [Op.operands]; exact ⟨x.1, by simpa using hx⟩)) hfs
    refine sound_new (e := el) h1 (slice_new_ok n) fun w => ?_
    have h3 := h2 w
    simp only [execOp, hop, Sem.run_bind]
    rw [h3]
    rfl
  | load t a =>
    simp only at h
    split at h
    case h_2 => cases h
    rename_i b n hb hn
    cases h
    intro σ w v hr hv
    obtain ⟨v', h1, h2⟩ := load_sound hb hn (he a (by simp [Op.operands])) hr hv
    exact ⟨v', h1, by simp [execOp, hop, h2]⟩
  | store t a x =>
    simp only at h
    split at h
    case h_2 => cases h
    rename_i n hn
    cases h
    intro σ w v σ' hr hv
    obtain ⟨rfl, M', w', h1, h2, h3⟩ := store_sound hn (he a (by simp [Op.operands])) (he x (by simp [Op.operands])) hr hv
    exact ⟨M', .skip, w', undef, by simp [execOp, hop, h1], .inr ⟨rfl, rfl⟩, .junk _, h2, h3⟩
  | nilCheck x =>
    simp only at h
    have hx := he x (by simp [Op.operands])
    split at h
    · rename_i a hxe
      cases h
      rw [hxe] at hx
      obtain ⟨hs, l, hl, hxr⟩ := VR.ptr_ (i := a.block) (o := a.off) (s := a.spot) hx
      exact ⟨_, hx, fun w => by simp [execOp, hop, hxr]⟩
    · rename_i f xs ys hxe
      cases h
      rw [hxe] at hx
      obtain ⟨f', xs', ys', e1, hxr, _⟩ := VR.func_ hx
      exact ⟨_, hx, fun w => by simp [execOp, hop, hxr]⟩
    · cases h
  | binOp op t x y yt => exact bin_sound hok (he x (by simp [Op.operands])) (he y (by simp [Op.operands])) h o hop
  | unOp op t x =>
    refine sound_of (s := Op.unary op (ρ x)) (by simp only [execOp, hop]) h fun v hv => ?_
    have hx := he x (by simp [Op.operands])
    unfold unV at hv
    split at hv
    · rename_i b hxe
      cases hv
      rw [hxe] at hx
      exact ⟨_, .cell _ _ (.scalar _ rfl), fun w => by simp [hx.bool_, Op.unary]⟩
    · rename_i k n hxe
      cases hv
      rw [hxe] at hx
      exact ⟨_, .cell _ _ (.scalar _ rfl), fun w => by simp [hx.int_, Op.unary, Op.intArith]⟩
    · rename_i k n hxe
      cases hv
      rw [hxe] at hx
      exact ⟨_, .cell _ _ (.scalar _ rfl), fun w => by simp [hx.int_, Op.unary, Op.intBits]⟩
    · cases hv
  | convert src dst x =>
    simp only at h
    have hx := he x (by simp [Op.operands])
    split at h
    · rename_i d k k' n h1 h2 h3
      cases h
      rw [h3] at hx
      refine ⟨_, .cell _ _ (.scalar _ rfl), fun w => ?_⟩
      simp only [execOp, hop, hx.int_, convert, Sem.run_bind, run_underlying h1, run_underlying h2, Result.andThen_ok]
      cases d <;> simp [Conv.intToInt]
    · rename_i s h1 h2 h3
      cases h
      rw [h3] at hx
      refine ⟨_, .cell _ _ (.scalar _ rfl), fun w => ?_⟩
      simp [execOp, hop, hx.string_, convert, run_underlying h1, run_underlying h2]
    · rename_i el s h1 h2 h3
      split at h
      case h_2 => cases h
      rename_i h4
      cases h
      rw [h3] at hx
      refine ⟨rfl, fun w => ?_⟩
      obtain ⟨v', l, w', y, k1, k2⟩ := bytes_sound (M := M) (s := s) h1 h2 h4 w
      exact ⟨v', l, w', y, by simp [execOp, hop, hx.string_, k1], k2⟩
    · rename_i el' el h1 h2
      split at h
      case h_2 => cases h
      rename_i h4
      cases hb : Nat.beq src dst <;> rw [hb] at h <;> simp only [cond_true, cond_false] at h
      case false => cases h
      cases h
      intro σ w v σ' hr hv
      have hsd : (src == dst) = true := by simp [Nat.eq_of_beq_eq_true hb]
      obtain ⟨v', w', M', k1, k2, k3, k4⟩ := hand_sound h1 h2 h4 hsd hx hr hv
      exact ⟨M', .value v', w', v', by simp [execOp, hop, k1], .inl rfl, k2, k3, k4⟩
    · cases h
  | sliceToArrayPointer t x =>
    simp only at h
    have hx := he x (by simp [Op.operands])
    split at h
    case h_2 => cases h
    rename_i n el i o0 s len c hu hxe
    cases hle : Nat.ble n len <;> rw [hle] at h <;> simp only [cond_true, cond_false] at h
    case false => cases h
    cases h
    have hle' := Nat.le_of_ble_eq_true hle
    rw [hxe] at hx
    obtain ⟨l, c', hl, hxr, _⟩ := VR.slice_ hx
    refine ⟨.pointer (some ⟨l.block, l.base + o0, none⟩), .cell _ _ (.ptr i o0 l hl), fun w => ?_⟩
    have : ¬ len < n := by omega
    simp [execOp, hop, hxr, Instr.arrayAt, run_underlying hu, this]
  | makeFunc fn first captured =>
    cases fn with
    | func f =>
      cases h
      have h1 : ∀ x ∈ first.toList, VR M false (e x) (ρ x) := fun x hx => he x (by simp [Op.operands]; left; simpa using hx)
      have h2 : ∀ x ∈ captured.toList, VR M false (e x) (ρ x) := fun x hx => he x (by simp [Op.operands]; right; simpa using hx)
      refine ⟨.func (.func f) (first.map ρ) (captured.map ρ), .cell _ _ (.func f _ _ _ _ (by simp) (by simp) (fun i v v' hv hv' => ?_) (fun i v v' hv hv' => ?_)), fun w => by simp [execOp, hop, Instr.makeFunc]⟩
      · exact args_sound h1 i v v' (by rw [← Array.getElem?_toList] at hv; simpa using hv) (by rw [← Array.getElem?_toList] at hv'; simpa using hv')
      · exact args_sound h2 i v v' (by rw [← Array.getElem?_toList] at hv; simpa using hv) (by rw [← Array.getElem?_toList] at hv'; simpa using hv')
    | _ => cases h
  | makeMap t r =>
    cases r with
    | none => cases h; exact makeMap_sound hop
    | some r => cases h
  | makeSlice t l c =>
    simp only at h hok
    split at h
    case h_2 => cases h
    rename_i el hu
    rw [hu] at hok
    simp only at hok
    split at h
    case h_2 => cases h
    rename_i ze by_ k li k' ci hze hby hle hce
    split at h
    case isFalse => cases h
    rename_i hc
    cases h
    have hl := he l (by simp [Op.operands]); rw [hle] at hl
    have hc' := he c (by simp [Op.operands]); rw [hce] at hc'
    exact makeSlice_sound hop hu hze hok hby hl.int_ hc'.int_ hc
  | slice t x lo hi mx =>
    have hall : ∀ y : Option Operand, (∀ z, y = some z → VR M false (e z) (ρ z)) → OptR M (y.map e) (y.map ρ) := fun y hy => by
      cases y with
      | none => trivial
      | some z => exact hy z rfl
    refine sound_of (s := Instr.sliceAt t (ρ x) (lo.map ρ) (hi.map ρ) (mx.map ρ)) (by simp only [execOp, hop]) h fun v hv =>
      slice_sound (he x (by simp [Op.operands])) (hall lo fun z hz => he z (by simp [Op.operands, hz])) (hall hi fun z hz => he z (by simp [Op.operands, hz])) (hall mx fun z hz => he z (by simp [Op.operands, hz])) hv
  | fieldAddr t x f => exact sound_of (s := Instr.fieldAt t (ρ x) f) (by simp only [execOp, hop]) h fun v hv => fieldAddr_sound (he x (by simp [Op.operands])) hv
  | field t x f => exact sound_of (s := Instr.field t (ρ x) f) (by simp only [execOp, hop]) h fun v hv => field_sound (he x (by simp [Op.operands])) hv
  | indexAddr t x i => exact sound_of (s := Instr.indexAt t (ρ x) (ρ i)) (by simp only [execOp, hop]) h fun v hv => indexAddr_sound (he x (by simp [Op.operands])) (he i (by simp [Op.operands])) hv
  | index t x i => exact sound_of (s := Instr.index t (ρ x) (ρ i)) (by simp only [execOp, hop]) h fun v hv => index_sound (he x (by simp [Op.operands])) (he i (by simp [Op.operands])) hv
  | lookup t x k ok =>
    simp only at h hok
    cases h
    intro σ w v hr hv
    obtain ⟨v', h1, h2⟩ := lookup_sound (fun kt et z hu hz => by rw [hu] at hok; simpa [zeroOk, hz] using hok) (he x (by simp [Op.operands])) (he k (by simp [Op.operands])) hr hv
    exact ⟨v', h1, by simp [execOp, hop, h2]⟩
  | mapUpdate t m k x =>
    cases h
    intro σ w v σ' hr hv
    obtain ⟨rfl, M', w', h1, h2, h3⟩ := mapUpdate_sound (he m (by simp [Op.operands])) (he k (by simp [Op.operands])) (he x (by simp [Op.operands])) hr hv
    exact ⟨M', .skip, w', undef, by simp [execOp, hop, h1], .inr ⟨rfl, rfl⟩, .junk _, h2, h3⟩
  | mapEntry t m k =>
    simp only at h hok
    cases h
    intro σ w v σ' hr hv
    obtain ⟨u', M', w', h1, h2, h3, h4⟩ := mapEntry_sound (fun kt et z hu hz => by rw [hu] at hok; simpa [zeroOk, hz] using hok) (he m (by simp [Op.operands])) (he k (by simp [Op.operands])) hr hv
    exact ⟨M', .value u', w', u', by simp [execOp, hop, h2], .inl rfl, h1, h3, h4⟩
  | entryStore t m s x =>
    cases h
    intro σ w v σ' hr hv
    obtain ⟨rfl, M', w', h1, h2, h3⟩ := entryStore_sound (P := P) (t := t) (he m (by simp [Op.operands])) (he s (by simp [Op.operands])) (he x (by simp [Op.operands])) hr hv
    exact ⟨M', .skip, w', undef, by simp [execOp, hop, h1], .inr ⟨rfl, rfl⟩, .junk _, h2, h3⟩
  | extract x i =>
    simp only at h
    have hx := he x (by simp [Op.operands])
    split at h
    case h_2 => cases h
    rename_i vs hxe
    obtain ⟨v, hv, rfl⟩ := ofVal_some h
    rw [hxe] at hx
    have hi := (Array.getElem?_eq_some_iff.1 hv).1
    obtain ⟨ys, hxr, h1, h2⟩ := VR.tuple_ hx (by omega)
    have hy : ys[i]? = some ys[i] := Array.getElem?_eq_getElem (by omega)
    exact ⟨ys[i], h2 i v _ hv hy, fun w => by simp [execOp, hop, hxr, Instr.extract, hy]⟩
  | call c =>
    simp only at h
    split at h
    · rename_i b hb
      exact builtin_sound hop hb (fun x hx => he x (by simp [Op.operands, Call.operands]; right; simpa using hx)) h
    · rename_i f hf
      split at h
      case h_2 => cases h
      rename_i g first captured hfe
      cases hg : callable P g <;> rw [hg] at h <;> simp only [cond_true, cond_false] at h
      case false => cases h
      cases h
      exact call_sound hop hf (fun x hx => he x (by simpa [Op.operands] using hx)) hfe hg
    · cases h
  | _ => cases h
end Go.Am
