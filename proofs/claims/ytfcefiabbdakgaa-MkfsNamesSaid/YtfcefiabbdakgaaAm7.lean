/- The abstract machine, part 7: addresses, slices, what is new are as the model has them. No program in sight. -/
import Derived.Test.YtfcefiabbdakgaaAm6
set_option linter.all false
namespace Go.Am
open Go.RowKit
variable {P : Program} {M : Places} {σ : Store} {w : World}

theorem fieldAddr_sound {t : TypeId} {x x' v : Value} {f : Nat} (hx : VR M false x x') (h : fieldAddrV P t x f = some v) : ∃ v', VR M false v v' ∧ ∀ w, (Instr.fieldAt t x' f).run P w = .ok v' w := by
  unfold fieldAddrV at h
  split at h
  case h_2 => cases h
  rename_i fs hu
  split at h
  case h_2 => cases h
  rename_i fl i o hf
  split at h
  case h_2 => cases h
  rename_i n hn
  cases h
  obtain ⟨_, l, hl, rfl⟩ := VR.ptr_ hx
  refine ⟨.pointer (some ⟨l.block, l.base + (o + fl.offset), none⟩), .cell _ _ (.ptr i (o + fl.offset) l hl), fun w => ?_⟩
  have h0 : ¬ (n + 1 = 0) := by omega
  simp only [Instr.fieldAt, Sem.run_bind, run_underlying hu, Result.andThen_ok, hf, Instr.sureAddr, Sem.run_pure, fieldPlace, run_tSize hn, Sem.run_ite, h0, if_false, add_mk, Nat.add_assoc]
theorem field_sound {t : TypeId} {x x' v : Value} {f : Nat} (hx : VR M false x x') (h : fieldV P t x f = some v) : ∃ v', VR M false v v' ∧ ∀ w, (Instr.field t x' f).run P w = .ok v' w := by
  unfold fieldV at h
  split at h
  case h_2 => cases h
  rename_i fs xs hu
  split at h
  · cases h
  rename_i fl hf
  split at h
  case h_2 => cases h
  rename_i b n hb hn
  obtain ⟨ys, rfl, _, _⟩ := VR.agg_ hx
  obtain ⟨v', h1, h2⟩ := part_sound hb hn (Cells.of_agg hx) h
  exact ⟨v', h1, fun w => by simp [Instr.field, run_underlying hu, hf, asAgg, h2 w]⟩
theorem indexAddr_sound {t : TypeId} {x x' i i' v : Value} (hx : VR M false x x') (hi : VR M false i i') (h : indexAddrV P t x i = some v) : ∃ v', VR M false v v' ∧ ∀ w, (Instr.indexAt t x' i').run P w = .ok v' w := by
  unfold indexAddrV at h
  split at h
  · rename_i k i b o
    have := hi.int_; subst this
    split at h
    case h_2 => cases h
    rename_i n e hu
    split at h
    case h_2 => cases h
    rename_i c hc
    split at h
    case isFalse => cases h
    rename_i hb
    cases h
    obtain ⟨_, l, hl, rfl⟩ := VR.ptr_ hx
    refine ⟨.pointer (some ⟨l.block, l.base + (o + i.toNat * c), none⟩), .cell _ _ (.ptr b _ l hl), fun w => ?_⟩
    simp [Instr.indexAt, asIntOf, run_underlying hu, Instr.sureAddr, hb, run_tSize hc, add_mk, Nat.add_assoc]
  · rename_i k i b o s n c0
    have := hi.int_; subst this
    split at h
    case h_2 => cases h
    rename_i e hu
    split at h
    case h_2 => cases h
    rename_i c hc
    cases hs : (s == none || s == some c) <;> rw [hs] at h <;> simp only [cond_true, cond_false] at h
    · cases h
    split at h
    case isFalse => cases h
    rename_i hb
    cases h
    obtain ⟨l, c', hl, rfl, _, _⟩ := VR.slice_ hx
    refine ⟨.pointer (some ⟨l.block, l.base + (o + i.toNat * c), none⟩), .cell _ _ (.ptr b _ l hl), fun w => ?_⟩
    simp [Instr.indexAt, asIntOf, run_underlying hu, hb, run_tSize hc, add_mk, Nat.add_assoc]
  · cases h
theorem index_sound {t : TypeId} {x x' i i' v : Value} (hx : VR M false x x') (hi : VR M false i i') (h : indexV P t x i = some v) : ∃ v', VR M false v v' ∧ ∀ w, (Instr.index t x' i').run P w = .ok v' w := by
  unfold indexV at h
  split at h
  · rename_i n e xs k i hu
    have := hi.int_; subst this
    split at h
    case h_2 => cases h
    rename_i b c hb hc
    split at h
    case isFalse => cases h
    rename_i hbd
    obtain ⟨ys, rfl, _, _⟩ := VR.agg_ hx
    obtain ⟨v', h1, h2⟩ := part_sound hb hc (Cells.of_agg hx) h
    exact ⟨v', h1, fun w => by simp [Instr.index, asIntOf, run_underlying hu, hbd, run_tSize hc, h2 w]⟩
  · rename_i s k i hu
    have := hi.int_; subst this
    have := hx.string_; subst this
    split at h
    case isFalse => cases h
    rename_i hbd
    cases hb : s[i.toNat]? with
    | none => rw [hb] at h; cases h
    | some b =>
      rw [hb] at h
      simp only [Option.map_some, Option.some.injEq] at h
      subst h
      exact ⟨_, .cell _ _ (.scalar _ rfl), fun w => by simp [Instr.index, asIntOf, run_underlying hu, hbd, hb]⟩
  · cases h
theorem bound_sound {x x' : Option Value} {d top n : Nat} {c : BoundsCode} (hx : match x, x' with | none, none => True | some a, some b => VR M false a b | _, _ => False) (h : bound x d top = some n) :
    ∀ w, (match x' with | some v => Instr.sliceBound v top c | none => pure d : Sem Nat).run P w = .ok n w := by
  intro w
  cases x with
  | none =>
    cases x' with
    | none => simp [bound] at h; subst h; rfl
    | some b => cases hx
  | some a =>
    cases x' with
    | none => cases hx
    | some b =>
      simp only at hx
      unfold bound at h
      split at h
      · rename_i e; cases e
      · rename_i k i e
        cases e
        have := hx.int_; subst this
        split at h
        · rename_i hb; cases h; simp [Instr.sliceBound, asIntOf, hb]
        · cases h
      · cases h
theorem bound_le {x : Option Value} {d top n : Nat} (h : bound x d top = some n) (hd : d ≤ top) : n ≤ top := by
  unfold bound at h
  split at h
  · cases h; exact hd
  · split at h
    · rename_i hb; cases h; omega
    · cases h
  · cases h
theorem opt_map {e ρ : Operand → Value} (he : ∀ x, VR M false (e x) (ρ x)) (x : Option Operand) : match x.map e, x.map ρ with | none, none => True | some a, some b => VR M false a b | _, _ => False := by
  cases x with
  | none => trivial
  | some x => exact he x
def OptR (M : Places) (x x' : Option Value) : Prop := match x, x' with | none, none => True | some a, some b => VR M false a b | _, _ => False
theorem sliceBounds_run {lo hi lo' hi' : Option Value} {isS : Bool} {len cap l h : Nat} (hlo : OptR M lo lo') (hhi : OptR M hi hi') (h1 : bound hi len cap = some h) (h2 : bound lo 0 h = some l) (w : World) :
    (Instr.sliceBounds isS len cap lo' hi' none).run P w = .ok (l, h, cap) w := by
  have k1 := fun c => bound_sound (P := P) (c := c) hhi h1 w
  have k2 := bound_sound (P := P) (c := .sliceB) hlo h2 w
  unfold Instr.sliceBounds
  cases hi' with
  | none =>
    have k1 := k1 .index
    simp only [Sem.run_pure, Result.ok.injEq, and_true] at k1
    subst k1
    cases lo' with
    | none =>
      simp only [Sem.run_pure, Result.ok.injEq, and_true] at k2
      subst k2
      simp
    | some y => simp only at k2; simp [k2]
  | some y =>
    simp only at k1
    simp only [Sem.run_bind, Sem.run_pure, Result.andThen_ok, k1]
    cases lo' with
    | none =>
      simp only [Sem.run_pure, Result.ok.injEq, and_true] at k2
      subst k2
      simp
    | some y => simp only at k2; simp [k2]
theorem slice_sound {t : TypeId} {x x' v : Value} {lo hi mx lo' hi' mx' : Option Value} (hx : VR M false x x') (hlo : OptR M lo lo') (hhi : OptR M hi hi') (hmx : OptR M mx mx')
    (h : sliceV P t x lo hi mx = some v) : ∃ v', VR M false v v' ∧ ∀ w, (Instr.sliceAt t x' lo' hi' mx').run P w = .ok v' w := by
  unfold sliceV at h
  split at h
  · rename_i n e b o hu
    cases mx' with
    | some y => cases hmx
    | none =>
      split at h
      case h_2 => cases h
      rename_i hh c hb hc
      split at h
      case h_2 => cases h
      rename_i ll hl
      cases hk : n == ll <;> rw [hk] at h <;> simp only [cond_true, cond_false] at h
      case true => cases h
      have hk' : ¬ n = ll := by simpa using hk
      cases h
      obtain ⟨_, l, hll, rfl⟩ := VR.ptr_ hx
      refine ⟨.slice (some ⟨l.block, l.base + (o + ll * c), none⟩) (hh - ll) (n - ll), .cell _ _ (.slice b _ _ _ l hll), fun w => ?_⟩
      unfold Instr.sliceAt
      simp only [Sem.run_bind, run_underlying hu, Result.andThen_ok, Instr.sureAddr, Sem.run_pure, sliceBounds_run hlo hhi hb hl, run_tSize hc, if_neg hk', add_mk, Nat.add_assoc]
  · rename_i e b o s n k hu
    cases mx' with
    | some y => cases hmx
    | none =>
      split at h
      case h_2 => cases h
      rename_i hh c hb hc
      cases hs : (s == none || s == some c) <;> rw [hs] at h <;> simp only [cond_true, cond_false] at h
      case false => cases h
      split at h
      case h_2 => cases h
      rename_i ll hl
      cases hk : ((k == ll && !(ll == 0)) || !Nat.ble hh k) <;> rw [hk] at h <;> simp only [cond_true, cond_false] at h
      case true => cases h
      simp only [Bool.or_eq_false_iff, Bool.not_eq_false'] at hk
      have hkk := Nat.le_of_ble_eq_true hk.2
      have hk' : k = ll → ll = 0 := fun e => by
        have := hk.1
        rw [e] at this
        simpa using this
      cases h
      obtain ⟨l, c', hll, rfl, hcc, hor⟩ := VR.slice_ hx
      have hle := bound_le hl (Nat.zero_le _)
      have hhi' : bound hi n c' = some hh := by
        unfold bound at hb ⊢
        split at hb
        · exact hb
        · split at hb
          · rename_i hq
            cases hb
            rw [if_pos (by omega)]
          · cases hb
        · cases hb
      have haddr : (if c' = ll then some (⟨l.block, l.base + o, none⟩ : Addr) else (some ⟨l.block, l.base + o, none⟩ : Option Addr).map (·.add (ll * c))) = some ⟨l.block, l.base + (o + ll * c), none⟩ := by
        split
        · rename_i e
          have : ll = 0 := hk' (by omega)
          subst this
          simp
        · simp [add_mk, Nat.add_assoc]
      refine ⟨.slice (some ⟨l.block, l.base + (o + ll * c), none⟩) (hh - ll) (c' - ll), ?_, fun w => ?_⟩
      · rcases hor with ⟨rfl, rfl⟩ | ⟨sz, room, rfl, hg, hr⟩
        · exact .cell _ _ (.slice b _ _ _ l hll)
        · have hsz : sz = c := by simpa using hs
          subst hsz
          obtain ⟨lb, lbase, lg⟩ := l
          simp only at hg
          subst hg
          refine .cell _ _ (.grown b _ _ _ _ sz room lb lbase hll (by omega) ?_)
          have : (c' - ll) * sz = c' * sz - ll * sz := Nat.sub_mul _ _ _
          have : ll * sz ≤ c' * sz := Nat.mul_le_mul_right _ (by omega)
          omega
      · unfold Instr.sliceAt
        simp only [Sem.run_bind, run_underlying hu, Result.andThen_ok, Instr.slice, sliceBounds_run hlo hhi hhi' hl, run_tSize hc, Sem.run_pure, haddr]
  · rename_i e n k hu
    cases mx' with
    | some y => cases hmx
    | none =>
      split at h
      case h_2 => cases h
      rename_i hh c hb hc
      split at h
      case h_2 => cases h
      rename_i ll hl
      cases h
      have := VR.scalar_eq (v := .slice none n k) rfl hx
      subst this
      refine ⟨_, .cell _ _ (.scalar _ rfl), fun w => ?_⟩
      unfold Instr.sliceAt
      simp only [Sem.run_bind, run_underlying hu, Result.andThen_ok, Instr.slice, sliceBounds_run hlo hhi hb hl, run_tSize hc, Sem.run_pure, Option.map_none, ite_self]
  · rename_i s hu
    cases mx' with
    | some y => cases hmx
    | none =>
      split at h
      case h_2 => cases h
      rename_i hh hb
      split at h
      case h_2 => cases h
      rename_i ll hl
      cases h
      have := hx.string_
      subst this
      refine ⟨_, .cell _ _ (.scalar _ rfl), fun w => ?_⟩
      unfold Instr.sliceAt
      simp only [Sem.run_bind, run_underlying hu, Result.andThen_ok, Instr.slice, sliceBounds_run hlo hhi hb hl, Option.isSome_none, Bool.false_eq_true, if_false, Sem.run_pure]
  · cases h
/-! ## what is new -/
theorem shows_new {w' : World} {c : List Value} {arr : Array Value} {e : TypeId} {x : Obj} (hw : w'.heap = w.heap.push x) (hx : x = .cells arr e (0, 0)) (hc : Cells M c arr.toList) : Shows M w' ⟨w.heap.size, 0, none⟩ (.cells c none) := by
  subst hx
  refine ⟨rfl, arr, e, (0, 0), by rw [hw]; simp, fun j v hv => ?_, .inl rfl, fun _ _ h => by cases h⟩
  have hi : j < arr.size := by
    have := (List.getElem?_eq_some_iff.1 hv).1
    have := hc.1
    simp at this
    omega
  have he : arr[j]? = some arr[j] := Array.getElem?_eq_getElem hi
  exact ⟨arr[j], by simpa using he, hc.2 j v arr[j] hv (by rw [Array.getElem?_toList]; exact he)⟩
theorem sound_new {n : Sem Next} {c : List Value} {arr : Array Value} {e : TypeId} {mk : Nat → Value} (hc : Cells M c arr.toList) (hmk : ∀ N i b, N i = some ⟨b, 0, none⟩ → VR N false (mk i) (mk b))
    (hr : ∀ w, n.run P w = .ok (.value (mk w.heap.size)) { w with heap := w.heap.push (.cells arr e) }) : Sound P M n (.new (.cells c none) mk) := ⟨rfl, fun w =>
  ⟨mk w.heap.size, ⟨w.heap.size, 0, none⟩, { w with heap := w.heap.push (.cells arr e) }, .cells arr e, hr w, rfl, rfl, shows_new rfl rfl hc, fun N i h => hmk N i _ h, rfl, rfl, rfl⟩⟩
theorem ptrTo_ok (N : Places) (i b : Nat) (h : N i = some ⟨b, 0, none⟩) : VR N false (ptrTo i) (ptrTo b) := by
  have := VR.ptr i 0 ⟨b, 0, none⟩ h
  exact .cell _ _ (by simpa [ptrTo] using this)

theorem row_list {ze : List Value} (hz0 : 0 < ze.length) (n : Nat) : ((Array.range (n * ze.length)).map fun i => ze.toArray[i % ze.toArray.size]!).toList = (List.replicate n ze).flatten := by
  apply List.ext_getElem?
  intro j
  rw [Array.toList_map, List.getElem?_map, Array.getElem?_toList, Array.getElem?_range]
  have hfl : ∀ (n j : Nat), (List.replicate n ze).flatten[j]? = if j < n * ze.length then ze[j % ze.length]? else none := fun n => by
    induction n with
    | zero => intro j; simp
    | succ n ih =>
      intro j
      rw [List.replicate_succ, List.flatten_cons, List.getElem?_append]
      by_cases h1 : j < ze.length
      · rw [if_pos h1, if_pos (by rw [Nat.add_mul]; omega), Nat.mod_eq_of_lt h1]
      · rw [if_neg h1, ih]
        by_cases h2 : j - ze.length < n * ze.length
        · rw [if_pos h2, if_pos (by rw [Nat.add_mul]; omega), Nat.mod_eq_sub_mod (show j ≥ ze.length by omega)]
        · rw [if_neg h2, if_neg (by rw [Nat.add_mul]; omega)]
  rw [hfl]
  split
  · have hm : j % ze.length < ze.length := Nat.mod_lt _ hz0
    simp only [Option.map_some, List.size_toArray]
    rw [List.getElem?_eq_getElem hm]
    simp [hm]
  · rfl
theorem buildSlice_sound {t el : TypeId} {n : Nat} {ze : List Value} {parts : Array (Nat × Operand)} {e ρ : Operand → Value} {fs : List (List Value)} (hu : P.underlying t = some (.slice el)) (hz : tZeros P el = some ze) (hzc : ze.all scalar = true) (hzs : tSize P el = some ze.length) (hz0 : 0 < ze.length)
    (hle : Nat.ble (n * ze.length) 16777216 = true) (he : ∀ x ∈ parts.toList, VR M false (e x.2) (ρ x.2)) (h : buildL (List.replicate n ze) (parts.toList.map fun (x : Nat × Operand) => (x.1, e x.2)) = some fs) :
    ∃ arr, Cells M fs.flatten arr.toList ∧ ∀ w, (Instr.buildSlice t n (parts.map fun (x : Nat × Operand) => (x.1, ρ x.2))).run P w = .ok (.slice (some ⟨w.heap.size, 0, none⟩) n n) { w with heap := w.heap.push (.cells arr el) } := by
  have hpm := parts_map he
  have hpl : (parts.toList.map fun (x : Nat × Operand) => (x.1, e x.2)).length = (parts.map fun (x : Nat × Operand) => (x.1, ρ x.2)).toList.length := by simp
  obtain ⟨zv, hz1, hz2, hz3⟩ := tZeros_run hz
  have hrow := row_list hz0
  obtain ⟨zs', h1, h2⟩ := fill_sound (place := fun i => some (i * ze.length, ze.length)) _ _ _ _ ((Array.range (n * ze.length)).map fun i => ze.toArray[i % ze.toArray.size]!) hpl hpm (place_rep n ze) (by
    rw [hrow]
    exact Cells.of_closed (by
      rw [List.all_eq_true] at hzc ⊢
      intro x hx
      obtain ⟨l, hl, hxl⟩ := List.mem_flatten.1 hx
      rw [List.eq_of_mem_replicate hl] at hxl
      exact hzc x hxl)) h
  refine ⟨zs', h2, fun w => ?_⟩
  have hle' := Nat.le_of_ble_eq_true hle
  unfold Instr.buildSlice
  simp only [Sem.run_bind, run_underlying hu, Result.andThen_ok, run_tSize hzs]
  have h24 : ¬ n * ze.length > 2 ^ 24 := by omega
  simp only [h24, if_false]
  by_cases hn : n * ze.length = 0
  · have hn0 : n = 0 := by
      rcases Nat.mul_eq_zero.1 hn with h0 | h0
      · exact h0
      · omega
    subst hn0
    have h1' : Instr.fill (fun i => some (i * ze.length, ze.length)) #[] (parts.map fun (x : Nat × Operand) => (x.1, ρ x.2)).toList = some zs' := by
      rw [← h1]; congr 1; simp
    have h2' : Instr.fill (fun i => some (i * ze.length, ze.length)) (Array.map (fun _ => (default : Value)) (Array.range 0)) (parts.toList.map fun (x : Nat × Operand) => (x.1, ρ x.2)) = some zs' := by
      rw [← h1']; congr 1 <;> simp
    simp [newRow, h2']
  · simp only [hn, if_false, Sem.run_bind, hz3, Result.andThen_ok, Sem.run_pure, hz2, h1]
    simp [newRow]
theorem rep_cells {ze : List Value} (hzc : ze.all scalar = true) (n : Nat) : Cells M (List.replicate n ze).flatten (List.replicate n ze).flatten := Cells.of_closed (by
  rw [List.all_eq_true] at hzc ⊢
  intro x hx
  obtain ⟨l, hl, hxl⟩ := List.mem_flatten.1 hx
  rw [List.eq_of_mem_replicate hl] at hxl
  exact hzc x hxl)
end Go.Am
