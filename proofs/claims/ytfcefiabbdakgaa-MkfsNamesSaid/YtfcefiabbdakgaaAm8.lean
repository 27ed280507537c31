/- The abstract machine, part 8: what writes is as the model has it. No program in sight. -/
import Derived.Test.YtfcefiabbdakgaaAm7
set_option linter.all false
namespace Go.Am
open Go.RowKit
variable {P : Program} {M : Places} {σ : Store} {w : World}

/-! ## maps -/
theorem bytes_eq {a b : ByteArray} (h : (a == b) = true) : a = b := by
  rw [beq_toListBytes] at h
  have h1 : a.toList = b.toList := by simpa using h
  rw [ByteArray.toList_eq, ByteArray.toList_eq] at h1
  obtain ⟨⟨a⟩⟩ := a
  obtain ⟨⟨b⟩⟩ := b
  simp at h1
  rw [h1]
theorem sameNow_true {d : TypeDesc} {k k' : Value} (h : Instr.sameNow d k k' = some true) : k = k' ∧ scalar k = true ∧ Instr.sameBits 10000 k k = true := by
  unfold Instr.sameNow at h
  split at h
  · split at h
    · rename_i e; subst e; simp at h; subst h; exact ⟨rfl, rfl, by simp [Instr.sameBits]⟩
    · cases h
  · simp only [Option.some.injEq] at h
    have := bytes_eq h; subst this
    exact ⟨rfl, rfl, by simp [Instr.sameBits, h]⟩
  · simp at h; subst h; exact ⟨rfl, rfl, by simp [Instr.sameBits]⟩
  · cases h
theorem sameNow_scalar {d : TypeDesc} {k k' : Value} {b : Bool} (h : Instr.sameNow d k k' = some b) : scalar k = true ∧ scalar k' = true := by
  unfold Instr.sameNow at h
  split at h
  · exact ⟨rfl, rfl⟩
  · exact ⟨rfl, rfl⟩
  · exact ⟨rfl, rfl⟩
  · cases h
def EntriesL (M : Places) (es es' : List MapEntry) : Prop := es.length = es'.length ∧ ∀ (i : Nat) (e e' : MapEntry), es[i]? = some e → es'[i]? = some e' → EntryR M e e'
theorem Entries.toL {es : List MapEntry} {es' : Array MapEntry} (h : Entries M es es') : EntriesL M es es'.toList := ⟨by simpa using h.1, fun i e e' he he' => h.2 i e e' he (by simpa using he')⟩
theorem EntriesL.ofL {es es' : List MapEntry} (h : EntriesL M es es') : Entries M es es'.toArray := ⟨by simpa using h.1, fun i e e' he he' => h.2 i e e' he (by simpa using he')⟩
theorem EntriesL.tail {e e' : MapEntry} {es es' : List MapEntry} (h : EntriesL M (e :: es) (e' :: es')) : EntryR M e e' ∧ EntriesL M es es' :=
  ⟨h.2 0 e e' rfl rfl, by simpa using h.1, fun i a b ha hb => h.2 (i + 1) a b (by simpa using ha) (by simpa using hb)⟩
theorem EntriesL.snoc {e e' : MapEntry} {es es' : List MapEntry} (h : EntriesL M es es') (he : EntryR M e e') : EntriesL M (es ++ [e]) (es' ++ [e']) := by
  refine ⟨by simp [h.1], fun i a b ha hb => ?_⟩
  rw [List.getElem?_append] at ha hb
  by_cases hi : i < es.length
  · rw [if_pos hi] at ha; rw [if_pos (by rw [← h.1]; exact hi)] at hb; exact h.2 i a b ha hb
  · rw [if_neg hi] at ha
    rw [if_neg (by rw [← h.1]; exact hi), ← h.1] at hb
    cases hj : i - es.length with
    | zero => rw [hj] at ha hb; simp at ha hb; subst ha hb; exact he
    | succ n => rw [hj] at ha; simp at ha
theorem EntriesL.modify {es es' : List MapEntry} (h : EntriesL M es es') (i : Nat) {f f' : MapEntry → MapEntry} (hf : ∀ e e', EntryR M e e' → EntryR M (f e) (f' e')) : EntriesL M (es.modify i f) (es'.modify i f') := by
  refine ⟨by simp [h.1], fun j a b ha hb => ?_⟩
  rw [List.getElem?_modify] at ha hb
  cases hx : es[j]? with
  | none => rw [hx] at ha; simp at ha
  | some e =>
    have hj : j < es'.length := by rw [← h.1]; exact (List.getElem?_eq_some_iff.1 hx).1
    have hy : es'[j]? = some es'[j] := List.getElem?_eq_getElem hj
    rw [hx] at ha
    rw [hy] at hb
    simp at ha hb
    subst ha hb
    split
    · exact hf _ _ (h.2 j e _ hx hy)
    · exact h.2 j e _ hx hy
theorem EntriesL.erase {es es' : List MapEntry} (h : EntriesL M es es') (i : Nat) : EntriesL M (es.eraseIdx i) (es'.eraseIdx i) := by
  refine ⟨by simp [List.length_eraseIdx, h.1], fun j a b ha hb => ?_⟩
  rw [List.getElem?_eraseIdx] at ha hb
  split at ha
  · rename_i hj; rw [if_pos hj] at hb; exact h.2 j a b ha hb
  · rename_i hj; rw [if_neg hj] at hb; exact h.2 (j + 1) a b ha hb
theorem findNow_sound {d : TypeDesc} {k k' : Value} (hk : VR M false k k') : ∀ (es es' : List MapEntry) (i : Nat), EntriesL M es es' →
    (Instr.findNow d k es i = some none → Instr.findNow d k' es' i = some none) ∧
    (∀ j v, Instr.findNow d k es i = some (some (j, v)) → ∃ v', Instr.findNow d k' es' i = some (some (j, v')) ∧ VR M false v v' ∧ k' = k ∧ Instr.sameBits 10000 k k = true ∧ i ≤ j ∧ ∃ e e', es[j - i]? = some e ∧ es'[j - i]? = some e' ∧ EntryR M e e' ∧ e'.key = k)
  | [], [], i, _ => ⟨fun _ => rfl, fun j v h => by simp [Instr.findNow] at h⟩
  | [], _ :: _, i, h => by simp [EntriesL] at h
  | _ :: _, [], i, h => by simp [EntriesL] at h
  | e :: es, e' :: es', i, h => by
    obtain ⟨h0, h1⟩ := h.tail
    obtain ⟨ih1, ih2⟩ := findNow_sound hk es es' (i + 1) h1
    have same : ∀ b, Instr.sameNow d k e.key = some b → Instr.sameNow d k' e'.key = some b := fun b hb => by
      obtain ⟨s1, s2⟩ := sameNow_scalar hb
      rw [VR.scalar_eq s1 hk, VR.scalar_eq s2 h0.2.1]
      exact hb
    unfold Instr.findNow
    constructor
    · intro hf
      split at hf
      · simp at hf
      · rename_i hs; rw [same _ hs]; exact ih1 hf
      · cases hf
    · intro j v hf
      split at hf
      · rename_i hs
        simp only [Option.some.injEq, Prod.mk.injEq] at hf
        obtain ⟨rfl, rfl⟩ := hf
        obtain ⟨e1, e2, e3⟩ := sameNow_true hs
        refine ⟨e'.val, by rw [same _ hs], h0.2.2, VR.scalar_eq e2 hk, e3, Nat.le_refl _, e, e', by simp, by simp, h0, ?_⟩
        rw [VR.scalar_eq (by rw [← e1]; exact e2) h0.2.1, e1]
      · rename_i hs
        obtain ⟨v', a1, a2, a3, a4, a5, x, x', a6, a7, a8, a9⟩ := ih2 j v hf
        refine ⟨v', by rw [same _ hs]; exact a1, a2, a3, a4, by omega, x, x', ?_, ?_, a8, a9⟩
        · rw [show j - i = (j - (i + 1)) + 1 from by omega]; simpa using a6
        · rw [show j - i = (j - (i + 1)) + 1 from by omega]; simpa using a7
      · cases hf
theorem run_keyDesc {t : TypeId} {d : TypeDesc} (h : keyDesc P t = some d) : P.underlying t = some d ∧ ∀ (b : Bool) (k : Value) (w : World), (Instr.checkKey b 10000 t k).run P w = .ok () w := by
  have key : ∀ n, P.underlying t = some d → (∀ n e, d ≠ .array n e) → (∀ f, d ≠ .struct f) → (∀ m, d ≠ .interface m) → ∀ (b : Bool) (k : Value) (w : World), (Instr.checkKey b (n + 1) t k).run P w = .ok () w := fun n hu h1 h2 h3 b k w => by
    unfold Instr.checkKey
    simp only [Sem.run_bind, run_underlying hu, Result.andThen_ok]
    cases d <;> first | (exact absurd rfl (h1 _ _)) | (exact absurd rfl (h2 _)) | (exact absurd rfl (h3 _)) | (cases k <;> rfl)
  unfold keyDesc at h
  split at h
  · rename_i hu; cases h; exact ⟨hu, fun b k w => key 9999 hu (by simp) (by simp) (by simp) b k w⟩
  · rename_i hu; cases h; exact ⟨hu, fun b k w => key 9999 hu (by simp) (by simp) (by simp) b k w⟩
  · rename_i hu; cases h; exact ⟨hu, fun b k w => key 9999 hu (by simp) (by simp) (by simp) b k w⟩
  · cases h
theorem run_findKey {t : TypeId} {d : TypeDesc} {k : Value} {es : List MapEntry} {r : Option (Nat × Value)} (hu : P.underlying t = some d) (h : Instr.findNow d k es 0 = some r) (w : World) : (Instr.findKey t k es).run P w = .ok r w := by
  simp [Instr.findKey, run_underlying hu, h]

/-- The entries of a map. -/
theorem get_map {i : Nat} {es : List MapEntry} {ck : Nat} (hr : Rel M σ w) (hi : σ.get i = some (.map es ck)) {l : Loc} (hl : M i = some l) : l.grow = none ∧ ∃ es', w.heap[l.block]? = some (.map es' ck) ∧ Entries M es es' := by
  obtain ⟨l', h1, h2⟩ := hr.shows i _ hi
  rw [hl] at h1; cases h1
  exact h2
theorem run_getMap {r : Nat} {es : Array MapEntry} {ck : Nat} (h : w.heap[r]? = some (.map es ck)) : (getObj r).run P w = .ok (.map es ck) w := by
  simp [getObj, Sem.run, h]
theorem run_setMap {r : Nat} {es es2 : Array MapEntry} {ck ck2 : Nat} (h : w.heap[r]? = some (.map es ck)) : (setObj r (.map es2 ck2)).run P w = .ok () { w with heap := w.heap.setIfInBounds r (.map es2 ck2) } := by
  simp [setObj, Sem.run, h]
/-- A map is written. -/
theorem write_map {i : Nat} {es es2 : List MapEntry} {ck ck2 : Nat} (hr : Rel M σ w) (hi : σ.get i = some (.map es ck)) {l : Loc} (hl : M i = some l) {es2' : Array MapEntry} (he : Entries M es2 es2') :
    Rel M (σ.put i (some (.map es2 ck2))) { w with heap := w.heap.setIfInBounds l.block (.map es2' ck2) } ∧ Step σ M w (σ.put i (some (.map es2 ck2))) M { w with heap := w.heap.setIfInBounds l.block (.map es2' ck2) } := by
  obtain ⟨hg, es', h1, _⟩ := get_map hr hi hl
  have hlt := (Array.getElem?_eq_some_iff.1 h1).1
  refine hr.write hi hl rfl rfl (by simp) (fun b hb => by simp [Array.getElem?_setIfInBounds_ne (Ne.symm hb)]) ?_ rfl rfl rfl
  exact ⟨hg, es2', by simp [hlt], he⟩

theorem lookup_run {t kt et : TypeId} {d : TypeDesc} {z x' k' : Value} {ok : Bool} {es' : Array MapEntry} (hu : P.underlying t = some (.map kt et)) (hd : keyDesc P kt = some d) (hze : tZero P et = some z)
    (hx : (x' = .map none ∧ es' = #[]) ∨ ∃ r ck, x' = .map (some r) ∧ w.heap[r]? = some (.map es' ck)) :
    (∀ j v, Instr.findNow d k' es'.toList 0 = some (some (j, v)) → (Instr.lookup t x' k' ok).run P w = .ok (bif ok then .tuple #[v, .bool true] else v) w) ∧
    (Instr.findNow d k' es'.toList 0 = some none → (Instr.lookup t x' k' ok).run P w = .ok (bif ok then .tuple #[z, .bool false] else z) w) := by
  obtain ⟨hdu, hck⟩ := run_keyDesc hd
  rcases hx with ⟨rfl, rfl⟩ | ⟨r, ck, rfl, hm⟩
  · refine ⟨fun j v h => by simp [Instr.findNow] at h, fun h => ?_⟩
    have h0 : (Instr.findKey kt k' []).run P w = .ok none w := run_findKey hdu h w
    cases ok <;> simp [Instr.lookup, run_underlying hu, hck, h0, run_tZero hze]
  · refine ⟨fun j v h => ?_, fun h => ?_⟩
    · have h0 := run_findKey hdu h w
      cases ok <;> simp [Instr.lookup, run_underlying hu, hck, h0, run_getMap hm]
    · have h0 := run_findKey hdu h w
      cases ok <;> simp [Instr.lookup, run_underlying hu, hck, h0, run_tZero hze, run_getMap hm]
theorem pair_sound {v v' : Value} {ok b : Bool} (h : VR M false v v') : VR M false (bif ok then .tuple #[v, .bool b] else v) (bif ok then .tuple #[v', .bool b] else v') := by
  cases ok
  · exact h
  · refine .tuple _ _ rfl fun i a c ha hc => ?_
    match i with
    | 0 => simp at ha hc; subst ha hc; exact h
    | 1 => simp at ha hc; subst ha hc; exact .cell _ _ (.scalar _ rfl)
    | n + 2 => simp at ha
theorem lookup_sound {t : TypeId} {x x' k k' v : Value} {ok : Bool} (hz : ∀ kt et z, P.underlying t = some (.map kt et) → tZero P et = some z → closed z = true) (hx : VR M false x x') (hk : VR M false k k') (hr : Rel M σ w) (h : lookupV P t x k ok σ.get = some v) :
    ∃ v', VR M false v v' ∧ (Instr.lookup t x' k' ok).run P w = .ok v' w := by
  unfold lookupV at h
  split at h
  case h_2 => cases h
  rename_i kt et hu
  split at h
  case h_2 => cases h
  rename_i d z hd hze
  have hzc := hz kt et z hu hze
  have fin : ∀ (es : List MapEntry) (es' : Array MapEntry), Entries M es es' → ((x' = .map none ∧ es' = #[]) ∨ ∃ r ck, x' = .map (some r) ∧ w.heap[r]? = some (.map es' ck)) →
      (match Instr.findNow d k es 0 with
        | none => none
        | some (some (_, v)) => some (bif ok then .tuple #[v, .bool true] else v)
        | some none => some (bif ok then .tuple #[z, .bool false] else z)) = some v →
      ∃ v', VR M false v v' ∧ (Instr.lookup t x' k' ok).run P w = .ok v' w := fun es es' hes hx' hm => by
    obtain ⟨f1, f2⟩ := findNow_sound (d := d) hk es es'.toList 0 hes.toL
    obtain ⟨r1, r2⟩ := lookup_run (ok := ok) (k' := k') hu hd hze hx'
    split at hm
    · cases hm
    · rename_i j v0 hf
      obtain ⟨v', g1, g2, _⟩ := f2 j v0 hf
      cases hm
      exact ⟨_, pair_sound g2, r1 j v' g1⟩
    · rename_i hf
      cases hm
      exact ⟨_, pair_sound (VR.of_closed hzc), r2 (f1 hf)⟩
  split at h
  · cases h
  rename_i es hes
  split at hes
  · cases hes
    have := VR.scalar_eq (v := .map none) rfl hx
    subst this
    exact fin [] #[] ⟨rfl, fun i e e' he => by simp at he⟩ (.inl ⟨rfl, rfl⟩) h
  · rename_i r
    obtain ⟨l, hl, rfl⟩ := VR.map_ hx
    split at hes
    case h_2 => cases hes
    rename_i es0 ck hg
    cases hes
    obtain ⟨_, es', h1, h2⟩ := get_map hr hg hl
    exact fin es es' h2 (.inr ⟨_, ck, rfl, h1⟩) h
  · cases hes

/-- What an effect leaves. -/
def Did (P : Program) (σ : Store) (M : Places) (w : World) (s : Sem Unit) (σ' : Store) : Prop := ∃ M' w', s.run P w = .ok () w' ∧ Rel M' σ' w' ∧ Step σ M w σ' M' w'
theorem keyThatStays_run {k : Value} (h : Instr.sameBits 10000 k k = true) (w : World) : (Instr.keyThatStays k k).run P w = .ok k w := by
  simp [Instr.keyThatStays, h]
theorem mapUpdate_sound {t : TypeId} {x x' k k' v v' u : Value} {σ' : Store} (hx : VR M false x x') (hk : VR M false k k') (hv : VR M false v v') (hr : Rel M σ w) (h : mapUpdateV P t x k v σ = some (u, σ')) :
    u = junk ∧ Did P σ M w (Instr.mapUpdate t x' k' v') σ' := by
  unfold mapUpdateV at h
  split at h
  case h_2 => cases h
  rename_i kt et r hu
  obtain ⟨l, hl, rfl⟩ := VR.map_ hx
  split at h
  case h_2 => cases h
  rename_i d es ck hd hg
  obtain ⟨hdu, hck⟩ := run_keyDesc hd
  obtain ⟨_, es', h1, h2⟩ := get_map hr hg hl
  obtain ⟨f1, f2⟩ := findNow_sound (d := d) hk es es'.toList 0 h2.toL
  split at h
  · cases h
  · rename_i j v0 hf
    obtain ⟨v1, g1, g2, g3, g4, _, e, e', g5, g6, g7, g8⟩ := f2 j v0 hf
    cases h
    subst g3
    have hm : Entries M (es.modify j fun e => { e with key := k', val := v }) (es'.modify j fun e => { e with key := k', val := v' }) := by
      have := (h2.toL.modify j (f := fun e => { e with key := k', val := v }) (f' := fun e => { e with key := k', val := v' }) (fun a b hab => ⟨hab.1, hk, hv⟩)).ofL
      have he : (es'.toList.modify j fun e => { e with key := k', val := v' }).toArray = es'.modify j fun e => { e with key := k', val := v' } := by
        apply Array.ext'
        simp
      rwa [he] at this
    obtain ⟨a1, a2⟩ := write_map (ck2 := ck) hr hg hl hm
    have g6' : es'[j]? = some e' := by simpa using g6
    refine ⟨rfl, M, _, ?_, a1, a2⟩
    simp [Instr.mapUpdate, run_underlying hu, run_getMap h1, hck, run_findKey hdu g1, g6', g8, keyThatStays_run g4, run_setMap h1]
  · rename_i hf
    cases h
    have hm : Entries M (es ++ [{ key := k, val := v, born := ck }]) (es'.push { key := k', val := v', born := ck }) := by
      have := (h2.toL.snoc (e := { key := k, val := v, born := ck }) (e' := { key := k', val := v', born := ck }) ⟨rfl, hk, hv⟩).ofL
      have he : (es'.toList ++ [(⟨k', v', ck⟩ : MapEntry)]).toArray = es'.push ⟨k', v', ck⟩ := by
        apply Array.ext'
        simp
      rwa [he] at this
    obtain ⟨a1, a2⟩ := write_map (ck2 := ck + 1) hr hg hl hm
    refine ⟨rfl, M, _, ?_, a1, a2⟩
    simp [Instr.mapUpdate, run_underlying hu, run_getMap h1, hck, run_findKey hdu (f1 hf), run_setMap h1]
theorem setIf_same {α : Type} {h : Array α} {b : Nat} {x : α} (e : h[b]? = some x) : h.setIfInBounds b x = h := by
  apply Array.ext_getElem?
  intro i
  rw [Array.getElem?_setIfInBounds]
  split
  · rename_i hb
    subst hb
    have := (Array.getElem?_eq_some_iff.1 e).1
    rw [if_pos this, e]
  · rfl
theorem mapEntry_sound {t : TypeId} {x x' k k' u : Value} {σ' : Store} (hz : ∀ kt et z, P.underlying t = some (.map kt et) → tZero P et = some z → closed z = true) (hx : VR M false x x') (hk : VR M false k k') (hr : Rel M σ w) (h : mapEntryV P t x k σ = some (u, σ')) :
    ∃ u' M' w', VR M' false u u' ∧ (Instr.mapEntry t x' k').run P w = .ok u' w' ∧ Rel M' σ' w' ∧ Step σ M w σ' M' w' := by
  unfold mapEntryV at h
  split at h
  case h_2 => cases h
  rename_i kt et r hu
  obtain ⟨l, hl, rfl⟩ := VR.map_ hx
  split at h
  case h_2 => cases h
  rename_i d es ck z hd hg hze
  have hzc := hz kt et z hu hze
  obtain ⟨hdu, hck⟩ := run_keyDesc hd
  obtain ⟨_, es', h1, h2⟩ := get_map hr hg hl
  obtain ⟨f1, f2⟩ := findNow_sound (d := d) hk es es'.toList 0 h2.toL
  have two : ∀ {a a' : Value} {n : Int}, VR M false a a' → VR M false (.tuple #[a, .int .i64 n]) (.tuple #[a', .int .i64 n]) := fun ha => by
    refine .tuple _ _ rfl fun i b c hb hc => ?_
    match i with
    | 0 => simp at hb hc; subst hb hc; exact ha
    | 1 => simp at hb hc; subst hb hc; exact .cell _ _ (.scalar _ rfl)
    | n + 2 => simp at hb
  split at h
  · cases h
  · rename_i j v0 hf
    obtain ⟨v1, g1, g2, g3, g4, _, e, e', g5, g6, g7, g8⟩ := f2 j v0 hf
    cases h
    subst g3
    have hm : Entries M (es.modify j fun e => { e with key := k' }) (es'.modify j fun e => { e with key := k' }) := by
      have := (h2.toL.modify j (f := fun e => { e with key := k' }) (f' := fun e => { e with key := k' }) (fun a b hab => ⟨hab.1, hk, hab.2.2⟩)).ofL
      have he : (es'.toList.modify j fun e => { e with key := k' }).toArray = es'.modify j fun e => { e with key := k' } := by
        apply Array.ext'
        simp
      rwa [he] at this
    obtain ⟨a1, a2⟩ := write_map (ck2 := ck) hr hg hl hm
    have g6' : es'[j]? = some e' := by simpa using g6
    have g5' : es[j]? = some e := by simpa using g5
    refine ⟨.tuple #[v1, .int .i64 (e'.born : Nat)], M, _, ?_, ?_, a1, a2⟩
    · rw [g5', ← g7.1]; exact two g2
    · simp [Instr.mapEntry, run_underlying hu, run_getMap h1, hck, run_findKey hdu g1, g6', g8, keyThatStays_run g4, run_setMap h1, goInt]
  · rename_i hf
    cases h
    have hm : Entries M (es ++ [{ key := k, val := z, born := ck }]) (es'.push { key := k', val := z, born := ck }) := by
      have := (h2.toL.snoc (e := { key := k, val := z, born := ck }) (e' := { key := k', val := z, born := ck }) ⟨rfl, hk, VR.of_closed hzc⟩).ofL
      have he : (es'.toList ++ [(⟨k', z, ck⟩ : MapEntry)]).toArray = es'.push ⟨k', z, ck⟩ := by
        apply Array.ext'
        simp
      rwa [he] at this
    obtain ⟨a1, a2⟩ := write_map (ck2 := ck + 1) hr hg hl hm
    refine ⟨.tuple #[z, .int .i64 (ck : Nat)], M, _, two (VR.of_closed hzc), ?_, a1, a2⟩
    simp [Instr.mapEntry, run_underlying hu, run_getMap h1, hck, run_findKey hdu (f1 hf), run_setMap h1, run_tZero hze, goInt]
theorem entryStore_sound {t : TypeId} {x x' s s' v v' u : Value} {σ' : Store} (hx : VR M false x x') (hs : VR M false s s') (hv : VR M false v v') (hr : Rel M σ w) (h : entryStoreV x s v σ = some (u, σ')) :
    u = junk ∧ Did P σ M w (Instr.entryStore t x' s' v') σ' := by
  unfold entryStoreV at h
  split at h
  case h_2 => cases h
  rename_i r ik n
  obtain ⟨l, hl, rfl⟩ := VR.map_ hx
  have := hs.int_; subst this
  split at h
  case h_2 => cases h
  rename_i es ck hg
  obtain ⟨_, es', h1, h2⟩ := get_map hr hg hl
  split at h
  case h_2 => cases h
  rename_i i hi
  cases h
  have hi' : es'.findIdx? (fun e => decide ((e.born : Int) = n)) = some i := by
    have key : ∀ (as bs : List MapEntry) (i : Nat), EntriesL M as bs → as.findIdx? (fun e => decide ((e.born : Int) = n)) = some i → bs.findIdx? (fun e => decide ((e.born : Int) = n)) = some i := by
      intro as
      induction as with
      | nil => intro bs i _ h; simp at h
      | cons a as ih =>
        intro bs i hab h
        cases bs with
        | nil => simp [EntriesL] at hab
        | cons b bs =>
          obtain ⟨h0, h1⟩ := hab.tail
          rw [List.findIdx?_cons] at h ⊢
          rw [← h0.1]
          split
          · rename_i hc; rw [if_pos hc] at h; exact h
          · rename_i hc
            rw [if_neg hc] at h
            cases hx : as.findIdx? (fun e => decide ((e.born : Int) = n)) with
            | none => rw [hx] at h; simp at h
            | some j => rw [hx] at h; rw [ih bs j h1 hx]; exact h
    have h9 := key es es'.toList i h2.toL hi
    rw [← List.findIdx?_toArray] at h9
    simpa using h9
  have hi2 : es'.findIdx? (fun e => (e.born : Int) == n) = some i := by
    have he : (fun e : MapEntry => (e.born : Int) == n) = (fun e => decide ((e.born : Int) = n)) := by funext e; rfl
    rw [he]; exact hi'
  have hm : Entries M (es.modify i fun e => { e with val := v }) (es'.modify i fun e => { e with val := v' }) := by
    have := (h2.toL.modify i (f := fun e => { e with val := v }) (f' := fun e => { e with val := v' }) (fun a b hab => ⟨hab.1, hab.2.1, hv⟩)).ofL
    have he : (es'.toList.modify i fun e => { e with val := v' }).toArray = es'.modify i fun e => { e with val := v' } := by
      apply Array.ext'
      simp
    rwa [he] at this
  obtain ⟨a1, a2⟩ := write_map (ck2 := ck) hr hg hl hm
  refine ⟨rfl, M, _, ?_, a1, a2⟩
  simp [Instr.entryStore, run_getMap h1, asInt, asIntOf, hi2, run_setMap h1]
theorem delete_sound {t ty : TypeId} {ts : Array TypeId} {x x' k k' u : Value} {σ' : Store} (hts : ts[0]? = some t) (hx : VR M false x x') (hk : VR M false k k') (hr : Rel M σ w) (h : deleteV P t x k σ = some (u, σ')) :
    u = junk ∧ ∃ M' w', (Builtin.delete_ ts ty #[x', k']).run P w = .ok (.tuple #[]) w' ∧ Rel M' σ' w' ∧ Step σ M w σ' M' w' := by
  unfold deleteV at h
  split at h
  · rename_i kt et hu
    have := VR.scalar_eq (v := .map none) rfl hx
    subst this
    split at h
    case h_2 => cases h
    rename_i d hd
    cases h
    obtain ⟨hdu, hck⟩ := run_keyDesc hd
    exact ⟨rfl, M, w, by simp [Builtin.delete_, hts, run_underlying hu, hck], hr, Step.refl _ _ _⟩
  · rename_i kt et r hu
    obtain ⟨l, hl, rfl⟩ := VR.map_ hx
    split at h
    case h_2 => cases h
    rename_i d es ck hd hg
    obtain ⟨hdu, hck⟩ := run_keyDesc hd
    obtain ⟨_, es', h1, h2⟩ := get_map hr hg hl
    obtain ⟨f1, f2⟩ := findNow_sound (d := d) hk es es'.toList 0 h2.toL
    split at h
    · cases h
    · rename_i j v0 hf
      obtain ⟨v1, g1, g2, g3, g4, _, e, e', g5, g6, g7, g8⟩ := f2 j v0 hf
      cases h
      have hj : j < es'.size := by
        have g6' : es'[j]? = some e' := by simpa using g6
        exact (Array.getElem?_eq_some_iff.1 g6').1
      have hm : Entries M (es.eraseIdx j) (es'.eraseIdxIfInBounds j) := by
        have := (h2.toL.erase j).ofL
        have he : (es'.toList.eraseIdx j).toArray = es'.eraseIdxIfInBounds j := by
          apply Array.ext'
          simp [Array.eraseIdxIfInBounds, hj]
        rwa [he] at this
      obtain ⟨a1, a2⟩ := write_map (ck2 := ck) hr hg hl hm
      refine ⟨rfl, M, _, ?_, a1, a2⟩
      simp [Builtin.delete_, hts, run_underlying hu, run_getMap h1, hck, run_findKey hdu g1, run_setMap h1]
    · rename_i hf
      cases h
      obtain ⟨a1, a2⟩ := write_map (ck2 := ck) hr hg hl h2
      refine ⟨rfl, M, _, ?_, a1, a2⟩
      simp [Builtin.delete_, hts, run_underlying hu, run_getMap h1, hck, run_findKey hdu (f1 hf), run_setMap h1]
  · cases h
theorem clear_sound {t ty kt et : TypeId} {ts : Array TypeId} {x x' u : Value} {σ' : Store} (hts : ts[0]? = some t) (hu : P.underlying t = some (.map kt et)) (hx : VR M false x x') (hr : Rel M σ w) (h : clearV x σ = some (u, σ')) :
    u = junk ∧ ∃ M' w', (Builtin.clear_ ts ty #[x']).run P w = .ok (.tuple #[]) w' ∧ Rel M' σ' w' ∧ Step σ M w σ' M' w' := by
  unfold clearV at h
  split at h
  · have := VR.scalar_eq (v := .map none) rfl hx
    subst this
    cases h
    exact ⟨rfl, M, w, by simp [Builtin.clear_, hts, run_underlying hu], hr, Step.refl _ _ _⟩
  · rename_i r
    obtain ⟨l, hl, rfl⟩ := VR.map_ hx
    split at h
    case h_2 => cases h
    rename_i es ck hg
    cases h
    obtain ⟨_, es', h1, h2⟩ := get_map hr hg hl
    obtain ⟨a1, a2⟩ := write_map (es2 := []) (ck2 := ck) (es2' := #[]) hr hg hl ⟨rfl, fun i e e' he => by simp at he⟩
    exact ⟨rfl, M, _, by simp [Builtin.clear_, hts, run_underlying hu, run_getMap h1, run_setMap h1], a1, a2⟩
  · cases h
end Go.Am
