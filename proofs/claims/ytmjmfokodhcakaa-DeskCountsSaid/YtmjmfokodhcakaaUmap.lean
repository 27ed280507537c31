/- Maps of the heap as plain association lists: what look-up, store, delete, len, clear and a range over them come to. No program in sight. -/
import Derived.WalkKit
import Derived.OwnWalk
import Derived.Maps.Own
import Derived.Deep.Draws
namespace Go.Uc
open Go.RowKit

/-! ## association lists -/
section
variable {κ ε : Type}
def mkeys (m : List (κ × ε)) : List κ := m.map (·.1)
@[simp] theorem mkeys_nil : mkeys ([] : List (κ × ε)) = [] := rfl
@[simp] theorem mkeys_cons (p : κ × ε) (r : List (κ × ε)) : mkeys (p :: r) = p.1 :: mkeys r := rfl
theorem length_mkeys (m : List (κ × ε)) : (mkeys m).length = m.length := by simp [mkeys]
end
section
variable {κ ε : Type} [DecidableEq κ]
def mfind : List (κ × ε) → κ → Nat → Option (Nat × ε)
  | [], _, _ => none
  | (k, v) :: r, x, i => if x = k then some (i, v) else mfind r x (i + 1)
def mget (m : List (κ × ε)) (x : κ) : Option ε := (mfind m x 0).map (·.2)
def mset : List (κ × ε) → κ → ε → List (κ × ε)
  | [], x, v => [(x, v)]
  | (k, u) :: r, x, v => if x = k then (k, v) :: r else (k, u) :: mset r x v
def mdel : List (κ × ε) → κ → List (κ × ε)
  | [], _ => []
  | (k, u) :: r, x => if x = k then r else (k, u) :: mdel r x
theorem mfind_shift (m : List (κ × ε)) (x : κ) (i : Nat) : mfind m x i = (mfind m x 0).map (fun p => (p.1 + i, p.2)) := by
  induction m generalizing i with
  | nil => rfl
  | cons p r ih =>
    obtain ⟨k, v⟩ := p
    simp only [mfind]
    split
    · simp
    · rw [ih (i + 1), ih (0 + 1)]
      cases mfind r x 0 <;> simp [Nat.add_comm, Nat.add_left_comm]
theorem mget_nil (x : κ) : mget ([] : List (κ × ε)) x = none := rfl
theorem mget_cons (k : κ) (v : ε) (r : List (κ × ε)) (x : κ) : mget ((k, v) :: r) x = if x = k then some v else mget r x := by
  unfold mget
  simp only [mfind]
  split
  · rfl
  · rw [mfind_shift]; cases mfind r x 0 <;> rfl
theorem mget_mset (m : List (κ × ε)) (x y : κ) (v : ε) : mget (mset m x v) y = if y = x then some v else mget m y := by
  induction m with
  | nil => simp [mset, mget_cons, mget_nil]
  | cons p r ih =>
    obtain ⟨k, u⟩ := p
    simp only [mset]
    split
    · rename_i h; subst h; simp only [mget_cons]; split <;> rfl
    · rename_i h; simp only [mget_cons, ih]
      by_cases hy : y = k
      · subst hy; rw [if_pos rfl, if_neg (fun e => h e.symm), if_pos rfl]
      · rw [if_neg hy, if_neg hy]
theorem mkeys_mset (m : List (κ × ε)) (x : κ) (v : ε) : mkeys (mset m x v) = if x ∈ mkeys m then mkeys m else mkeys m ++ [x] := by
  induction m with
  | nil => simp [mset]
  | cons p r ih =>
    obtain ⟨k, u⟩ := p
    simp only [mset]
    split
    · rename_i h; subst h; simp
    · rename_i h
      simp only [mkeys_cons, List.mem_cons, ih, h, false_or]
      split <;> simp
theorem mget_mem {m : List (κ × ε)} {x : κ} {v : ε} (h : mget m x = some v) : (x, v) ∈ m := by
  induction m with
  | nil => simp [mget_nil] at h
  | cons p r ih =>
    obtain ⟨k, u⟩ := p
    rw [mget_cons] at h
    split at h
    · rename_i e; subst e; cases h; simp
    · exact List.mem_cons_of_mem _ (ih h)
theorem mget_none {m : List (κ × ε)} {x : κ} : mget m x = none ↔ x ∉ mkeys m := by
  induction m with
  | nil => simp [mget_nil]
  | cons p r ih =>
    obtain ⟨k, u⟩ := p
    rw [mget_cons]
    simp only [mkeys_cons, List.mem_cons]
    split
    · rename_i e; simp [e]
    · rename_i e; rw [ih]; simp [e]
theorem mem_mkeys {m : List (κ × ε)} {x : κ} : x ∈ mkeys m ↔ ∃ v, mget m x = some v := by
  have h := mget_none (m := m) (x := x)
  cases hg : mget m x with
  | none => rw [hg] at h; simp at h; simp [h]
  | some v => rw [hg] at h; simp at h; simp [h]
theorem mget_of_mem {m : List (κ × ε)} (hd : (mkeys m).Nodup) {x : κ} {v : ε} (h : (x, v) ∈ m) : mget m x = some v := by
  induction m with
  | nil => simp at h
  | cons p r ih =>
    obtain ⟨k, u⟩ := p
    simp only [mkeys_cons, List.nodup_cons] at hd
    rw [mget_cons]
    rcases List.mem_cons.1 h with e | e
    · cases e; simp
    · have hx : x ∈ mkeys r := List.mem_map.2 ⟨_, e, rfl⟩
      rw [if_neg (fun e' => hd.1 (by rw [← e']; exact hx))]
      exact ih hd.2 e
theorem mset_nodup {m : List (κ × ε)} (hd : (mkeys m).Nodup) (x : κ) (v : ε) : (mkeys (mset m x v)).Nodup := by
  rw [mkeys_mset]
  split
  · exact hd
  · rename_i h
    rw [List.nodup_append]
    refine ⟨hd, by simp, ?_⟩
    intro a ha b hb e
    simp at hb; subst hb; subst e; exact h ha
theorem mdel_sub (m : List (κ × ε)) (x : κ) : (mdel m x).Sublist m := by
  induction m with
  | nil => exact List.Sublist.refl _
  | cons p r ih =>
    obtain ⟨k, u⟩ := p
    simp only [mdel]
    split
    · exact List.sublist_cons_self _ _
    · exact ih.cons_cons _
theorem mdel_nodup {m : List (κ × ε)} (hd : (mkeys m).Nodup) (x : κ) : (mkeys (mdel m x)).Nodup :=
  List.Nodup.sublist ((mdel_sub m x).map _) hd
theorem mget_mdel {m : List (κ × ε)} (hd : (mkeys m).Nodup) (x y : κ) : mget (mdel m x) y = if y = x then none else mget m y := by
  induction m with
  | nil => simp [mdel, mget_nil]
  | cons p r ih =>
    obtain ⟨k, u⟩ := p
    simp only [mkeys_cons, List.nodup_cons] at hd
    simp only [mdel]
    split
    · rename_i e; subst e
      rw [mget_cons]
      split
      · rename_i e; subst e; exact mget_none.2 hd.1
      · rfl
    · rename_i e
      rw [mget_cons, mget_cons, ih hd.2]
      by_cases hy : y = k
      · subst hy; rw [if_pos rfl, if_neg (fun e' => e e'.symm), if_pos rfl]
      · rw [if_neg hy, if_neg hy]
theorem length_mset (m : List (κ × ε)) (x : κ) (v : ε) : (mset m x v).length = if x ∈ mkeys m then m.length else m.length + 1 := by
  rw [← length_mkeys (mset m x v), mkeys_mset]
  split <;> simp [length_mkeys]
theorem length_mdel {m : List (κ × ε)} (x : κ) : (mdel m x).length = if x ∈ mkeys m then m.length - 1 else m.length := by
  induction m with
  | nil => simp [mdel]
  | cons p r ih =>
    obtain ⟨k, u⟩ := p
    simp only [mdel, mkeys_cons, List.mem_cons]
    split
    · rename_i e; simp [e]
    · rename_i e
      simp only [List.length_cons, ih, e, false_or]
      split
      · rename_i hx
        have : 0 < r.length := by
          cases r with
          | nil => simp at hx
          | cons _ _ => simp
        omega
      · rfl
end

/-! ## what a key's type asks -/
structure UKey (P : Program) (kt : TypeId) (κ : Type) [DecidableEq κ] where
  kv : κ → Value
  check : ∀ (e : Bool) (w : World) (k : κ), (Instr.checkKey e 10000 kt (kv k)).run P w = .ok () w
  find : ∀ (w : World) (x : κ) (es : List MapEntry) (m : List (κ × Value)), es.map (fun e => (e.key, e.val)) = m.map (fun p => (kv p.1, p.2)) → (Instr.findKey kt (kv x) es).run P w = .ok (mfind m x 0) w
  stays : ∀ (k : κ) (w : World), (Instr.keyThatStays (kv k) (kv k)).run P w = .ok (kv k) w

theorem findNow_int (q : IntKind) (x : Int) : ∀ (es : List MapEntry) (m : List (Int × Value)) (i : Nat), es.map (fun e => (e.key, e.val)) = m.map (fun p => (Value.int q p.1, p.2)) →
    Instr.findNow (.int q) (.int q x) es i = some (mfind m x i)
  | [], [], _, _ => rfl
  | [], _ :: _, _, h => by simp at h
  | _ :: _, [], _, h => by simp at h
  | e :: es, (k, v) :: m, i, h => by
    simp only [List.map_cons, List.cons.injEq, Prod.mk.injEq] at h
    obtain ⟨⟨hk, hv⟩, h⟩ := h
    simp only [Instr.findNow, hk, Instr.sameNow, mfind, if_true]
    by_cases hx : x = k
    · subst hx; simp [hv]
    · have : (x == k) = false := by simpa using hx
      simp only [this, if_neg hx]
      exact findNow_int q x es m (i + 1) h

noncomputable def intKey {P : Program} {kt : TypeId} {q : IntKind} (hk : P.underlying kt = some (.int q)) : UKey P kt Int where
  kv x := .int q x
  check e w k := by
    exact Go.MapKept.run_checkKey (n := 9999) hk (by simp [Go.MapKept.IsKey]) e
  find w x es m h := by
    simp [Instr.findKey, Sem.run_bind, run_underlying hk, findNow_int q x es m 0 h]
  stays k w := by
    show (Instr.keyThatStays (.int q k) (.int q k)).run P w = _
    simp [Instr.keyThatStays, Instr.sameBits]
@[simp] theorem intKey_kv {P : Program} {kt : TypeId} {q : IntKind} (hk : P.underlying kt = some (.int q)) (x : Int) : (intKey hk).kv x = .int q x := rfl

/-! ## which blocks may have turned -/
/-- Of the blocks that were there, those outside S hold what they held. -/
structure Fr (S : List Nat) (w w' : World) : Prop where
  os : w'.os = w.os
  tape : w'.tape = w.tape
  output : w'.output = w.output
  size : w.heap.size ≤ w'.heap.size
  block : ∀ k, k < w.heap.size → k ∉ S → w'.heap[k]? = w.heap[k]?
theorem Fr.refl (S : List Nat) (w : World) : Fr S w w := ⟨rfl, rfl, rfl, Nat.le_refl _, fun _ _ _ => rfl⟩
theorem Fr.trans {S T : List Nat} {a b c : World} (h : Fr S a b) (k : Fr T b c) (hT : ∀ x ∈ T, x < a.heap.size → x ∈ S) : Fr S a c :=
  ⟨k.os.trans h.os, k.tape.trans h.tape, k.output.trans h.output, Nat.le_trans h.size k.size, fun i hi hS => (k.block i (Nat.lt_of_lt_of_le hi h.size) (fun e => hS (hT i e hi))).trans (h.block i hi hS)⟩
theorem Fr.mono {S T : List Nat} {a b : World} (h : Fr S a b) (hT : ∀ x ∈ S, x < a.heap.size → x ∈ T) : Fr T a b :=
  ⟨h.os, h.tape, h.output, h.size, fun i hi hS => h.block i hi (fun e => hS (hT i e hi))⟩
theorem Fr.of_grown {w w' : World} {row : Option Nat} (h : w.grownBy w' row) : Fr row.toList w w' :=
  ⟨h.os, h.tape, h.output, h.size, fun k hk hS => h.block k hk (fun e => hS (by subst e; simp))⟩
theorem Fr.alloc (S : List Nat) (w : World) (o : Obj) : Fr S w (w.alloc o) := ⟨rfl, rfl, rfl, by simp, fun k hk _ => Below.heap_alloc _ _ _ hk⟩
theorem Fr.drew (S : List Nat) (w : World) : Fr S w w.drew := ⟨rfl, rfl, rfl, Nat.le_refl _, fun _ _ _ => rfl⟩
theorem Fr.below {w w' : World} (h : Fr [] w w') : Below w.heap.size w w' := ⟨h.os, h.tape, h.output, h.size, fun k hk => h.block k hk (by simp)⟩
theorem Fr.of_below {B : Nat} {w w' : World} (h : Below B w w') (hB : w.heap.size ≤ B) (S : List Nat) : Fr S w w' := ⟨h.os, h.tape, h.output, h.size, fun k hk _ => h.block k (Nat.lt_of_lt_of_le hk hB)⟩
theorem heap_setObj_same {w : World} {b : Nat} (o : Obj) (h : b < w.heap.size) : ({ w with heap := w.heap.setIfInBounds b o } : World).heap[b]? = some o := by simp [h]
theorem Fr.setObj {w : World} {b : Nat} (o : Obj) : Fr [b] w { w with heap := w.heap.setIfInBounds b o } :=
  ⟨rfl, rfl, rfl, by simp, fun k _ hk => by simp at hk; simp [Ne.symm hk]⟩

/-! ## a map's block -/
section
variable {P : Program} {kt et t : TypeId} {κ ε : Type} [DecidableEq κ]

theorem mfind_map (E : ε → Value) (m : List (κ × ε)) (x : κ) (i : Nat) : mfind (m.map (fun p => (p.1, E p.2))) x i = (mfind m x i).map (fun p => (p.1, E p.2)) := by
  induction m generalizing i with
  | nil => rfl
  | cons p r ih =>
    obtain ⟨k, v⟩ := p
    simp only [List.map_cons, mfind]
    split
    · rfl
    · exact ih _

def IMap (K : UKey P kt κ) (E : ε → Value) (w : World) (b : Nat) (m : List (κ × ε)) : Prop :=
  ∃ es clock, w.heap[b]? = some (.map es clock) ∧ es.toList.map (fun e => (e.key, e.val)) = m.map (fun p => (K.kv p.1, E p.2)) ∧ (∀ e ∈ es.toList, e.born < clock) ∧
    es.toList.Pairwise (fun a b => a.born < b.born) ∧ (mkeys m).Nodup

variable {K : UKey P kt κ} {E : ε → Value} {w w' : World} {b : Nat} {m : List (κ × ε)}

theorem IMap.lt (h : IMap K E w b m) : b < w.heap.size := by
  obtain ⟨es, clock, hb, _⟩ := h
  exact (Array.getElem?_eq_some_iff.1 hb).1
theorem IMap.nodup (h : IMap K E w b m) : (mkeys m).Nodup := by obtain ⟨_, _, _, _, _, _, h⟩ := h; exact h
theorem IMap.of_eq (h : IMap K E w b m) (e : w'.heap[b]? = w.heap[b]?) : IMap K E w' b m := by
  obtain ⟨es, clock, hb, r⟩ := h
  exact ⟨es, clock, e.trans hb, r⟩
theorem IMap.fr {S : List Nat} (h : IMap K E w b m) (hf : Fr S w w') (hb : b ∉ S) : IMap K E w' b m := h.of_eq (hf.block b h.lt hb)
theorem IMap.alloc (h : IMap K E w b m) (o : Obj) : IMap K E (w.alloc o) b m := h.fr (Fr.alloc [] w o) (by simp)
theorem IMap.drew (h : IMap K E w b m) : IMap K E w.drew b m := h
theorem IMap.made (K : UKey P kt κ) (E : ε → Value) (w : World) : IMap K E (w.alloc (.map #[] 0)) w.heap.size ([] : List (κ × ε)) :=
  ⟨#[], 0, heap_alloc_new w _, rfl, by simp, by simp, by simp [mkeys]⟩
theorem IMap.not_cells (h : IMap K E w b m) : ∀ c e f, w.heap[b]? ≠ some (.cells c e f) := by
  obtain ⟨es, clock, hb, _⟩ := h
  intro c e f; rw [hb]; simp

theorem run_getObj_map {es : Array MapEntry} {clock : Nat} (hb : w.heap[b]? = some (.map es clock)) : (getObj b).run P w = .ok (.map es clock) w := by
  simp [getObj, Sem.run, hb]
theorem run_setObj_map {es : Array MapEntry} {clock : Nat} (hb : w.heap[b]? = some (.map es clock)) (o : Obj) : (setObj b o).run P w = .ok () { w with heap := w.heap.setIfInBounds b o } := by
  simp [setObj, Sem.run, hb]

theorem IMap.run_lookup (h : IMap K E w b m) (ht : P.underlying t = some (.map kt et)) {z : ε} (hz : ∀ w, (zeroValue et).run P w = .ok (E z) w) (x : κ) :
    (Instr.lookup t (.map (some b)) (K.kv x) false).run P w = .ok (E ((mget m x).getD z)) w := by
  obtain ⟨es, clock, hb, hm, _, _, _⟩ := h
  have hf := K.find w x es.toList (m.map (fun p => (p.1, E p.2))) (by rw [hm, List.map_map]; rfl)
  rw [mfind_map] at hf
  simp only [Instr.lookup, Sem.run_bind, run_underlying ht, Result.andThen_ok, run_getObj_map (P := P) hb, K.check, mget]
  cases hq : mfind m x 0 <;> simp [hz, hf, hq]
theorem IMap.run_lookup_ok (h : IMap K E w b m) (ht : P.underlying t = some (.map kt et)) {z : ε} (hz : ∀ w, (zeroValue et).run P w = .ok (E z) w) (x : κ) :
    (Instr.lookup t (.map (some b)) (K.kv x) true).run P w = .ok (.tuple #[E ((mget m x).getD z), .bool (mget m x).isSome]) w := by
  obtain ⟨es, clock, hb, hm, _, _, _⟩ := h
  have hf := K.find w x es.toList (m.map (fun p => (p.1, E p.2))) (by rw [hm, List.map_map]; rfl)
  rw [mfind_map] at hf
  simp only [Instr.lookup, Sem.run_bind, run_underlying ht, Result.andThen_ok, run_getObj_map (P := P) hb, K.check, mget]
  cases hq : mfind m x 0 <;> simp [hz, hf, hq]
theorem mfind_spec {m : List (κ × ε)} {x : κ} {i : Nat} {v : ε} {j : Nat} (h : mfind m x j = some (i, v)) : j ≤ i ∧ ∃ (hi : i - j < m.length), m[i - j] = (x, v) := by
  induction m generalizing j with
  | nil => simp [mfind] at h
  | cons p r ih =>
    obtain ⟨k, u⟩ := p
    simp only [mfind] at h
    split at h
    · rename_i e; subst e
      simp only [Option.some.injEq, Prod.mk.injEq] at h
      obtain ⟨rfl, rfl⟩ := h
      exact ⟨Nat.le_refl _, by simp, by simp⟩
    · obtain ⟨h1, h2, h3⟩ := ih h
      refine ⟨by omega, by simp; omega, ?_⟩
      have e : i - j = (i - (j + 1)) + 1 := by omega
      simp only [e, List.getElem_cons_succ]
      exact h3
theorem mset_of_find {m : List (κ × ε)} {x : κ} {i : Nat} {u v : ε} (h : mfind m x 0 = some (i, u)) : mset m x v = m.set i (x, v) := by
  induction m generalizing i with
  | nil => simp [mfind] at h
  | cons p r ih =>
    obtain ⟨k, u'⟩ := p
    simp only [mfind] at h
    simp only [mset]
    split at h
    · rename_i e; subst e
      simp only [Option.some.injEq, Prod.mk.injEq] at h
      obtain ⟨rfl, rfl⟩ := h
      simp
    · rename_i e
      rw [mfind_shift] at h
      obtain ⟨q, hq, h2⟩ := Option.map_eq_some_iff.1 h
      obtain ⟨i', u''⟩ := q
      simp only [Prod.mk.injEq] at h2
      obtain ⟨rfl, rfl⟩ := h2
      rw [if_neg e, ih hq]; simp
theorem mset_of_none {m : List (κ × ε)} {x : κ} {v : ε} (h : mfind m x 0 = none) : mset m x v = m ++ [(x, v)] := by
  induction m with
  | nil => rfl
  | cons p r ih =>
    obtain ⟨k, u'⟩ := p
    simp only [mfind] at h
    simp only [mset]
    split at h
    · cases h
    · rename_i e
      rw [mfind_shift] at h
      have hq : mfind r x 0 = none := by simpa using h
      rw [if_neg e, ih hq]; simp
theorem mdel_of_find {m : List (κ × ε)} {x : κ} {i : Nat} {u : ε} (h : mfind m x 0 = some (i, u)) : mdel m x = m.eraseIdx i := by
  induction m generalizing i with
  | nil => simp [mfind] at h
  | cons p r ih =>
    obtain ⟨k, u'⟩ := p
    simp only [mfind] at h
    simp only [mdel]
    split at h
    · rename_i e; subst e
      simp only [Option.some.injEq, Prod.mk.injEq] at h
      obtain ⟨rfl, rfl⟩ := h
      simp
    · rename_i e
      rw [mfind_shift] at h
      obtain ⟨q, hq, h2⟩ := Option.map_eq_some_iff.1 h
      obtain ⟨i', u''⟩ := q
      simp only [Prod.mk.injEq] at h2
      obtain ⟨rfl, rfl⟩ := h2
      rw [if_neg e, ih hq]; simp
theorem mdel_of_none {m : List (κ × ε)} {x : κ} (h : mfind m x 0 = none) : mdel m x = m := by
  induction m with
  | nil => rfl
  | cons p r ih =>
    obtain ⟨k, u'⟩ := p
    simp only [mfind] at h
    simp only [mdel]
    split at h
    · cases h
    · rename_i e
      rw [mfind_shift] at h
      have hq : mfind r x 0 = none := by simpa using h
      rw [if_neg e, ih hq]

theorem IMap.run_mapUpdate (h : IMap K E w b m) (ht : P.underlying t = some (.map kt et)) (x : κ) (v : ε) :
    ∃ w', (Instr.mapUpdate t (.map (some b)) (K.kv x) (E v)).run P w = .ok () w' ∧ IMap K E w' b (mset m x v) ∧ Fr [b] w w' := by
  obtain ⟨es, clock, hb, hm, hborn, hpw, hnd⟩ := h
  have hf := K.find w x es.toList (m.map (fun p => (p.1, E p.2))) (by rw [hm, List.map_map]; rfl)
  rw [mfind_map] at hf
  have hlt : b < w.heap.size := (Array.getElem?_eq_some_iff.1 hb).1
  have hlen : es.size = m.length := by simpa using congrArg List.length hm
  cases hp : mfind m x 0 with
  | none =>
    refine ⟨{ w with heap := w.heap.setIfInBounds b (.map (es.push { key := K.kv x, val := E v, born := clock }) (clock + 1)) }, ?_, ⟨_, _, heap_setObj_same _ hlt, ?_, ?_, ?_, mset_nodup hnd x v⟩, Fr.setObj _⟩
    · simp only [Instr.mapUpdate, Sem.run_bind, run_underlying ht, Result.andThen_ok, run_getObj_map (P := P) hb, K.check, hf, hp, Option.map_none, run_setObj_map (P := P) hb]
    · rw [mset_of_none hp]; simp [hm]
    · intro e he
      simp at he
      rcases he with he | rfl
      · exact Nat.lt_succ_of_lt (hborn e (by simpa using he))
      · exact Nat.lt_succ_self _
    · simp only [Array.toList_push]
      rw [List.pairwise_append]
      refine ⟨hpw, by simp, ?_⟩
      intro a ha c hc
      simp at hc; subst hc
      exact hborn a ha
  | some p =>
    obtain ⟨i, u⟩ := p
    obtain ⟨_, hi, hmi⟩ := mfind_spec hp
    simp only [Nat.sub_zero] at hi hmi
    have hi' : i < es.size := by omega
    have hkey : (es[i]).key = K.kv x := by
      have := congrArg (fun l => l[i]?) hm
      simp only [List.getElem?_map, Array.getElem?_toList, Array.getElem?_eq_getElem hi', List.getElem?_eq_getElem hi, hmi, Option.map_some, Option.some.injEq, Prod.mk.injEq] at this
      exact this.1
    have hek : ((es[i]?).map (·.key)).getD (K.kv x) = K.kv x := by simp [Array.getElem?_eq_getElem hi', hkey]
    refine ⟨{ w with heap := w.heap.setIfInBounds b (.map (es.modify i fun e => { e with key := K.kv x, val := E v }) clock) }, ?_, ⟨_, _, heap_setObj_same _ hlt, ?_, ?_, ?_, mset_nodup hnd x v⟩, Fr.setObj _⟩
    · simp only [Instr.mapUpdate, Sem.run_bind, run_underlying ht, Result.andThen_ok, run_getObj_map (P := P) hb, K.check, hf, hp, Option.map_some, hek, K.stays, run_setObj_map (P := P) hb]
    · rw [mset_of_find hp]
      apply List.ext_getElem?
      intro j
      have hj := congrArg (fun l => l[j]?) hm
      simp only [List.getElem?_map, Array.getElem?_toList, Array.getElem?_modify, List.getElem?_set] at hj ⊢
      by_cases hji : i = j
      · subst hji
        simp [Array.getElem?_eq_getElem hi', hi]
      · simp [hji, hj]
    · intro e he
      obtain ⟨j, hj, rfl⟩ := List.getElem_of_mem he
      simp only [Array.getElem_toList, Array.getElem_modify]
      have hj' : j < es.size := by simpa using hj
      have := hborn es[j] (by simp)
      split <;> exact this
    · rw [List.pairwise_iff_getElem] at hpw ⊢
      intro a c ha hc hac
      simp only [Array.length_toList, Array.size_modify] at ha hc
      have := hpw a c (by simpa using ha) (by simpa using hc) hac
      simp only [Array.getElem_toList, Array.getElem_modify] at this ⊢
      split <;> split <;> exact this

theorem map_eraseIdx' {α β : Type} (f : α → β) (l : List α) (i : Nat) : (l.eraseIdx i).map f = (l.map f).eraseIdx i := by
  induction l generalizing i with
  | nil => simp
  | cons a l ih => cases i <;> simp [ih]
theorem IMap.run_delete (h : IMap K E w b m) (ht : P.underlying t = some (.map kt et)) (ty : TypeId) (ts : Array TypeId) (hts : ts[0]? = some t) (x : κ) :
    ∃ w', (Builtin.delete_ ts ty #[.map (some b), K.kv x]).run P w = .ok (.tuple #[]) w' ∧ IMap K E w' b (mdel m x) ∧ Fr [b] w w' := by
  obtain ⟨es, clock, hb, hm, hborn, hpw, hnd⟩ := h
  have hf := K.find w x es.toList (m.map (fun p => (p.1, E p.2))) (by rw [hm, List.map_map]; rfl)
  rw [mfind_map] at hf
  have hlt : b < w.heap.size := (Array.getElem?_eq_some_iff.1 hb).1
  have hlen : es.size = m.length := by simpa using congrArg List.length hm
  cases hp : mfind m x 0 with
  | none =>
    refine ⟨{ w with heap := w.heap.setIfInBounds b (.map es clock) }, ?_, ⟨es, clock, heap_setObj_same _ hlt, by rw [mdel_of_none hp]; exact hm, hborn, hpw, mdel_nodup hnd x⟩, Fr.setObj _⟩
    simp [Builtin.delete_, Sem.run_bind, hts, run_underlying ht, run_getObj_map (P := P) hb, K.check, hf, hp, Option.map_none, run_setObj_map (P := P) hb]
  | some p =>
    obtain ⟨i, u⟩ := p
    obtain ⟨_, hi, hmi⟩ := mfind_spec hp
    simp only [Nat.sub_zero] at hi hmi
    have hi' : i < es.size := by omega
    have el : (es.eraseIdxIfInBounds i).toList = es.toList.eraseIdx i := by simp [Array.eraseIdxIfInBounds, hi']
    refine ⟨{ w with heap := w.heap.setIfInBounds b (.map (es.eraseIdxIfInBounds i) clock) }, ?_, ⟨_, _, heap_setObj_same _ hlt, ?_, ?_, ?_, mdel_nodup hnd x⟩, Fr.setObj _⟩
    · simp [Builtin.delete_, Sem.run_bind, hts, run_underlying ht, run_getObj_map (P := P) hb, K.check, hf, hp, Option.map_some, run_setObj_map (P := P) hb]
    · rw [mdel_of_find hp, el, map_eraseIdx', hm, map_eraseIdx']
    · intro e he
      rw [el] at he
      exact hborn e (List.mem_of_mem_eraseIdx he)
    · rw [el]; exact hpw.sublist (List.eraseIdx_sublist _ _)

theorem IMap.run_len (h : IMap K E w b m) (ht : P.underlying t = some (.map kt et)) (ty : TypeId) (ts : Array TypeId) (hts : ts[0]? = some t) :
    (Builtin.len_ ts ty #[.map (some b)]).run P w = .ok (.int .i64 m.length) w := by
  obtain ⟨es, clock, hb, hm, _⟩ := h
  have hlen : es.size = m.length := by simpa using congrArg List.length hm
  simp [Builtin.len_, Sem.run_bind, hts, run_underlying ht, run_getObj_map (P := P) hb, hlen, goInt]

theorem IMap.run_clear (h : IMap K E w b m) (ht : P.underlying t = some (.map kt et)) (ty : TypeId) (ts : Array TypeId) (hts : ts[0]? = some t) :
    ∃ w', (Builtin.clear_ ts ty #[.map (some b)]).run P w = .ok (.tuple #[]) w' ∧ IMap K E w' b [] ∧ Fr [b] w w' := by
  obtain ⟨es, clock, hb, hm, hborn, hpw, hnd⟩ := h
  have hlt : b < w.heap.size := (Array.getElem?_eq_some_iff.1 hb).1
  refine ⟨{ w with heap := w.heap.setIfInBounds b (.map #[] clock) }, ?_, ⟨#[], clock, heap_setObj_same _ hlt, rfl, by simp, by simp, by simp [mkeys]⟩, Fr.setObj _⟩
  simp [Builtin.clear_, Sem.run_bind, hts, run_underlying ht, run_getObj_map (P := P) hb, run_setObj_map (P := P) hb]

theorem IMap.drewN (h : IMap K E w b m) (n : Nat) : IMap K E (w.drewN n) b m := h
theorem Fr.drewN (S : List Nat) (w : World) (n : Nat) : Fr S w (w.drewN n) := ⟨rfl, rfl, rfl, Nat.le_refl _, fun _ _ _ => rfl⟩

/-- 'm[k] = v' at the operation. -/
theorem wpList_mapUpdate_imap {ops : Array Oper} {rest : List Oper} {o : Oper} {a : Act} {Q : Exit → Act → World → Prop} (hg : o.guard = none) (mo xo vo : Operand) (hop : o.op = Op.mapUpdate t mo xo vo)
    (ht : P.underlying t = some (.map kt et)) (h : IMap K E w b m) (hm : a.eval mo = .map (some b)) (x : κ) (v : ε) (hx : a.eval xo = K.kv x) (hv : a.eval vo = E v)
    (hK : ∀ w', IMap K E w' b (mset m x v) → Fr [b] w w' → wpList P ops Q rest (a.put o.dst undef) w') : wpList P ops Q (o :: rest) a w := by
  refine wpList_plain hg fun K' hK' => ?_
  obtain ⟨w', hrun, r1, r2⟩ := h.run_mapUpdate ht x v
  unfold Oper.wp
  simp [execOp, hop, hm, hx, hv, hrun, Result.andThen]
  exact hK' _ _ (hK w' r1 r2)
/-- 'delete(m, k)' at the operation. -/
theorem wpList_delete_imap {ops : Array Oper} {rest : List Oper} {o : Oper} {a : Act} {Q : Exit → Act → World → Prop} (hg : o.guard = none) (mo xo : Operand) (ts : Array TypeId) (hop : o.op = Op.call { callee := .builtin .delete, args := #[mo, xo], argTypes := ts })
    (hts : ts[0]? = some t) (ht : P.underlying t = some (.map kt et)) (h : IMap K E w b m) (hm : a.eval mo = .map (some b)) (x : κ) (hx : a.eval xo = K.kv x)
    (hK : ∀ w', IMap K E w' b (mdel m x) → Fr [b] w w' → wpList P ops Q rest (a.put o.dst (.tuple #[])) w') : wpList P ops Q (o :: rest) a w := by
  refine wpList_plain hg fun K' hK' => ?_
  obtain ⟨w', hrun, r1, r2⟩ := h.run_delete ht o.type ts hts x
  unfold Oper.wp
  simp [execOp, hop, hm, hx, hrun, Result.andThen, resolve, invoke, builtin]
  exact hK' _ _ (hK w' r1 r2)
/-- 'clear(m)' at the operation. -/
theorem wpList_clear_imap {ops : Array Oper} {rest : List Oper} {o : Oper} {a : Act} {Q : Exit → Act → World → Prop} (hg : o.guard = none) (mo : Operand) (ts : Array TypeId) (hop : o.op = Op.call { callee := .builtin .clear, args := #[mo], argTypes := ts })
    (hts : ts[0]? = some t) (ht : P.underlying t = some (.map kt et)) (h : IMap K E w b m) (hm : a.eval mo = .map (some b))
    (hK : ∀ w', IMap K E w' b ([] : List (κ × ε)) → Fr [b] w w' → wpList P ops Q rest (a.put o.dst (.tuple #[])) w') : wpList P ops Q (o :: rest) a w := by
  refine wpList_plain hg fun K' hK' => ?_
  obtain ⟨w', hrun, r1, r2⟩ := h.run_clear ht o.type ts hts
  unfold Oper.wp
  simp [execOp, hop, hm, hrun, Result.andThen, resolve, invoke, builtin]
  exact hK' _ _ (hK w' r1 r2)
end

/-! ## a block of cells, known whole -/
def Row (w : World) (g : Nat) (t : TypeId) (cs : Array Value) : Prop := w.heap[g]? = some (.cells cs t (0, 0))
section
variable {w w' : World} {g : Nat} {t : TypeId} {cs : Array Value}
theorem Row.lt (h : Row w g t cs) : g < w.heap.size := (Array.getElem?_eq_some_iff.1 h).1
theorem Row.cell (h : Row w g t cs) (i : Nat) : w.cell? ⟨g, i, none⟩ = cs[i]? := cell_of_row w g i cs t (0, 0) h
theorem Row.frozen (h : Row w g t cs) (i : Nat) : w.frozen? ⟨g, i, none⟩ = false := frozen_of_row w g i cs t h
theorem Row.of_eq (h : Row w g t cs) (e : w'.heap[g]? = w.heap[g]?) : Row w' g t cs := e.trans h
theorem Row.fr {S : List Nat} (h : Row w g t cs) (hf : Fr S w w') (hg : g ∉ S) : Row w' g t cs := h.of_eq (hf.block g h.lt hg)
theorem Row.new (w : World) (t : TypeId) (cs : Array Value) : Row (w.alloc (.cells cs t)) w.heap.size t cs := heap_alloc_new w _
theorem Row.drew (h : Row w g t cs) : Row w.drew g t cs := h
theorem Row.drewN (h : Row w g t cs) (n : Nat) : Row (w.drewN n) g t cs := h
theorem Row.alloc (h : Row w g t cs) (o : Obj) : Row (w.alloc o) g t cs := h.fr (Fr.alloc [] w o) (by simp)
theorem Row.set_ (h : Row w g t cs) (i : Nat) (u : Value) : Row (w.setCell ⟨g, i, none⟩ u) g t (cs.setIfInBounds i u) := heap_setCell_same w g i cs t u h
theorem Fr.cell {S : List Nat} (hf : Fr S w w') {a : Addr} (hb : a.block < w.heap.size) (hS : a.block ∉ S) : w'.cell? a = w.cell? a := World.cell?_of_block (hf.block _ hb hS)
theorem Fr.frozen {S : List Nat} (hf : Fr S w w') {a : Addr} (hb : a.block < w.heap.size) (hS : a.block ∉ S) : w'.frozen? a = w.frozen? a := World.frozen?_of_block (hf.block _ hb hS)
theorem Fr.setCell (w : World) (a : Addr) (u : Value) : Fr [a.block] w (w.setCell a u) :=
  ⟨rfl, rfl, rfl, by simp [World.setCell], fun k _ hk => Below.heap_setCell w a u k (by simpa using hk)⟩
theorem Row.far {h' : Nat} (h : Row w g t cs) (hp : g ≠ h') (i : Nat) (u : Value) : Row (w.setCell ⟨h', i, none⟩ u) g t cs := h.fr (Fr.setCell w _ u) (by simpa using hp)
theorem Row.inj {t' : TypeId} {cs' : Array Value} (h : Row w g t cs) (h' : Row w g t' cs') : t = t' ∧ cs = cs' := by
  unfold Row at h h'; rw [h] at h'; simp at h'; exact ⟨h'.2, h'.1⟩
theorem Row.ne_map {P : Program} {kt : TypeId} {κ ε : Type} [DecidableEq κ] {K : UKey P kt κ} {E : ε → Value} {b : Nat} {m : List (κ × ε)} (h : Row w g t cs) (hm : IMap K E w b m) : g ≠ b := by
  rintro rfl; exact hm.not_cells _ _ _ h
end
end Go.Uc
