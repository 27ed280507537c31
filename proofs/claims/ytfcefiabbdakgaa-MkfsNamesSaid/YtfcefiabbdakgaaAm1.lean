/- The abstract machine, part 1: its store, and when a world of the model shows a store. No program in sight. -/
import Derived.WalkKit
import Derived.Orders
import Derived.CheckFast
set_option linter.all false
namespace Go.Am

/-! ## stores -/
/-- What an id stands for: cells that may be written (grow: the size of an element, where the cells were made by an append), the entries of a map, cells that are only read. -/
inductive SObj where
  | cells (c : List Value) (grow : Option Nat)
  | map (es : List MapEntry) (clock : Nat)
  | lent (c : List Value)

def SObj.own : SObj → Bool
  | .lent _ => false
  | _ => true

structure Store where
  get : Nat → Option SObj
  next : Nat
  fresh : ∀ i, next ≤ i → get i = none

def Store.put (σ : Store) (i : Nat) (o : Option SObj) : Store where
  get j := if j = i then o else σ.get j
  next := bif Nat.ble σ.next i then i + 1 else σ.next
  fresh j hj := by
    cases hb : Nat.ble σ.next i <;> rw [hb] at hj <;> simp only [cond_true, cond_false] at hj
    · have h0 : ¬ σ.next ≤ i := fun h => by rw [Nat.ble_eq_true_of_le h] at hb; cases hb
      rw [if_neg (by omega)]
      exact σ.fresh j hj
    · have h0 := Nat.le_of_ble_eq_true hb
      rw [if_neg (by omega)]
      exact σ.fresh j (by omega)
def Store.push (σ : Store) (o : SObj) : Store := σ.put σ.next (some o)
def Store.empty : Store := ⟨fun _ => none, 0, fun _ _ => rfl⟩
theorem Store.ext_ {σ τ : Store} (h1 : σ.next = τ.next) (h2 : ∀ i, σ.get i = τ.get i) : σ = τ := by
  cases σ with | mk g n f =>
  cases τ with | mk g' n' f' =>
  have h3 : g = g' := funext h2
  have h1 : n = n' := h1
  subst h1 h3
  rfl

namespace Store
variable (σ : Store) (i j : Nat) (o : Option SObj)
theorem get_put : (σ.put i o).get j = if j = i then o else σ.get j := rfl
@[simp] theorem get_put_same : (σ.put i o).get i = o := by rw [get_put, if_pos rfl]
theorem get_put_ne {i j : Nat} (h : j ≠ i) : (σ.put i o).get j = σ.get j := by rw [get_put, if_neg h]
theorem next_put : (σ.put i o).next = if σ.next ≤ i then i + 1 else σ.next := by
  show (bif Nat.ble σ.next i then i + 1 else σ.next) = _
  cases hb : Nat.ble σ.next i
  · rw [if_neg (fun h => by rw [Nat.ble_eq_true_of_le h] at hb; cases hb)]; rfl
  · rw [if_pos (Nat.le_of_ble_eq_true hb)]; rfl
theorem next_put_lt {i : Nat} (h : i < σ.next) : (σ.put i o).next = σ.next := by rw [next_put, if_neg (by omega)]
@[simp] theorem next_push (o : SObj) : (σ.push o).next = σ.next + 1 := by unfold push; rw [next_put, if_pos (Nat.le_refl _)]
theorem get_push (o : SObj) : (σ.push o).get j = if j = σ.next then some o else σ.get j := get_put _ _ _ _
@[simp] theorem get_push_same (o : SObj) : (σ.push o).get σ.next = some o := by rw [get_push, if_pos rfl]
theorem get_none {σ : Store} {i : Nat} (h : σ.next ≤ i) : σ.get i = none := σ.fresh i h
@[simp] theorem get_next : σ.get σ.next = none := σ.fresh _ (Nat.le_refl _)
theorem lt_of_get {σ : Store} {i : Nat} {o : SObj} (h : σ.get i = some o) : i < σ.next := by
  rcases Nat.lt_or_ge i σ.next with h0 | h0
  · exact h0
  · rw [get_none h0] at h; cases h
theorem get_push_lt {σ : Store} {i : Nat} {o : SObj} (h : i < σ.next) : (σ.push o).get i = σ.get i := by rw [get_push, if_neg (by omega)]
theorem get_push_some {σ : Store} {i : Nat} {x o : SObj} (h : σ.get i = some x) : (σ.push o).get i = some x := by rw [get_push_lt (lt_of_get h), h]
end Store

/-! ## values -/
/-- Where an id lies: the block, the first cell, and, of cells that an append made, the size of an element and how many cells are there. -/
structure Loc where
  block : Nat
  base : Nat
  grow : Option (Nat × Nat)

abbrev Places := Nat → Option Loc

def scalar : Value → Bool
  | .bool _ | .int .. | .float .. | .complex .. | .string _ | .pointer none | .slice none _ _ | .map none | .chan none | .nilFunc | .nilIface => true
  | _ => false

abbrev junk : Value := .tuple #[]
/-- What an operation leaves that is not carried out. -/
abbrev gone : Value := .chan (some 0)

/-- VR M true: of one cell; VR M false: any. The left one is the machine's. -/
inductive VR (M : Places) : Bool → Value → Value → Prop
  | scalar (v : Value) (h : scalar v = true) : VR M true v v
  | ptr (i o : Nat) (l : Loc) (h : M i = some l) : VR M true (.pointer (some ⟨i, o, none⟩)) (.pointer (some ⟨l.block, l.base + o, none⟩))
  | slice (i o n c : Nat) (l : Loc) (h : M i = some l) : VR M true (.slice (some ⟨i, o, none⟩) n c) (.slice (some ⟨l.block, l.base + o, none⟩) n c)
  | grown (i o n c c' sz room b base : Nat) (h : M i = some ⟨b, base, some (sz, room)⟩) (hc : c ≤ c') (hr : o + c' * sz ≤ room) : VR M true (.slice (some ⟨i, o, some sz⟩) n c) (.slice (some ⟨b, base + o, none⟩) n c')
  | map (i : Nat) (l : Loc) (h : M i = some l) : VR M true (.map (some i)) (.map (some l.block))
  | func (f : FuncId) (xs ys xs' ys' : Array Value) (hx : xs.size = xs'.size) (hy : ys.size = ys'.size) (h : ∀ (i : Nat) (v v' : Value), xs[i]? = some v → xs'[i]? = some v' → VR M false v v')
      (k : ∀ (i : Nat) (v v' : Value), ys[i]? = some v → ys'[i]? = some v' → VR M false v v') : VR M true (.func (.func f) xs ys) (.func (.func f) xs' ys')
  | iface (t : TypeId) (v v' : Value) (h : VR M false v v') : VR M true (.iface t v) (.iface t v')
  | cell (v v' : Value) (h : VR M true v v') : VR M false v v'
  | agg (xs ys : Array Value) (hs : xs.size = ys.size) (h : ∀ (i : Nat) (v v' : Value), xs[i]? = some v → ys[i]? = some v' → VR M true v v') : VR M false (.agg xs) (.agg ys)
  | tuple (xs ys : Array Value) (hs : xs.size = ys.size) (h : ∀ (i : Nat) (v v' : Value), xs[i]? = some v → ys[i]? = some v' → VR M false v v') : VR M false (.tuple xs) (.tuple ys)
  | junk (v : Value) : VR M false junk v
  | gone : VR M false gone undef

/-- Places that hold what others hold. -/
def Places.le (M N : Places) : Prop := ∀ i l, M i = some l → N i = some l
theorem Places.le_refl (M : Places) : M.le M := fun _ _ h => h
theorem Places.le_trans {M N K : Places} (h : M.le N) (k : N.le K) : M.le K := fun i l e => k i l (h i l e)

theorem VR.mono {M N : Places} (hm : M.le N) {b : Bool} {v v' : Value} (h : VR M b v v') : VR N b v v' := by
  induction h with
  | scalar v h => exact .scalar v h
  | ptr i o l h => exact .ptr i o l (hm _ _ h)
  | slice i o n c l h => exact .slice i o n c l (hm _ _ h)
  | grown i o n c c' sz room b base h hc hr => exact .grown i o n c c' sz room b base (hm _ _ h) hc hr
  | map i l h => exact .map i l (hm _ _ h)
  | func f xs ys xs' ys' hx hy h k ih ik => exact .func f xs ys xs' ys' hx hy ih ik
  | iface t v v' h ih => exact .iface t v v' ih
  | cell v v' h ih => exact .cell v v' ih
  | agg xs ys hs h ih => exact .agg xs ys hs ih
  | tuple xs ys hs h ih => exact .tuple xs ys hs ih
  | junk v => exact .junk v
  | gone => exact .gone

theorem VR.cell_of {M : Places} {v v' : Value} (h : VR M true v v') : VR M false v v' := .cell _ _ h

/-- No ids. -/
def closed : Value → Bool
  | .agg xs => xs.toList.all scalar
  | v => scalar v
theorem VR.of_closed {M : Places} {v : Value} (h : closed v = true) : VR M false v v := by
  have key : ∀ v : Value, Am.scalar v = true → VR M false v v := fun v h => .cell _ _ (.scalar v h)
  cases v with
  | agg xs =>
    refine .agg xs xs rfl fun i a b ha hb => ?_
    rw [ha] at hb; cases hb
    simp only [closed, List.all_eq_true] at h
    have hm : a ∈ xs.toList := by
      have := Array.getElem?_eq_some_iff.1 ha
      obtain ⟨hi, e⟩ := this
      rw [← e]; exact Array.getElem_mem_toList hi
    exact .scalar a (h a hm)
  | _ => exact key _ (by simpa only [closed] using h)

theorem VR.scalar_eq {M : Places} {v v' : Value} (hs : Am.scalar v = true) {b : Bool} (h : VR M b v v') : v' = v := by
  cases h with
  | scalar v h => rfl
  | cell v v' h => cases h <;> first | rfl | (simp [Am.scalar] at hs)
  | _ => simp [Am.scalar] at hs
theorem VR.bool_ {M : Places} {b : Bool} {x : Bool} {v' : Value} (h : VR M b (.bool x) v') : v' = .bool x := VR.scalar_eq rfl h
theorem VR.int_ {M : Places} {b : Bool} {k : IntKind} {x : Int} {v' : Value} (h : VR M b (.int k x) v') : v' = .int k x := VR.scalar_eq rfl h
theorem VR.string_ {M : Places} {b : Bool} {x : ByteArray} {v' : Value} (h : VR M b (.string x) v') : v' = .string x := VR.scalar_eq rfl h
theorem VR.agg_ {M : Places} {xs : Array Value} {v' : Value} (h : VR M false (.agg xs) v') : ∃ ys, v' = .agg ys ∧ xs.size = ys.size ∧ ∀ (i : Nat) (v v' : Value), xs[i]? = some v → ys[i]? = some v' → VR M true v v' := by
  cases h with
  | agg xs ys hs h => exact ⟨ys, rfl, hs, h⟩
  | cell v v' h => cases h with | scalar _ h => simp [Am.scalar] at h
theorem VR.ptr_ {M : Places} {b : Bool} {i o : Nat} {s : Option Nat} {v' : Value} (h : VR M b (.pointer (some ⟨i, o, s⟩)) v') : s = none ∧ ∃ l, M i = some l ∧ v' = .pointer (some ⟨l.block, l.base + o, none⟩) := by
  have key : ∀ v', VR M true (.pointer (some ⟨i, o, s⟩)) v' → s = none ∧ ∃ l, M i = some l ∧ v' = .pointer (some ⟨l.block, l.base + o, none⟩) := fun v' h => by
    cases h with
    | scalar _ h => simp [Am.scalar] at h
    | ptr _ _ l hl => exact ⟨rfl, l, hl, rfl⟩
  cases b with
  | true => exact key v' h
  | false => cases h with | cell _ _ h => exact key v' h
theorem VR.map_ {M : Places} {b : Bool} {i : Nat} {v' : Value} (h : VR M b (.map (some i)) v') : ∃ l, M i = some l ∧ v' = .map (some l.block) := by
  have key : ∀ v', VR M true (.map (some i)) v' → ∃ l, M i = some l ∧ v' = .map (some l.block) := fun v' h => by
    cases h with
    | scalar _ h => simp [Am.scalar] at h
    | map _ l hl => exact ⟨l, hl, rfl⟩
  cases b with
  | true => exact key v' h
  | false => cases h with | cell _ _ h => exact key v' h
theorem VR.slice_ {M : Places} {b : Bool} {i o n c : Nat} {s : Option Nat} {v' : Value} (h : VR M b (.slice (some ⟨i, o, s⟩) n c) v') :
    ∃ l c', M i = some l ∧ v' = .slice (some ⟨l.block, l.base + o, none⟩) n c' ∧ c ≤ c' ∧ ((s = none ∧ c' = c) ∨ ∃ sz room, s = some sz ∧ l.grow = some (sz, room) ∧ o + c' * sz ≤ room) := by
  have key : ∀ v', VR M true (.slice (some ⟨i, o, s⟩) n c) v' → ∃ l c', M i = some l ∧ v' = .slice (some ⟨l.block, l.base + o, none⟩) n c' ∧ c ≤ c' ∧ ((s = none ∧ c' = c) ∨ ∃ sz room, s = some sz ∧ l.grow = some (sz, room) ∧ o + c' * sz ≤ room) := fun v' h => by
    cases h with
    | scalar _ h => simp [Am.scalar] at h
    | slice _ _ _ _ l hl => exact ⟨l, c, hl, rfl, Nat.le_refl _, .inl ⟨rfl, rfl⟩⟩
    | grown _ _ _ _ c' sz room b base hl hc hr => exact ⟨_, c', hl, rfl, hc, .inr ⟨sz, room, rfl, rfl, hr⟩⟩
  cases b with
  | true => exact key v' h
  | false => cases h with | cell _ _ h => exact key v' h
theorem VR.func_ {M : Places} {b : Bool} {fn : Fn} {xs ys : Array Value} {v' : Value} (h : VR M b (.func fn xs ys) v') : ∃ f xs' ys', fn = .func f ∧ v' = .func (.func f) xs' ys' ∧ xs.size = xs'.size ∧ ys.size = ys'.size ∧
    (∀ (i : Nat) (v v' : Value), xs[i]? = some v → xs'[i]? = some v' → VR M false v v') ∧ ∀ (i : Nat) (v v' : Value), ys[i]? = some v → ys'[i]? = some v' → VR M false v v' := by
  have key : ∀ v', VR M true (.func fn xs ys) v' → ∃ f xs' ys', fn = .func f ∧ v' = .func (.func f) xs' ys' ∧ xs.size = xs'.size ∧ ys.size = ys'.size ∧
    (∀ (i : Nat) (v v' : Value), xs[i]? = some v → xs'[i]? = some v' → VR M false v v') ∧ ∀ (i : Nat) (v v' : Value), ys[i]? = some v → ys'[i]? = some v' → VR M false v v' := fun v' h => by
    cases h with
    | scalar _ h => simp [Am.scalar] at h
    | func f xs ys xs' ys' hx hy h k => exact ⟨f, xs', ys', rfl, rfl, hx, hy, h, k⟩
  cases b with
  | true => exact key v' h
  | false => cases h with | cell _ _ h => exact key v' h
theorem VR.tuple_ {M : Places} {xs : Array Value} {v' : Value} (h : VR M false (.tuple xs) v') (h0 : 0 < xs.size) : ∃ ys, v' = .tuple ys ∧ xs.size = ys.size ∧ ∀ (i : Nat) (v v' : Value), xs[i]? = some v → ys[i]? = some v' → VR M false v v' := by
  cases h with
  | tuple xs ys hs h => exact ⟨ys, rfl, hs, h⟩
  | cell v v' h => cases h with | scalar _ h => simp [Am.scalar] at h
  | junk v => simp at h0
theorem VR.chan_ {M : Places} {n : Nat} {v' : Value} (h : VR M false (.chan (some n)) v') : v' = undef := by
  cases h with
  | gone => rfl
  | cell _ _ h => cases h with | scalar _ h => simp [Am.scalar] at h
/-- A value that one cell holds. -/
def cell1 : Value → Bool
  | .agg _ | .tuple _ | .chan (some _) => false
  | _ => true
theorem VR.one {M : Places} {v v' : Value} (h : VR M true v v') : cell1 v' = true := by
  cases h with
  | scalar v h => cases v <;> first | rfl | (simp [Am.scalar] at h; done) | (rename_i x; cases x <;> first | rfl | (simp [Am.scalar] at h; done))
  | _ => rfl
theorem VR.one' {M : Places} {v v' : Value} (h : VR M true v v') : cell1 v = true := by
  cases h with
  | scalar v h => cases v <;> first | rfl | (simp [Am.scalar] at h; done) | (rename_i x; cases x <;> first | rfl | (simp [Am.scalar] at h; done))
  | _ => rfl
theorem VR.true_of {M : Places} {v v' : Value} (h : VR M false v v') (h1 : cell1 v = true) : VR M true v v' := by
  cases h with
  | cell _ _ h => exact h
  | _ => cases h1

/-- The cells of a value. -/
def cellsL : Value → Option (List Value)
  | .agg xs => some xs.toList
  | .tuple _ => none
  | .chan (some _) => none
  | v => some [v]
def Cells (M : Places) (xs ys : List Value) : Prop := xs.length = ys.length ∧ ∀ (i : Nat) (v v' : Value), xs[i]? = some v → ys[i]? = some v' → VR M true v v'
theorem cells_scalar {v : Value} (h : scalar v = true) : cellsL v = some [v] ∧ v.cells = #[v] := by
  cases v <;> first | exact ⟨rfl, rfl⟩ | (simp [scalar] at h; done) | (rename_i x; cases x <;> first | exact ⟨rfl, rfl⟩ | (simp [scalar] at h; done))
theorem VR.cells_ {M : Places} {v v' : Value} {xs : List Value} (h : VR M false v v') (hx : cellsL v = some xs) : Cells M xs v'.cells.toList := by
  have key : VR M true v v' → cellsL v = some [v] → v'.cells = #[v'] → Cells M xs v'.cells.toList := fun h hx' hc => by
    rw [hx'] at hx; cases hx
    rw [hc]
    refine ⟨rfl, fun i a b ha hb => ?_⟩
    cases i with
    | zero => simp at ha hb; subst ha hb; exact h
    | succ i => simp at ha
  cases h with
  | cell _ _ h => cases h with
    | scalar v hs => exact key (.scalar _ hs) (cells_scalar hs).1 (cells_scalar hs).2
    | ptr i o l h => exact key (.ptr i o l h) rfl rfl
    | slice i o n c l h => exact key (.slice i o n c l h) rfl rfl
    | grown i o n c c' sz room b base h hc hr => exact key (.grown i o n c c' sz room b base h hc hr) rfl rfl
    | map i l h => exact key (.map i l h) rfl rfl
    | func f xs ys xs' ys' hx' hy h k => exact key (.func f xs ys xs' ys' hx' hy h k) rfl rfl
    | iface t v v' h => exact key (.iface t v v' h) rfl rfl
  | agg xs' ys hs h =>
    simp only [cellsL, Option.some.injEq] at hx
    subst hx
    exact ⟨by simpa [Value.cells] using hs, fun i a b ha hb => h i a b (by simpa using ha) (by simpa [Value.cells] using hb)⟩
  | tuple xs ys hs h => simp [cellsL] at hx
  | junk v => simp [cellsL] at hx
  | gone => simp [cellsL] at hx
theorem Cells.nil {M : Places} : Cells M [] [] := ⟨rfl, fun i v v' h => by simp at h⟩
theorem Cells.append {M : Places} {xs ys us vs : List Value} (h : Cells M xs ys) (k : Cells M us vs) : Cells M (xs ++ us) (ys ++ vs) := by
  obtain ⟨h1, h2⟩ := h
  obtain ⟨k1, k2⟩ := k
  refine ⟨by simp [h1, k1], fun i v v' hv hv' => ?_⟩
  rw [List.getElem?_append] at hv hv'
  by_cases hi : i < xs.length
  · rw [if_pos hi] at hv
    rw [if_pos (by omega)] at hv'
    exact h2 i v v' hv hv'
  · rw [if_neg hi] at hv
    rw [if_neg (by omega)] at hv'
    rw [← h1] at hv'
    exact k2 _ v v' hv hv'
theorem Cells.take {M : Places} {xs ys : List Value} (h : Cells M xs ys) (n : Nat) : Cells M (xs.take n) (ys.take n) := by
  refine ⟨by simp [h.1], fun i v v' hv hv' => ?_⟩
  rw [List.getElem?_take] at hv hv'
  split at hv
  · rename_i hi; rw [if_pos hi] at hv'; exact h.2 i v v' hv hv'
  · cases hv
theorem Cells.drop {M : Places} {xs ys : List Value} (h : Cells M xs ys) (n : Nat) : Cells M (xs.drop n) (ys.drop n) := by
  refine ⟨by simp [h.1], fun i v v' hv hv' => ?_⟩
  rw [List.getElem?_drop] at hv hv'
  exact h.2 _ v v' hv hv'
theorem Cells.mono {M N : Places} (hm : M.le N) {xs ys : List Value} (h : Cells M xs ys) : Cells N xs ys := ⟨h.1, fun i v v' hv hv' => (h.2 i v v' hv hv').mono hm⟩
theorem Cells.vagg {M : Places} {xs ys : List Value} (h : Cells M xs ys) : VR M false (.agg xs.toArray) (.agg ys.toArray) := .agg _ _ (by simpa using h.1) fun i v v' hv hv' => h.2 i v v' (by simpa using hv) (by simpa using hv')
theorem Cells.vagg' {M : Places} {xs : List Value} {ys : Array Value} (h : Cells M xs ys.toList) : VR M false (.agg xs.toArray) (.agg ys) := .agg _ _ (by simpa using h.1) fun i v v' hv hv' => h.2 i v v' (by simpa using hv) (by simpa using hv')
theorem Cells.of_closed {M : Places} {xs : List Value} (h : xs.all scalar = true) : Cells M xs xs := ⟨rfl, fun i v v' hv hv' => by
  rw [hv] at hv'; cases hv'
  exact .scalar v (List.all_eq_true.1 h v (List.mem_of_getElem? hv))⟩
theorem Cells.of_agg {M : Places} {xs ys : Array Value} (h : VR M false (.agg xs) (.agg ys)) : Cells M xs.toList ys.toList := VR.cells_ h rfl

/-! ## a world that shows a store -/
/-- From a place on a row of cells shows a list. -/
def Row (M : Places) (c : List Value) (arr : Array Value) (base : Nat) : Prop := ∀ j v, c[j]? = some v → ∃ v', arr[base + j]? = some v' ∧ VR M true v v'
theorem Row.mono {M N : Places} (hm : M.le N) {c : List Value} {arr : Array Value} {b : Nat} (h : Row M c arr b) : Row N c arr b := fun j v hv => by
  obtain ⟨v', h1, h2⟩ := h j v hv
  exact ⟨v', h1, h2.mono hm⟩
theorem Row.le {M : Places} {c : List Value} {arr : Array Value} {b : Nat} (h : Row M c arr b) (h0 : 0 < c.length) : b + c.length ≤ arr.size := by
  obtain ⟨v', h1, _⟩ := h (c.length - 1) _ (List.getElem?_eq_getElem (by omega))
  have := (Array.getElem?_eq_some_iff.1 h1).1
  omega

def EntryR (M : Places) (e e' : MapEntry) : Prop := e.born = e'.born ∧ VR M false e.key e'.key ∧ VR M false e.val e'.val
def Entries (M : Places) (es : List MapEntry) (es' : Array MapEntry) : Prop := es.length = es'.size ∧ ∀ (i : Nat) (e e' : MapEntry), es[i]? = some e → es'[i]? = some e' → EntryR M e e'
theorem EntryR.mono {M N : Places} (hm : M.le N) {e e' : MapEntry} (h : EntryR M e e') : EntryR N e e' := ⟨h.1, h.2.1.mono hm, h.2.2.mono hm⟩
theorem Entries.mono {M N : Places} (hm : M.le N) {es : List MapEntry} {es' : Array MapEntry} (h : Entries M es es') : Entries N es es' := ⟨h.1, fun i e e' he he' => (h.2 i e e' he he').mono hm⟩

/-- What lies at a place. -/
def Shows (M : Places) (w : World) (l : Loc) : SObj → Prop
  | .cells c g => l.grow.map (·.1) = g ∧ ∃ arr e fz, w.heap[l.block]? = some (.cells arr e fz) ∧ Row M c arr l.base ∧ (fz = (0, 0) ∨ (g ≠ none ∧ arr.size ≤ fz.1)) ∧ ∀ sz room, l.grow = some (sz, room) → l.base + room ≤ arr.size
  | .map es ck => l.grow = none ∧ ∃ es', w.heap[l.block]? = some (.map es' ck) ∧ Entries M es es'
  | .lent c => l.grow = none ∧ l.block < w.heap.size ∧ ∀ j v, c[j]? = some v → ∃ v', w.cell? ⟨l.block, l.base + j, none⟩ = some v' ∧ VR M true v v'

theorem Shows.mono {M N : Places} (hm : M.le N) {w : World} {l : Loc} {o : SObj} (h : Shows M w l o) : Shows N w l o := by
  cases o with
  | cells c g =>
    obtain ⟨h1, arr, e, fz, h2, h3, h4, h5⟩ := h
    exact ⟨h1, arr, e, fz, h2, h3.mono hm, h4, h5⟩
  | map es ck =>
    obtain ⟨h1, es', h2, h3⟩ := h
    exact ⟨h1, es', h2, h3.mono hm⟩
  | lent c =>
    obtain ⟨h1, h0, h2⟩ := h
    refine ⟨h1, h0, fun j v hv => ?_⟩
    obtain ⟨v', a, b⟩ := h2 j v hv
    exact ⟨v', a, b.mono hm⟩
theorem Shows.same {M : Places} {w w' : World} {l : Loc} {o : SObj} (h : Shows M w l o) (hb : w'.heap[l.block]? = w.heap[l.block]?) : Shows M w' l o := by
  cases o with
  | cells c g =>
    obtain ⟨h1, arr, e, fz, h2, h3⟩ := h
    exact ⟨h1, arr, e, fz, by rw [hb]; exact h2, h3⟩
  | map es ck =>
    obtain ⟨h1, es', h2, h3⟩ := h
    exact ⟨h1, es', by rw [hb]; exact h2, h3⟩
  | lent c =>
    obtain ⟨h1, h0, h2⟩ := h
    refine ⟨h1, ?_, fun j v hv => ?_⟩
    · rw [Array.getElem?_eq_getElem h0] at hb
      exact (Array.getElem?_eq_some_iff.1 hb).1
    obtain ⟨v', a, b⟩ := h2 j v hv
    refine ⟨v', ?_, b⟩
    unfold World.cell? at a ⊢
    simp only [hb]
    exact a
theorem Shows.lt {M : Places} {w : World} {l : Loc} {o : SObj} (h : Shows M w l o) : l.block < w.heap.size := by
  have key : ∀ x, w.heap[l.block]? = some x → l.block < w.heap.size := fun x hx => (Array.getElem?_eq_some_iff.1 hx).1
  cases o with
  | cells c g => obtain ⟨_, arr, e, fz, h2, _⟩ := h; exact key _ h2
  | map es ck => obtain ⟨_, es', h2, _⟩ := h; exact key _ h2
  | lent c => exact h.2.1

structure Rel (M : Places) (σ : Store) (w : World) : Prop where
  shows : ∀ i o, σ.get i = some o → ∃ l, M i = some l ∧ Shows M w l o
  apart : ∀ i j o o' l l', σ.get i = some o → σ.get j = some o' → o.own = true → i ≠ j → M i = some l → M j = some l' → l.block ≠ l'.block
  dom : ∀ i, σ.next ≤ i → M i = none

/-- A block that the store may write. -/
def Owned (σ : Store) (M : Places) (b : Nat) : Prop := ∃ i o l, σ.get i = some o ∧ o.own = true ∧ M i = some l ∧ l.block = b

structure Step (σ : Store) (M : Places) (w : World) (σ' : Store) (M' : Places) (w' : World) : Prop where
  next : σ.next ≤ σ'.next
  le : M.le M'
  size : w.heap.size ≤ w'.heap.size
  frame : ∀ b, b < w.heap.size → ¬ Owned σ M b → w'.heap[b]? = w.heap[b]?
  owned : ∀ b, b < w.heap.size → Owned σ' M' b → Owned σ M b
  lent : ∀ i c, σ'.get i = some (.lent c) → σ.get i = some (.lent c)
  os : w'.os = w.os
  tape : w'.tape = w.tape
  output : w'.output = w.output

theorem Step.refl (σ : Store) (M : Places) (w : World) : Step σ M w σ M w := ⟨Nat.le_refl _, M.le_refl, Nat.le_refl _, fun _ _ _ => rfl, fun _ _ h => h, fun _ _ h => h, rfl, rfl, rfl⟩
theorem Step.trans {σ σ1 σ2 : Store} {M M1 M2 : Places} {w w1 w2 : World} (h : Step σ M w σ1 M1 w1) (k : Step σ1 M1 w1 σ2 M2 w2) : Step σ M w σ2 M2 w2 where
  next := Nat.le_trans h.next k.next
  le := Places.le_trans h.le k.le
  size := Nat.le_trans h.size k.size
  frame b hb hn := (k.frame b (Nat.lt_of_lt_of_le hb h.size) (fun ho => hn (h.owned b hb ho))).trans (h.frame b hb hn)
  owned b hb ho := h.owned b hb (k.owned b (Nat.lt_of_lt_of_le hb h.size) ho)
  lent i c hi := h.lent i c (k.lent i c hi)
  os := k.os.trans h.os
  tape := k.tape.trans h.tape
  output := k.output.trans h.output

theorem Step.of_heap {σ : Store} {M : Places} {w w' : World} (hb : w'.heap = w.heap) (h1 : w'.os = w.os) (h2 : w'.tape = w.tape) (h3 : w'.output = w.output) : Step σ M w σ M w' :=
  ⟨Nat.le_refl _, M.le_refl, by rw [hb]; exact Nat.le_refl _, fun _ _ _ => by rw [hb], fun _ _ h => h, fun _ _ h => h, h1, h2, h3⟩
theorem Rel.of_heap {σ : Store} {M : Places} {w w' : World} (h : Rel M σ w) (hb : w'.heap = w.heap) : Rel M σ w' :=
  ⟨fun i o hi => by
    obtain ⟨l, hl, hs⟩ := h.shows i o hi
    exact ⟨l, hl, hs.same (by rw [hb])⟩, h.apart, h.dom⟩

def Places.upd (M : Places) (i : Nat) (l : Loc) : Places := fun j => if j = i then some l else M j
theorem Places.upd_same (M : Places) (i : Nat) (l : Loc) : M.upd i l i = some l := if_pos rfl
theorem Places.upd_ne {M : Places} {i j : Nat} (l : Loc) (h : j ≠ i) : M.upd i l j = M j := if_neg h
theorem Places.le_upd {M : Places} {i : Nat} (l : Loc) (h : M i = none) : M.le (M.upd i l) := fun j k hj => by
  by_cases e : j = i
  · subst e; rw [h] at hj; cases hj
  · rw [upd_ne l e]; exact hj

theorem Rel.owned_lt {σ : Store} {M : Places} {w : World} (h : Rel M σ w) {b : Nat} (ho : Owned σ M b) : b < w.heap.size := by
  obtain ⟨i, o, l, h1, h2, h3, rfl⟩ := ho
  obtain ⟨l', h4, h5⟩ := h.shows i o h1
  rw [h3] at h4; cases h4
  exact h5.lt

/-- Something new, in a new block. -/
theorem Rel.push {σ : Store} {M : Places} {w w' : World} (h : Rel M σ w) {o : SObj} {l : Loc} {x : Obj} (ho : o.own = true) (hw : w'.heap = w.heap.push x) (hl : l.block = w.heap.size)
    (hs : Shows M w' l o) (h1 : w'.os = w.os) (h2 : w'.tape = w.tape) (h3 : w'.output = w.output) :
    Rel (M.upd σ.next l) (σ.push o) w' ∧ Step σ M w (σ.push o) (M.upd σ.next l) w' := by
  have hle : M.le (M.upd σ.next l) := Places.le_upd l (h.dom _ (Nat.le_refl _))
  have hblk : ∀ b, b < w.heap.size → w'.heap[b]? = w.heap[b]? := fun b hb => by
    rw [hw, Array.getElem?_push, if_neg (by omega)]
  refine ⟨⟨fun i o' hi => ?_, fun i j a b li lj hi hj ha hne hli hlj => ?_, fun i hi => ?_⟩, ⟨by simp, hle, by rw [hw]; simp, fun b hb _ => hblk b hb, fun b hb hb' => ?_, fun i c hi => ?_, h1, h2, h3⟩⟩
  · by_cases e : i = σ.next
    · subst e
      rw [Store.get_push_same] at hi; cases hi
      exact ⟨l, Places.upd_same _ _ _, hs.mono hle⟩
    · rw [Store.get_push, if_neg e] at hi
      obtain ⟨l', hl', hs'⟩ := h.shows i o' hi
      exact ⟨l', by rw [Places.upd_ne l e]; exact hl', (hs'.same (hblk _ hs'.lt)).mono hle⟩
  · have hlt : ∀ i a li, i ≠ σ.next → (σ.push o).get i = some a → M.upd σ.next l i = some li → li.block < w.heap.size := fun i a li hne hi hli => by
      rw [Store.get_push, if_neg hne] at hi
      rw [Places.upd_ne l hne] at hli
      obtain ⟨l', hl', hs'⟩ := h.shows i a hi
      rw [hli] at hl'; cases hl'
      exact hs'.lt
    by_cases ei : i = σ.next
    · subst ei
      rw [Places.upd_same] at hli; cases hli
      have := hlt j b lj (fun e => hne e.symm) hj hlj
      omega
    · by_cases ej : j = σ.next
      · subst ej
        rw [Places.upd_same] at hlj; cases hlj
        have := hlt i a li ei hi hli
        omega
      · rw [Store.get_push, if_neg ei] at hi
        rw [Store.get_push, if_neg ej] at hj
        rw [Places.upd_ne l ei] at hli
        rw [Places.upd_ne l ej] at hlj
        exact h.apart i j a b li lj hi hj ha hne hli hlj
  · rw [Store.next_push] at hi
    rw [Places.upd_ne l (by omega)]
    exact h.dom i (by omega)
  · obtain ⟨i, a, li, hi, ha, hli, rfl⟩ := hb'
    by_cases e : i = σ.next
    · subst e
      rw [Places.upd_same] at hli; cases hli
      omega
    · rw [Store.get_push, if_neg e] at hi
      rw [Places.upd_ne l e] at hli
      exact ⟨i, a, li, hi, ha, hli, rfl⟩
  · by_cases e : i = σ.next
    · subst e
      rw [Store.get_push_same] at hi; cases hi
      cases ho
    · rwa [Store.get_push, if_neg e] at hi

/-- What is there is written. -/
theorem Rel.write {σ : Store} {M : Places} {w w' : World} (h : Rel M σ w) {i : Nat} {o o' : SObj} {l : Loc} (hi : σ.get i = some o) (hl : M i = some l) (ho : o.own = true) (ho' : o'.own = true)
    (hsz : w'.heap.size = w.heap.size) (hw : ∀ b, b ≠ l.block → w'.heap[b]? = w.heap[b]?) (hs : Shows M w' l o') (h1 : w'.os = w.os) (h2 : w'.tape = w.tape) (h3 : w'.output = w.output) :
    Rel M (σ.put i (some o')) w' ∧ Step σ M w (σ.put i (some o')) M w' := by
  have hlt := Store.lt_of_get hi
  refine ⟨⟨fun j x hj => ?_, fun j k a b lj lk hj hk ha hne hlj hlk => ?_, fun j hj => h.dom j (by rwa [Store.next_put_lt _ _ hlt] at hj)⟩, ⟨by rw [Store.next_put_lt _ _ hlt]; exact Nat.le_refl _, M.le_refl, by omega, fun b _ hn => hw b fun e => hn ⟨i, o, l, hi, ho, hl, e.symm⟩, fun b _ hb => ?_, fun j c hj => ?_, h1, h2, h3⟩⟩
  · by_cases e : j = i
    · subst e
      rw [Store.get_put_same] at hj; cases hj
      exact ⟨l, hl, hs⟩
    · rw [Store.get_put_ne _ _ e] at hj
      obtain ⟨lj, hlj, hs'⟩ := h.shows j x hj
      exact ⟨lj, hlj, hs'.same (hw _ (h.apart i j o x l lj hi hj ho (Ne.symm e) hl hlj).symm)⟩
  · have key : ∀ j a, (σ.put i (some o')).get j = some a → ∃ a', σ.get j = some a' ∧ (a.own = true → a'.own = true) := fun j a hj => by
      by_cases e : j = i
      · subst e
        exact ⟨o, hi, fun _ => ho⟩
      · rw [Store.get_put_ne _ _ e] at hj
        exact ⟨a, hj, id⟩
    obtain ⟨a', hj', ha'⟩ := key j a hj
    obtain ⟨b', hk', _⟩ := key k b hk
    exact h.apart j k a' b' lj lk hj' hk' (ha' ha) hne hlj hlk
  · obtain ⟨j, a, lj, hj, ha, hlj, rfl⟩ := hb
    by_cases e : j = i
    · subst e
      exact ⟨j, o, lj, hi, ho, hlj, rfl⟩
    · rw [Store.get_put_ne _ _ e] at hj
      exact ⟨j, a, lj, hj, ha, hlj, rfl⟩
  · by_cases e : j = i
    · subst e
      rw [Store.get_put_same] at hj; cases hj
      cases ho'
    · rwa [Store.get_put_ne _ _ e] at hj

/-- Something that may be written is forgotten. -/
theorem Rel.forget {σ : Store} {M : Places} {w : World} (h : Rel M σ w) {i : Nat} (hi : i < σ.next) : Rel M (σ.put i none) w ∧ Step σ M w (σ.put i none) M w := by
  have key : ∀ j a, (σ.put i none).get j = some a → σ.get j = some a := fun j a hj => by
    by_cases e : j = i
    · subst e; rw [Store.get_put_same] at hj; cases hj
    · rwa [Store.get_put_ne _ _ e] at hj
  exact ⟨⟨fun j x hj => h.shows j x (key j x hj), fun j k a b lj lk hj hk => h.apart j k a b lj lk (key j a hj) (key k b hk), fun j hj => h.dom j (by rwa [Store.next_put_lt _ _ hi] at hj)⟩,
    ⟨by rw [Store.next_put_lt _ _ hi]; exact Nat.le_refl _, M.le_refl, Nat.le_refl _, fun _ _ _ => rfl, fun b _ hb => by
      obtain ⟨j, a, lj, hj, ha, hlj, rfl⟩ := hb
      exact ⟨j, a, lj, key j a hj, ha, hlj, rfl⟩, fun j c hj => key j _ hj, rfl, rfl, rfl⟩⟩

/-- An id gives its block to a new one, and it is written. -/
theorem Rel.hand {σ : Store} {M : Places} {w w' : World} (h : Rel M σ w) {i : Nat} {o o' : SObj} {l l' : Loc} (hi : σ.get i = some o) (hl : M i = some l) (ho : o.own = true) (ho' : o'.own = true) (hll : l'.block = l.block)
    (hsz : w'.heap.size = w.heap.size) (hw : ∀ b, b ≠ l.block → w'.heap[b]? = w.heap[b]?) (hs : Shows M w' l' o') (h1 : w'.os = w.os) (h2 : w'.tape = w.tape) (h3 : w'.output = w.output) :
    Rel (M.upd σ.next l') ((σ.put i none).push o') w' ∧ Step σ M w ((σ.put i none).push o') (M.upd σ.next l') w' := by
  have hlt := Store.lt_of_get hi
  have hnx : (σ.put i none).next = σ.next := Store.next_put_lt _ _ hlt
  have hle : M.le (M.upd σ.next l') := Places.le_upd l' (h.dom _ (Nat.le_refl _))
  have key : ∀ j a, ((σ.put i none).push o').get j = some a → (j = σ.next ∧ a = o') ∨ (j ≠ σ.next ∧ j ≠ i ∧ σ.get j = some a) := fun j a hj => by
    rw [Store.get_push, hnx] at hj
    by_cases e : j = σ.next
    · rw [if_pos e] at hj; cases hj; exact .inl ⟨e, rfl⟩
    · rw [if_neg e] at hj
      by_cases e2 : j = i
      · subst e2; rw [Store.get_put_same] at hj; cases hj
      · exact .inr ⟨e, e2, by rwa [Store.get_put_ne _ _ e2] at hj⟩
  refine ⟨⟨fun j x hj => ?_, fun j k a b lj lk hj hk ha hne hlj hlk => ?_, fun j hj => ?_⟩, ⟨by simp [hnx], hle, by omega, fun b _ hn => hw b fun e => hn ⟨i, o, l, hi, ho, hl, e.symm⟩, fun b _ hb => ?_, fun j c hj => ?_, h1, h2, h3⟩⟩
  · rcases key j x hj with ⟨rfl, rfl⟩ | ⟨e1, e2, hj⟩
    · exact ⟨l', Places.upd_same _ _ _, hs.mono hle⟩
    · obtain ⟨lj, hlj, hs'⟩ := h.shows j x hj
      exact ⟨lj, by rw [Places.upd_ne _ e1]; exact hlj, (hs'.same (hw _ (h.apart i j o x l lj hi hj ho (Ne.symm e2) hl hlj).symm)).mono hle⟩
  · have hj0 := key j a hj
    have hk0 := key k b hk
    clear hj hk
    rcases hj0 with ⟨rfl, rfl⟩ | ⟨e1, e2, hj⟩
    · rcases hk0 with ⟨rfl, rfl⟩ | ⟨e3, e4, hk⟩
      · exact absurd rfl hne
      · rw [Places.upd_same] at hlj; cases hlj
        rw [Places.upd_ne _ e3] at hlk
        rw [hll]
        exact h.apart i k o b l lk hi hk ho (Ne.symm e4) hl hlk
    · rw [Places.upd_ne _ e1] at hlj
      rcases hk0 with ⟨rfl, rfl⟩ | ⟨e3, e4, hk⟩
      · rw [Places.upd_same] at hlk; cases hlk
        rw [hll]
        exact h.apart j i a o lj l hj hi ha e2 hlj hl
      · rw [Places.upd_ne _ e3] at hlk
        exact h.apart j k a b lj lk hj hk ha hne hlj hlk
  · rw [Store.next_push, hnx] at hj
    rw [Places.upd_ne _ (by omega)]
    exact h.dom j (by omega)
  · obtain ⟨j, a, lj, hj, ha, hlj, rfl⟩ := hb
    rcases key j a hj with ⟨rfl, rfl⟩ | ⟨e1, e2, hj⟩
    · rw [Places.upd_same] at hlj; cases hlj
      exact ⟨i, o, l, hi, ho, hl, hll.symm⟩
    · rw [Places.upd_ne _ e1] at hlj
      exact ⟨j, a, lj, hj, ha, hlj, rfl⟩
  · rcases key j _ hj with ⟨rfl, e⟩ | ⟨_, _, hj⟩
    · subst e; cases ho'
    · exact hj

/-- A store that holds less. -/
theorem Rel.less {σ σ2 : Store} {M : Places} {w : World} (h : Rel M σ w) (hn : σ2.next = σ.next) (hg : ∀ i o, σ2.get i = some o → σ.get i = some o) : Rel M σ2 w :=
  ⟨fun i o hi => h.shows i o (hg i o hi), fun i j a b li lj hi hj => h.apart i j a b li lj (hg i a hi) (hg j b hj), fun i hi => h.dom i (by omega)⟩
theorem Step.less {σ σ1 σ2 : Store} {M M1 : Places} {w w1 : World} (h : Step σ M w σ1 M1 w1) (hn : σ2.next = σ1.next) (hg : ∀ i o, σ2.get i = some o → σ1.get i = some o) : Step σ M w σ2 M1 w1 :=
  ⟨by rw [hn]; exact h.next, h.le, h.size, h.frame, fun b hb ho => h.owned b hb (by
    obtain ⟨i, o, l, h1, h2, h3, h4⟩ := ho
    exact ⟨i, o, l, hg i o h1, h2, h3, h4⟩), fun i c hi => h.lent i c (hg i _ hi), h.os, h.tape, h.output⟩

/-- What a value needs of places. -/
theorem VR.back {M N : Places} (hm : M.le N) {b : Bool} {v x : Value} (h : VR M b v x) : ∀ {v' : Value}, VR N b v v' → VR M b v v' := by
  induction h with
  | scalar v h => intro v' h'; rw [VR.scalar_eq h h']; exact .scalar v h
  | ptr i o l h =>
    intro v' h'
    obtain ⟨_, l', hl', rfl⟩ := VR.ptr_ h'
    rw [hm _ _ h] at hl'; cases hl'
    exact .ptr i o l h
  | slice i o n c l h =>
    intro v' h'
    obtain ⟨l', c', hl', rfl, hc, hh⟩ := VR.slice_ h'
    rw [hm _ _ h] at hl'; cases hl'
    rcases hh with ⟨_, rfl⟩ | ⟨sz, room, e, _⟩
    · exact .slice i o n _ l h
    · cases e
  | grown i o n c c0 sz room b base h hc hr =>
    intro v' h'
    obtain ⟨l', c', hl', rfl, hc', hh⟩ := VR.slice_ h'
    rw [hm _ _ h] at hl'; cases hl'
    rcases hh with ⟨e, _⟩ | ⟨sz', room', e, e', hr'⟩
    · cases e
    · cases e
      cases e'
      exact .grown i o n c c' sz room b base h hc' hr'
  | map i l h =>
    intro v' h'
    obtain ⟨l', hl', rfl⟩ := VR.map_ h'
    rw [hm _ _ h] at hl'; cases hl'
    exact .map i l h
  | func f xs ys xs' ys' hx hy h k ih ik =>
    intro v' h'
    obtain ⟨f', xs2, ys2, e, rfl, h1, h2, h3, h4⟩ := VR.func_ h'
    cases e
    refine .func f xs ys xs2 ys2 h1 h2 (fun i v v' hv hv' => ?_) (fun i v v' hv hv' => ?_)
    · have hi : i < xs.size := (Array.getElem?_eq_some_iff.1 hv).1
      exact ih i v _ hv (Array.getElem?_eq_getElem (by omega)) (h3 i v v' hv hv')
    · have hi : i < ys.size := (Array.getElem?_eq_some_iff.1 hv).1
      exact ik i v _ hv (Array.getElem?_eq_getElem (by omega)) (h4 i v v' hv hv')
  | iface t v v0 h ih =>
    intro v' h'
    cases h' with
    | scalar _ h => simp [Am.scalar] at h
    | iface _ _ v1 h1 => exact .iface t v v1 (ih h1)
  | cell v v0 h ih =>
    intro v' h'
    exact .cell _ _ (ih (h'.true_of h.one'))
  | agg xs ys hs h ih =>
    intro v' h'
    obtain ⟨zs, rfl, h1, h2⟩ := VR.agg_ h'
    refine .agg xs zs h1 fun i v v' hv hv' => ?_
    have hi : i < xs.size := (Array.getElem?_eq_some_iff.1 hv).1
    exact ih i v _ hv (Array.getElem?_eq_getElem (by omega)) (h2 i v v' hv hv')
  | tuple xs ys hs h ih =>
    intro v' h'
    by_cases h0 : 0 < xs.size
    · obtain ⟨zs, rfl, h1, h2⟩ := VR.tuple_ h' h0
      refine .tuple xs zs h1 fun i v v' hv hv' => ?_
      have hi : i < xs.size := (Array.getElem?_eq_some_iff.1 hv).1
      exact ih i v _ hv (Array.getElem?_eq_getElem (by omega)) (h2 i v v' hv hv')
    · have : xs = #[] := Array.eq_empty_of_size_eq_zero (by omega)
      subst this
      exact .junk v'
  | junk v => intro v' _; exact .junk v'
  | gone =>
    intro v' h'
    cases h' with
    | gone => exact .gone
    | cell _ _ h => cases h with | scalar _ h => simp [Am.scalar] at h

end Go.Am
