import Derived.WalkKit
import Derived.Orders
import Derived.CheckFast
import Derived.ChangeKeysEq
import Derived.Laws.StructEq
section
/- The abstract machine, part 1: its store, and when a world of the model shows a store. No program in sight. -/
set_option linter.all false
namespace Go.Am

/-! ## stores -/
/-- What an id stands for: cells that may be written (grow: the size of an element, where the cells were made by an append), the entries of a map, cells that are only read. -/
inductive SObj where
  | cells (c : List Value) (grow : Option Nat)
  | map (es : List MapEntry) (clock : Nat)
  | lent (c : List Value)
  | iter (m : Option Nat) (since : Nat) (seen : List Nat) (clock : Nat)

def SObj.own : SObj → Bool
  | .lent _ => false
  | _ => true

structure Store where
  get : Nat → Option SObj
  next : Nat
  fresh : ∀ i, next ≤ i → get i = none

def Store.put (σ : Store) (i : Nat) (o : Option SObj) : Store where
  get j := if j = i then o else σ.get j
  next := bif Nat.ble σ.next i then i + 1 else σ.next
  fresh j hj := by
    cases hb : Nat.ble σ.next i <;> rw [hb] at hj <;> simp only [cond_true, cond_false] at hj
    · have h0 : ¬ σ.next ≤ i := fun h => by rw [Nat.ble_eq_true_of_le h] at hb; cases hb
      rw [if_neg (by omega)]
      exact σ.fresh j hj
    · have h0 := Nat.le_of_ble_eq_true hb
      rw [if_neg (by omega)]
      exact σ.fresh j (by omega)
def Store.push (σ : Store) (o : SObj) : Store := σ.put σ.next (some o)
def Store.empty : Store := ⟨fun _ => none, 0, fun _ _ => rfl⟩
theorem Store.ext_ {σ τ : Store} (h1 : σ.next = τ.next) (h2 : ∀ i, σ.get i = τ.get i) : σ = τ := by
  cases σ with | mk g n f =>
  cases τ with | mk g' n' f' =>
  have h3 : g = g' := funext h2
  have h1 : n = n' := h1
  subst h1 h3
  rfl

namespace Store
variable (σ : Store) (i j : Nat) (o : Option SObj)
theorem get_put : (σ.put i o).get j = if j = i then o else σ.get j := rfl
@[simp] theorem get_put_same : (σ.put i o).get i = o := by rw [get_put, if_pos rfl]
theorem get_put_ne {i j : Nat} (h : j ≠ i) : (σ.put i o).get j = σ.get j := by rw [get_put, if_neg h]
theorem next_put : (σ.put i o).next = if σ.next ≤ i then i + 1 else σ.next := by
  show (bif Nat.ble σ.next i then i + 1 else σ.next) = _
  cases hb : Nat.ble σ.next i
  · rw [if_neg (fun h => by rw [Nat.ble_eq_true_of_le h] at hb; cases hb)]; rfl
  · rw [if_pos (Nat.le_of_ble_eq_true hb)]; rfl
theorem next_put_lt {i : Nat} (h : i < σ.next) : (σ.put i o).next = σ.next := by rw [next_put, if_neg (by omega)]
@[simp] theorem next_push (o : SObj) : (σ.push o).next = σ.next + 1 := by unfold push; rw [next_put, if_pos (Nat.le_refl _)]
theorem get_push (o : SObj) : (σ.push o).get j = if j = σ.next then some o else σ.get j := get_put _ _ _ _
@[simp] theorem get_push_same (o : SObj) : (σ.push o).get σ.next = some o := by rw [get_push, if_pos rfl]
theorem get_none {σ : Store} {i : Nat} (h : σ.next ≤ i) : σ.get i = none := σ.fresh i h
@[simp] theorem get_next : σ.get σ.next = none := σ.fresh _ (Nat.le_refl _)
theorem lt_of_get {σ : Store} {i : Nat} {o : SObj} (h : σ.get i = some o) : i < σ.next := by
  rcases Nat.lt_or_ge i σ.next with h0 | h0
  · exact h0
  · rw [get_none h0] at h; cases h
theorem get_push_lt {σ : Store} {i : Nat} {o : SObj} (h : i < σ.next) : (σ.push o).get i = σ.get i := by rw [get_push, if_neg (by omega)]
end Store

/-! ## values -/
/-- Where an id lies: the block, the first cell, and, of cells that an append made, the size of an element and how many cells are there. -/
structure Loc where
  block : Nat
  base : Nat
  grow : Option (Nat × Nat)

abbrev Places := Nat → Option Loc

def scalar : Value → Bool
  | .bool _ | .int .. | .float .. | .complex .. | .string _ | .pointer none | .slice none _ _ | .map none | .chan none | .nilFunc | .nilIface => true
  | _ => false

abbrev junk : Value := .tuple #[]
/-- What an operation leaves that is not carried out. -/
abbrev gone : Value := .chan (some 0)
/-- A slice of no length and no room that has an address: only its length may be asked. -/
abbrev hollow : Value := .func (.method "") #[] #[]

/-- VR M true: of one cell; VR M false: any. The left one is the machine's. -/
inductive VR (M : Places) : Bool → Value → Value → Prop
  | scalar (v : Value) (h : scalar v = true) : VR M true v v
  | ptr (i o : Nat) (l : Loc) (h : M i = some l) : VR M true (.pointer (some ⟨i, o, none⟩)) (.pointer (some ⟨l.block, l.base + o, none⟩))
  | slice (i o n c : Nat) (l : Loc) (h : M i = some l) : VR M true (.slice (some ⟨i, o, none⟩) n c) (.slice (some ⟨l.block, l.base + o, none⟩) n c)
  | grown (i o n c c' sz room b base : Nat) (h : M i = some ⟨b, base, some (sz, room)⟩) (hc : c ≤ c') (hr : o + c' * sz ≤ room) : VR M true (.slice (some ⟨i, o, some sz⟩) n c) (.slice (some ⟨b, base + o, none⟩) n c')
  | map (i : Nat) (l : Loc) (h : M i = some l) : VR M true (.map (some i)) (.map (some l.block))
  | hollow (a : Addr) : VR M true hollow (.slice (some a) 0 0)
  | func (f : FuncId) (xs ys xs' ys' : Array Value) (hx : xs.size = xs'.size) (hy : ys.size = ys'.size) (h : ∀ (i : Nat) (v v' : Value), xs[i]? = some v → xs'[i]? = some v' → VR M false v v')
      (k : ∀ (i : Nat) (v v' : Value), ys[i]? = some v → ys'[i]? = some v' → VR M false v v') : VR M true (.func (.func f) xs ys) (.func (.func f) xs' ys')
  | iface (t : TypeId) (v v' : Value) (h : VR M false v v') : VR M true (.iface t v) (.iface t v')
  | cell (v v' : Value) (h : VR M true v v') : VR M false v v'
  | agg (xs ys : Array Value) (hs : xs.size = ys.size) (h : ∀ (i : Nat) (v v' : Value), xs[i]? = some v → ys[i]? = some v' → VR M true v v') : VR M false (.agg xs) (.agg ys)
  | tuple (xs ys : Array Value) (hs : xs.size = ys.size) (h : ∀ (i : Nat) (v v' : Value), xs[i]? = some v → ys[i]? = some v' → VR M false v v') : VR M false (.tuple xs) (.tuple ys)
  | junk (v : Value) : VR M false junk v
  | gone : VR M false gone undef

/-- Places that hold what others hold. -/
def Places.le (M N : Places) : Prop := ∀ i l, M i = some l → N i = some l
theorem Places.le_refl (M : Places) : M.le M := fun _ _ h => h
theorem Places.le_trans {M N K : Places} (h : M.le N) (k : N.le K) : M.le K := fun i l e => k i l (h i l e)

theorem VR.mono {M N : Places} (hm : M.le N) {b : Bool} {v v' : Value} (h : VR M b v v') : VR N b v v' := by
  induction h with
  | scalar v h => exact .scalar v h
  | ptr i o l h => exact .ptr i o l (hm _ _ h)
  | slice i o n c l h => exact .slice i o n c l (hm _ _ h)
  | grown i o n c c' sz room b base h hc hr => exact .grown i o n c c' sz room b base (hm _ _ h) hc hr
  | hollow a => exact .hollow a
  | map i l h => exact .map i l (hm _ _ h)
  | func f xs ys xs' ys' hx hy h k ih ik => exact .func f xs ys xs' ys' hx hy ih ik
  | iface t v v' h ih => exact .iface t v v' ih
  | cell v v' h ih => exact .cell v v' ih
  | agg xs ys hs h ih => exact .agg xs ys hs ih
  | tuple xs ys hs h ih => exact .tuple xs ys hs ih
  | junk v => exact .junk v
  | gone => exact .gone

/-- No ids. -/
def closed : Value → Bool
  | .agg xs => xs.toList.all scalar
  | v => scalar v
theorem VR.of_closed {M : Places} {v : Value} (h : closed v = true) : VR M false v v := by
  have key : ∀ v : Value, Am.scalar v = true → VR M false v v := fun v h => .cell _ _ (.scalar v h)
  cases v with
  | agg xs =>
    refine .agg xs xs rfl fun i a b ha hb => ?_
    rw [ha] at hb; cases hb
    simp only [closed, List.all_eq_true] at h
    have hm : a ∈ xs.toList := by
      have := Array.getElem?_eq_some_iff.1 ha
      obtain ⟨hi, e⟩ := this
      rw [← e]; exact Array.getElem_mem_toList hi
    exact .scalar a (h a hm)
  | _ => exact key _ (by simpa only [closed] using h)

theorem VR.scalar_eq {M : Places} {v v' : Value} (hs : Am.scalar v = true) {b : Bool} (h : VR M b v v') : v' = v := by
  cases h with
  | scalar v h => rfl
  | cell v v' h => cases h <;> first | rfl | (simp [Am.scalar] at hs)
  | _ => simp [Am.scalar] at hs
theorem VR.bool_ {M : Places} {b : Bool} {x : Bool} {v' : Value} (h : VR M b (.bool x) v') : v' = .bool x := VR.scalar_eq rfl h
theorem VR.int_ {M : Places} {b : Bool} {k : IntKind} {x : Int} {v' : Value} (h : VR M b (.int k x) v') : v' = .int k x := VR.scalar_eq rfl h
theorem VR.string_ {M : Places} {b : Bool} {x : ByteArray} {v' : Value} (h : VR M b (.string x) v') : v' = .string x := VR.scalar_eq rfl h
theorem VR.agg_ {M : Places} {xs : Array Value} {v' : Value} (h : VR M false (.agg xs) v') : ∃ ys, v' = .agg ys ∧ xs.size = ys.size ∧ ∀ (i : Nat) (v v' : Value), xs[i]? = some v → ys[i]? = some v' → VR M true v v' := by
  cases h with
  | agg xs ys hs h => exact ⟨ys, rfl, hs, h⟩
  | cell v v' h => cases h with | scalar _ h => simp [Am.scalar] at h
theorem VR.ptr_ {M : Places} {b : Bool} {i o : Nat} {s : Option Nat} {v' : Value} (h : VR M b (.pointer (some ⟨i, o, s⟩)) v') : s = none ∧ ∃ l, M i = some l ∧ v' = .pointer (some ⟨l.block, l.base + o, none⟩) := by
  have key : ∀ v', VR M true (.pointer (some ⟨i, o, s⟩)) v' → s = none ∧ ∃ l, M i = some l ∧ v' = .pointer (some ⟨l.block, l.base + o, none⟩) := fun v' h => by
    cases h with
    | scalar _ h => simp [Am.scalar] at h
    | ptr _ _ l hl => exact ⟨rfl, l, hl, rfl⟩
  cases b with
  | true => exact key v' h
  | false => cases h with | cell _ _ h => exact key v' h
theorem VR.map_ {M : Places} {b : Bool} {i : Nat} {v' : Value} (h : VR M b (.map (some i)) v') : ∃ l, M i = some l ∧ v' = .map (some l.block) := by
  have key : ∀ v', VR M true (.map (some i)) v' → ∃ l, M i = some l ∧ v' = .map (some l.block) := fun v' h => by
    cases h with
    | scalar _ h => simp [Am.scalar] at h
    | map _ l hl => exact ⟨l, hl, rfl⟩
  cases b with
  | true => exact key v' h
  | false => cases h with | cell _ _ h => exact key v' h
theorem VR.slice_ {M : Places} {b : Bool} {i o n c : Nat} {s : Option Nat} {v' : Value} (h : VR M b (.slice (some ⟨i, o, s⟩) n c) v') :
    ∃ l c', M i = some l ∧ v' = .slice (some ⟨l.block, l.base + o, none⟩) n c' ∧ c ≤ c' ∧ ((s = none ∧ c' = c) ∨ ∃ sz room, s = some sz ∧ l.grow = some (sz, room) ∧ o + c' * sz ≤ room) := by
  have key : ∀ v', VR M true (.slice (some ⟨i, o, s⟩) n c) v' → ∃ l c', M i = some l ∧ v' = .slice (some ⟨l.block, l.base + o, none⟩) n c' ∧ c ≤ c' ∧ ((s = none ∧ c' = c) ∨ ∃ sz room, s = some sz ∧ l.grow = some (sz, room) ∧ o + c' * sz ≤ room) := fun v' h => by
    cases h with
    | scalar _ h => simp [Am.scalar] at h
    | slice _ _ _ _ l hl => exact ⟨l, c, hl, rfl, Nat.le_refl _, .inl ⟨rfl, rfl⟩⟩
    | grown _ _ _ _ c' sz room b base hl hc hr => exact ⟨_, c', hl, rfl, hc, .inr ⟨sz, room, rfl, rfl, hr⟩⟩
  cases b with
  | true => exact key v' h
  | false => cases h with | cell _ _ h => exact key v' h
theorem VR.hollow_ {M : Places} {b : Bool} {t : String} {xs ys : Array Value} {v' : Value} (h : VR M b (.func (.method t) xs ys) v') : ∃ a, v' = .slice (some a) 0 0 := by
  have key : ∀ v', VR M true (.func (.method t) xs ys) v' → ∃ a, v' = .slice (some a) 0 0 := fun v' h => by
    cases h with
    | scalar _ h => simp [Am.scalar] at h
    | hollow a => exact ⟨a, rfl⟩
  cases b with
  | true => exact key v' h
  | false => cases h with | cell _ _ h => exact key v' h
theorem VR.func_ {M : Places} {b : Bool} {f0 : FuncId} {xs ys : Array Value} {v' : Value} (h : VR M b (.func (.func f0) xs ys) v') : ∃ f xs' ys', Fn.func f0 = .func f ∧ v' = .func (.func f) xs' ys' ∧ xs.size = xs'.size ∧ ys.size = ys'.size ∧
    (∀ (i : Nat) (v v' : Value), xs[i]? = some v → xs'[i]? = some v' → VR M false v v') ∧ ∀ (i : Nat) (v v' : Value), ys[i]? = some v → ys'[i]? = some v' → VR M false v v' := by
  have key : ∀ v', VR M true (.func (.func f0) xs ys) v' → ∃ f xs' ys', Fn.func f0 = .func f ∧ v' = .func (.func f) xs' ys' ∧ xs.size = xs'.size ∧ ys.size = ys'.size ∧
    (∀ (i : Nat) (v v' : Value), xs[i]? = some v → xs'[i]? = some v' → VR M false v v') ∧ ∀ (i : Nat) (v v' : Value), ys[i]? = some v → ys'[i]? = some v' → VR M false v v' := fun v' h => by
    cases h with
    | scalar _ h => simp [Am.scalar] at h
    | func _ xs ys xs' ys' hx hy h k => exact ⟨f0, xs', ys', rfl, rfl, hx, hy, h, k⟩
  cases b with
  | true => exact key v' h
  | false => cases h with | cell _ _ h => exact key v' h
theorem VR.tuple_ {M : Places} {xs : Array Value} {v' : Value} (h : VR M false (.tuple xs) v') (h0 : 0 < xs.size) : ∃ ys, v' = .tuple ys ∧ xs.size = ys.size ∧ ∀ (i : Nat) (v v' : Value), xs[i]? = some v → ys[i]? = some v' → VR M false v v' := by
  cases h with
  | tuple xs ys hs h => exact ⟨ys, rfl, hs, h⟩
  | cell v v' h => cases h with | scalar _ h => simp [Am.scalar] at h
  | junk v => simp at h0
theorem VR.chan_ {M : Places} {n : Nat} {v' : Value} (h : VR M false (.chan (some n)) v') : v' = undef := by
  cases h with
  | gone => rfl
  | cell _ _ h => cases h with | scalar _ h => simp [Am.scalar] at h
/-- A value that one cell holds. -/
def cell1 : Value → Bool
  | .agg _ | .tuple _ | .chan (some _) => false
  | _ => true
theorem VR.one {M : Places} {v v' : Value} (h : VR M true v v') : cell1 v' = true := by
  cases h with
  | scalar v h => cases v <;> first | rfl | (simp [Am.scalar] at h; done) | (rename_i x; cases x <;> first | rfl | (simp [Am.scalar] at h; done))
  | _ => rfl
theorem VR.one' {M : Places} {v v' : Value} (h : VR M true v v') : cell1 v = true := by
  cases h with
  | scalar v h => cases v <;> first | rfl | (simp [Am.scalar] at h; done) | (rename_i x; cases x <;> first | rfl | (simp [Am.scalar] at h; done))
  | _ => rfl
theorem VR.true_of {M : Places} {v v' : Value} (h : VR M false v v') (h1 : cell1 v = true) : VR M true v v' := by
  cases h with
  | cell _ _ h => exact h
  | _ => cases h1

/-- The cells of a value. -/
def cellsL : Value → Option (List Value)
  | .agg xs => some xs.toList
  | .tuple _ => none
  | .chan (some _) => none
  | v => some [v]
def Cells (M : Places) (xs ys : List Value) : Prop := xs.length = ys.length ∧ ∀ (i : Nat) (v v' : Value), xs[i]? = some v → ys[i]? = some v' → VR M true v v'
theorem cells_scalar {v : Value} (h : scalar v = true) : cellsL v = some [v] ∧ v.cells = #[v] := by
  cases v <;> first | exact ⟨rfl, rfl⟩ | (simp [scalar] at h; done) | (rename_i x; cases x <;> first | exact ⟨rfl, rfl⟩ | (simp [scalar] at h; done))
theorem VR.cells_ {M : Places} {v v' : Value} {xs : List Value} (h : VR M false v v') (hx : cellsL v = some xs) : Cells M xs v'.cells.toList := by
  have key : VR M true v v' → cellsL v = some [v] → v'.cells = #[v'] → Cells M xs v'.cells.toList := fun h hx' hc => by
    rw [hx'] at hx; cases hx
    rw [hc]
    refine ⟨rfl, fun i a b ha hb => ?_⟩
    cases i with
    | zero => simp at ha hb; subst ha hb; exact h
    | succ i => simp at ha
  cases h with
  | cell _ _ h => cases h with
    | scalar v hs => exact key (.scalar _ hs) (cells_scalar hs).1 (cells_scalar hs).2
    | ptr i o l h => exact key (.ptr i o l h) rfl rfl
    | slice i o n c l h => exact key (.slice i o n c l h) rfl rfl
    | grown i o n c c' sz room b base h hc hr => exact key (.grown i o n c c' sz room b base h hc hr) rfl rfl
    | hollow a => exact key (.hollow a) rfl rfl
    | map i l h => exact key (.map i l h) rfl rfl
    | func f xs ys xs' ys' hx' hy h k => exact key (.func f xs ys xs' ys' hx' hy h k) rfl rfl
    | iface t v v' h => exact key (.iface t v v' h) rfl rfl
  | agg xs' ys hs h =>
    simp only [cellsL, Option.some.injEq] at hx
    subst hx
    exact ⟨by simpa [Value.cells] using hs, fun i a b ha hb => h i a b (by simpa using ha) (by simpa [Value.cells] using hb)⟩
  | tuple xs ys hs h => simp [cellsL] at hx
  | junk v => simp [cellsL] at hx
  | gone => simp [cellsL] at hx
theorem Cells.nil {M : Places} : Cells M [] [] := ⟨rfl, fun i v v' h => by simp at h⟩
theorem Cells.append {M : Places} {xs ys us vs : List Value} (h : Cells M xs ys) (k : Cells M us vs) : Cells M (xs ++ us) (ys ++ vs) := by
  obtain ⟨h1, h2⟩ := h
  obtain ⟨k1, k2⟩ := k
  refine ⟨by simp [h1, k1], fun i v v' hv hv' => ?_⟩
  rw [List.getElem?_append] at hv hv'
  by_cases hi : i < xs.length
  · rw [if_pos hi] at hv
    rw [if_pos (by omega)] at hv'
    exact h2 i v v' hv hv'
  · rw [if_neg hi] at hv
    rw [if_neg (by omega)] at hv'
    rw [← h1] at hv'
    exact k2 _ v v' hv hv'
theorem Cells.take {M : Places} {xs ys : List Value} (h : Cells M xs ys) (n : Nat) : Cells M (xs.take n) (ys.take n) := by
  refine ⟨by simp [h.1], fun i v v' hv hv' => ?_⟩
  rw [List.getElem?_take] at hv hv'
  split at hv
  · rename_i hi; rw [if_pos hi] at hv'; exact h.2 i v v' hv hv'
  · cases hv
theorem Cells.drop {M : Places} {xs ys : List Value} (h : Cells M xs ys) (n : Nat) : Cells M (xs.drop n) (ys.drop n) := by
  refine ⟨by simp [h.1], fun i v v' hv hv' => ?_⟩
  rw [List.getElem?_drop] at hv hv'
  exact h.2 _ v v' hv hv'
theorem Cells.mono {M N : Places} (hm : M.le N) {xs ys : List Value} (h : Cells M xs ys) : Cells N xs ys := ⟨h.1, fun i v v' hv hv' => (h.2 i v v' hv hv').mono hm⟩
theorem Cells.vagg {M : Places} {xs ys : List Value} (h : Cells M xs ys) : VR M false (.agg xs.toArray) (.agg ys.toArray) := .agg _ _ (by simpa using h.1) fun i v v' hv hv' => h.2 i v v' (by simpa using hv) (by simpa using hv')
theorem Cells.vagg' {M : Places} {xs : List Value} {ys : Array Value} (h : Cells M xs ys.toList) : VR M false (.agg xs.toArray) (.agg ys) := .agg _ _ (by simpa using h.1) fun i v v' hv hv' => h.2 i v v' (by simpa using hv) (by simpa using hv')
theorem Cells.of_closed {M : Places} {xs : List Value} (h : xs.all scalar = true) : Cells M xs xs := ⟨rfl, fun i v v' hv hv' => by
  rw [hv] at hv'; cases hv'
  exact .scalar v (List.all_eq_true.1 h v (List.mem_of_getElem? hv))⟩
theorem Cells.of_agg {M : Places} {xs ys : Array Value} (h : VR M false (.agg xs) (.agg ys)) : Cells M xs.toList ys.toList := VR.cells_ h rfl

/-! ## a world that shows a store -/
/-- From a place on a row of cells shows a list. -/
def Row (M : Places) (c : List Value) (arr : Array Value) (base : Nat) : Prop := ∀ j v, c[j]? = some v → ∃ v', arr[base + j]? = some v' ∧ VR M true v v'
theorem Row.mono {M N : Places} (hm : M.le N) {c : List Value} {arr : Array Value} {b : Nat} (h : Row M c arr b) : Row N c arr b := fun j v hv => by
  obtain ⟨v', h1, h2⟩ := h j v hv
  exact ⟨v', h1, h2.mono hm⟩
theorem Row.le {M : Places} {c : List Value} {arr : Array Value} {b : Nat} (h : Row M c arr b) (h0 : 0 < c.length) : b + c.length ≤ arr.size := by
  obtain ⟨v', h1, _⟩ := h (c.length - 1) _ (List.getElem?_eq_getElem (by omega))
  have := (Array.getElem?_eq_some_iff.1 h1).1
  omega

def EntryR (M : Places) (e e' : MapEntry) : Prop := e.born = e'.born ∧ VR M false e.key e'.key ∧ VR M false e.val e'.val
def Entries (M : Places) (es : List MapEntry) (es' : Array MapEntry) : Prop := es.length = es'.size ∧ ∀ (i : Nat) (e e' : MapEntry), es[i]? = some e → es'[i]? = some e' → EntryR M e e'
theorem EntryR.mono {M N : Places} (hm : M.le N) {e e' : MapEntry} (h : EntryR M e e') : EntryR N e e' := ⟨h.1, h.2.1.mono hm, h.2.2.mono hm⟩
theorem Entries.mono {M N : Places} (hm : M.le N) {es : List MapEntry} {es' : Array MapEntry} (h : Entries M es es') : Entries N es es' := ⟨h.1, fun i e e' he he' => (h.2 i e e' he he').mono hm⟩

/-- What an iterator goes through. -/
def IterM (M : Places) : Option Nat → Option Nat → Prop
  | none, none => True
  | some i, some b => ∃ l, M i = some l ∧ l.block = b
  | _, _ => False
theorem IterM.mono {M N : Places} (hm : M.le N) {x y : Option Nat} (h : IterM M x y) : IterM N x y := by
  cases x <;> cases y <;> first | exact h | (obtain ⟨l, h1, h2⟩ := h; exact ⟨l, hm _ _ h1, h2⟩)
theorem IterM.back {M N : Places} (hm : M.le N) {x y z : Option Nat} (h : IterM M x y) (k : IterM N x z) : IterM M x z := by
  cases x <;> cases y <;> cases z <;> first | exact h | exact k | (exact h.elim) | (exact k.elim) | skip
  obtain ⟨l, h1, h2⟩ := h
  obtain ⟨l', k1, k2⟩ := k
  have := hm _ _ h1
  rw [k1] at this; cases this
  exact ⟨_, h1, k2⟩

/-- What lies at a place. -/
def Shows (M : Places) (w : World) (l : Loc) : SObj → Prop
  | .cells c g => l.grow.map (·.1) = g ∧ ∃ arr e fz, w.heap[l.block]? = some (.cells arr e fz) ∧ Row M c arr l.base ∧ (fz = (0, 0) ∨ (g ≠ none ∧ arr.size ≤ fz.1)) ∧ ∀ sz room, l.grow = some (sz, room) → l.base + room ≤ arr.size
  | .map es ck => l.grow = none ∧ ∃ es', w.heap[l.block]? = some (.map es' ck) ∧ Entries M es es'
  | .lent c => l.grow = none ∧ l.block < w.heap.size ∧ ∀ j v, c[j]? = some v → ∃ v', w.cell? ⟨l.block, l.base + j, none⟩ = some v' ∧ VR M true v v'
  | .iter m since seen ck => l.grow = none ∧ l.base = 0 ∧ ∃ mb, w.heap[l.block]? = some (.mapIter mb since seen.toArray ck) ∧ IterM M m mb

theorem Shows.mono {M N : Places} (hm : M.le N) {w : World} {l : Loc} {o : SObj} (h : Shows M w l o) : Shows N w l o := by
  cases o with
  | cells c g =>
    obtain ⟨h1, arr, e, fz, h2, h3, h4, h5⟩ := h
    exact ⟨h1, arr, e, fz, h2, h3.mono hm, h4, h5⟩
  | map es ck =>
    obtain ⟨h1, es', h2, h3⟩ := h
    exact ⟨h1, es', h2, h3.mono hm⟩
  | lent c =>
    obtain ⟨h1, h0, h2⟩ := h
    refine ⟨h1, h0, fun j v hv => ?_⟩
    obtain ⟨v', a, b⟩ := h2 j v hv
    exact ⟨v', a, b.mono hm⟩
  | iter m since seen ck =>
    obtain ⟨h1, h0, mb, h2, h3⟩ := h
    exact ⟨h1, h0, mb, h2, h3.mono hm⟩
theorem Shows.same {M : Places} {w w' : World} {l : Loc} {o : SObj} (h : Shows M w l o) (hb : w'.heap[l.block]? = w.heap[l.block]?) : Shows M w' l o := by
  cases o with
  | cells c g =>
    obtain ⟨h1, arr, e, fz, h2, h3⟩ := h
    exact ⟨h1, arr, e, fz, by rw [hb]; exact h2, h3⟩
  | map es ck =>
    obtain ⟨h1, es', h2, h3⟩ := h
    exact ⟨h1, es', by rw [hb]; exact h2, h3⟩
  | lent c =>
    obtain ⟨h1, h0, h2⟩ := h
    refine ⟨h1, ?_, fun j v hv => ?_⟩
    · rw [Array.getElem?_eq_getElem h0] at hb
      exact (Array.getElem?_eq_some_iff.1 hb).1
    obtain ⟨v', a, b⟩ := h2 j v hv
    refine ⟨v', ?_, b⟩
    unfold World.cell? at a ⊢
    simp only [hb]
    exact a
  | iter m since seen ck =>
    obtain ⟨h1, h0, mb, h2, h3⟩ := h
    exact ⟨h1, h0, mb, by rw [hb]; exact h2, h3⟩
theorem Shows.lt {M : Places} {w : World} {l : Loc} {o : SObj} (h : Shows M w l o) : l.block < w.heap.size := by
  have key : ∀ x, w.heap[l.block]? = some x → l.block < w.heap.size := fun x hx => (Array.getElem?_eq_some_iff.1 hx).1
  cases o with
  | cells c g => obtain ⟨_, arr, e, fz, h2, _⟩ := h; exact key _ h2
  | map es ck => obtain ⟨_, es', h2, _⟩ := h; exact key _ h2
  | lent c => exact h.2.1
  | iter m since seen ck => obtain ⟨_, _, mb, h2, _⟩ := h; exact key _ h2

structure Rel (M : Places) (σ : Store) (w : World) : Prop where
  shows : ∀ i o, σ.get i = some o → ∃ l, M i = some l ∧ Shows M w l o
  apart : ∀ i j o o' l l', σ.get i = some o → σ.get j = some o' → o.own = true → i ≠ j → M i = some l → M j = some l' → l.block ≠ l'.block
  dom : ∀ i, σ.next ≤ i → M i = none

/-- A block that the store may write. -/
def Owned (σ : Store) (M : Places) (b : Nat) : Prop := ∃ i o l, σ.get i = some o ∧ o.own = true ∧ M i = some l ∧ l.block = b

structure Step (σ : Store) (M : Places) (w : World) (σ' : Store) (M' : Places) (w' : World) : Prop where
  next : σ.next ≤ σ'.next
  le : M.le M'
  size : w.heap.size ≤ w'.heap.size
  frame : ∀ b, b < w.heap.size → ¬ Owned σ M b → w'.heap[b]? = w.heap[b]?
  owned : ∀ b, b < w.heap.size → Owned σ' M' b → Owned σ M b
  lent : ∀ i c, σ'.get i = some (.lent c) → σ.get i = some (.lent c)
  os : w'.os = w.os
  tape : w'.tape = w.tape
  output : w'.output = w.output

theorem Step.refl (σ : Store) (M : Places) (w : World) : Step σ M w σ M w := ⟨Nat.le_refl _, M.le_refl, Nat.le_refl _, fun _ _ _ => rfl, fun _ _ h => h, fun _ _ h => h, rfl, rfl, rfl⟩
theorem Step.trans {σ σ1 σ2 : Store} {M M1 M2 : Places} {w w1 w2 : World} (h : Step σ M w σ1 M1 w1) (k : Step σ1 M1 w1 σ2 M2 w2) : Step σ M w σ2 M2 w2 where
  next := Nat.le_trans h.next k.next
  le := Places.le_trans h.le k.le
  size := Nat.le_trans h.size k.size
  frame b hb hn := (k.frame b (Nat.lt_of_lt_of_le hb h.size) (fun ho => hn (h.owned b hb ho))).trans (h.frame b hb hn)
  owned b hb ho := h.owned b hb (k.owned b (Nat.lt_of_lt_of_le hb h.size) ho)
  lent i c hi := h.lent i c (k.lent i c hi)
  os := k.os.trans h.os
  tape := k.tape.trans h.tape
  output := k.output.trans h.output

theorem Step.of_heap {σ : Store} {M : Places} {w w' : World} (hb : w'.heap = w.heap) (h1 : w'.os = w.os) (h2 : w'.tape = w.tape) (h3 : w'.output = w.output) : Step σ M w σ M w' :=
  ⟨Nat.le_refl _, M.le_refl, by rw [hb]; exact Nat.le_refl _, fun _ _ _ => by rw [hb], fun _ _ h => h, fun _ _ h => h, h1, h2, h3⟩
theorem Rel.of_heap {σ : Store} {M : Places} {w w' : World} (h : Rel M σ w) (hb : w'.heap = w.heap) : Rel M σ w' :=
  ⟨fun i o hi => by
    obtain ⟨l, hl, hs⟩ := h.shows i o hi
    exact ⟨l, hl, hs.same (by rw [hb])⟩, h.apart, h.dom⟩

def Places.upd (M : Places) (i : Nat) (l : Loc) : Places := fun j => if j = i then some l else M j
theorem Places.upd_same (M : Places) (i : Nat) (l : Loc) : M.upd i l i = some l := if_pos rfl
theorem Places.upd_ne {M : Places} {i j : Nat} (l : Loc) (h : j ≠ i) : M.upd i l j = M j := if_neg h
theorem Places.le_upd {M : Places} {i : Nat} (l : Loc) (h : M i = none) : M.le (M.upd i l) := fun j k hj => by
  by_cases e : j = i
  · subst e; rw [h] at hj; cases hj
  · rw [upd_ne l e]; exact hj

/-- Something new, in a new block. -/
theorem Rel.push {σ : Store} {M : Places} {w w' : World} (h : Rel M σ w) {o : SObj} {l : Loc} {x : Obj} (ho : o.own = true) (hw : w'.heap = w.heap.push x) (hl : l.block = w.heap.size)
    (hs : Shows M w' l o) (h1 : w'.os = w.os) (h2 : w'.tape = w.tape) (h3 : w'.output = w.output) :
    Rel (M.upd σ.next l) (σ.push o) w' ∧ Step σ M w (σ.push o) (M.upd σ.next l) w' := by
  have hle : M.le (M.upd σ.next l) := Places.le_upd l (h.dom _ (Nat.le_refl _))
  have hblk : ∀ b, b < w.heap.size → w'.heap[b]? = w.heap[b]? := fun b hb => by
    rw [hw, Array.getElem?_push, if_neg (by omega)]
  refine ⟨⟨fun i o' hi => ?_, fun i j a b li lj hi hj ha hne hli hlj => ?_, fun i hi => ?_⟩, ⟨by simp, hle, by rw [hw]; simp, fun b hb _ => hblk b hb, fun b hb hb' => ?_, fun i c hi => ?_, h1, h2, h3⟩⟩
  · by_cases e : i = σ.next
    · subst e
      rw [Store.get_push_same] at hi; cases hi
      exact ⟨l, Places.upd_same _ _ _, hs.mono hle⟩
    · rw [Store.get_push, if_neg e] at hi
      obtain ⟨l', hl', hs'⟩ := h.shows i o' hi
      exact ⟨l', by rw [Places.upd_ne l e]; exact hl', (hs'.same (hblk _ hs'.lt)).mono hle⟩
  · have hlt : ∀ i a li, i ≠ σ.next → (σ.push o).get i = some a → M.upd σ.next l i = some li → li.block < w.heap.size := fun i a li hne hi hli => by
      rw [Store.get_push, if_neg hne] at hi
      rw [Places.upd_ne l hne] at hli
      obtain ⟨l', hl', hs'⟩ := h.shows i a hi
      rw [hli] at hl'; cases hl'
      exact hs'.lt
    by_cases ei : i = σ.next
    · subst ei
      rw [Places.upd_same] at hli; cases hli
      have := hlt j b lj (fun e => hne e.symm) hj hlj
      omega
    · by_cases ej : j = σ.next
      · subst ej
        rw [Places.upd_same] at hlj; cases hlj
        have := hlt i a li ei hi hli
        omega
      · rw [Store.get_push, if_neg ei] at hi
        rw [Store.get_push, if_neg ej] at hj
        rw [Places.upd_ne l ei] at hli
        rw [Places.upd_ne l ej] at hlj
        exact h.apart i j a b li lj hi hj ha hne hli hlj
  · rw [Store.next_push] at hi
    rw [Places.upd_ne l (by omega)]
    exact h.dom i (by omega)
  · obtain ⟨i, a, li, hi, ha, hli, rfl⟩ := hb'
    by_cases e : i = σ.next
    · subst e
      rw [Places.upd_same] at hli; cases hli
      omega
    · rw [Store.get_push, if_neg e] at hi
      rw [Places.upd_ne l e] at hli
      exact ⟨i, a, li, hi, ha, hli, rfl⟩
  · by_cases e : i = σ.next
    · subst e
      rw [Store.get_push_same] at hi; cases hi
      cases ho
    · rwa [Store.get_push, if_neg e] at hi

/-- What is there is written. -/
theorem Rel.write {σ : Store} {M : Places} {w w' : World} (h : Rel M σ w) {i : Nat} {o o' : SObj} {l : Loc} (hi : σ.get i = some o) (hl : M i = some l) (ho : o.own = true) (ho' : o'.own = true)
    (hsz : w'.heap.size = w.heap.size) (hw : ∀ b, b ≠ l.block → w'.heap[b]? = w.heap[b]?) (hs : Shows M w' l o') (h1 : w'.os = w.os) (h2 : w'.tape = w.tape) (h3 : w'.output = w.output) :
    Rel M (σ.put i (some o')) w' ∧ Step σ M w (σ.put i (some o')) M w' := by
  have hlt := Store.lt_of_get hi
  refine ⟨⟨fun j x hj => ?_, fun j k a b lj lk hj hk ha hne hlj hlk => ?_, fun j hj => h.dom j (by rwa [Store.next_put_lt _ _ hlt] at hj)⟩, ⟨by rw [Store.next_put_lt _ _ hlt]; exact Nat.le_refl _, M.le_refl, by omega, fun b _ hn => hw b fun e => hn ⟨i, o, l, hi, ho, hl, e.symm⟩, fun b _ hb => ?_, fun j c hj => ?_, h1, h2, h3⟩⟩
  · by_cases e : j = i
    · subst e
      rw [Store.get_put_same] at hj; cases hj
      exact ⟨l, hl, hs⟩
    · rw [Store.get_put_ne _ _ e] at hj
      obtain ⟨lj, hlj, hs'⟩ := h.shows j x hj
      exact ⟨lj, hlj, hs'.same (hw _ (h.apart i j o x l lj hi hj ho (Ne.symm e) hl hlj).symm)⟩
  · have key : ∀ j a, (σ.put i (some o')).get j = some a → ∃ a', σ.get j = some a' ∧ (a.own = true → a'.own = true) := fun j a hj => by
      by_cases e : j = i
      · subst e
        exact ⟨o, hi, fun _ => ho⟩
      · rw [Store.get_put_ne _ _ e] at hj
        exact ⟨a, hj, id⟩
    obtain ⟨a', hj', ha'⟩ := key j a hj
    obtain ⟨b', hk', _⟩ := key k b hk
    exact h.apart j k a' b' lj lk hj' hk' (ha' ha) hne hlj hlk
  · obtain ⟨j, a, lj, hj, ha, hlj, rfl⟩ := hb
    by_cases e : j = i
    · subst e
      exact ⟨j, o, lj, hi, ho, hlj, rfl⟩
    · rw [Store.get_put_ne _ _ e] at hj
      exact ⟨j, a, lj, hj, ha, hlj, rfl⟩
  · by_cases e : j = i
    · subst e
      rw [Store.get_put_same] at hj; cases hj
      cases ho'
    · rwa [Store.get_put_ne _ _ e] at hj

/-- Something that may be written is forgotten. -/
theorem Rel.forget {σ : Store} {M : Places} {w : World} (h : Rel M σ w) {i : Nat} (hi : i < σ.next) : Rel M (σ.put i none) w ∧ Step σ M w (σ.put i none) M w := by
  have key : ∀ j a, (σ.put i none).get j = some a → σ.get j = some a := fun j a hj => by
    by_cases e : j = i
    · subst e; rw [Store.get_put_same] at hj; cases hj
    · rwa [Store.get_put_ne _ _ e] at hj
  exact ⟨⟨fun j x hj => h.shows j x (key j x hj), fun j k a b lj lk hj hk => h.apart j k a b lj lk (key j a hj) (key k b hk), fun j hj => h.dom j (by rwa [Store.next_put_lt _ _ hi] at hj)⟩,
    ⟨by rw [Store.next_put_lt _ _ hi]; exact Nat.le_refl _, M.le_refl, Nat.le_refl _, fun _ _ _ => rfl, fun b _ hb => by
      obtain ⟨j, a, lj, hj, ha, hlj, rfl⟩ := hb
      exact ⟨j, a, lj, key j a hj, ha, hlj, rfl⟩, fun j c hj => key j _ hj, rfl, rfl, rfl⟩⟩

/-- An id gives its block to a new one, and it is written. -/
theorem Rel.hand {σ : Store} {M : Places} {w w' : World} (h : Rel M σ w) {i : Nat} {o o' : SObj} {l l' : Loc} (hi : σ.get i = some o) (hl : M i = some l) (ho : o.own = true) (ho' : o'.own = true) (hll : l'.block = l.block)
    (hsz : w'.heap.size = w.heap.size) (hw : ∀ b, b ≠ l.block → w'.heap[b]? = w.heap[b]?) (hs : Shows M w' l' o') (h1 : w'.os = w.os) (h2 : w'.tape = w.tape) (h3 : w'.output = w.output) :
    Rel (M.upd σ.next l') ((σ.put i none).push o') w' ∧ Step σ M w ((σ.put i none).push o') (M.upd σ.next l') w' := by
  have hlt := Store.lt_of_get hi
  have hnx : (σ.put i none).next = σ.next := Store.next_put_lt _ _ hlt
  have hle : M.le (M.upd σ.next l') := Places.le_upd l' (h.dom _ (Nat.le_refl _))
  have key : ∀ j a, ((σ.put i none).push o').get j = some a → (j = σ.next ∧ a = o') ∨ (j ≠ σ.next ∧ j ≠ i ∧ σ.get j = some a) := fun j a hj => by
    rw [Store.get_push, hnx] at hj
    by_cases e : j = σ.next
    · rw [if_pos e] at hj; cases hj; exact .inl ⟨e, rfl⟩
    · rw [if_neg e] at hj
      by_cases e2 : j = i
      · subst e2; rw [Store.get_put_same] at hj; cases hj
      · exact .inr ⟨e, e2, by rwa [Store.get_put_ne _ _ e2] at hj⟩
  refine ⟨⟨fun j x hj => ?_, fun j k a b lj lk hj hk ha hne hlj hlk => ?_, fun j hj => ?_⟩, ⟨by simp [hnx], hle, by omega, fun b _ hn => hw b fun e => hn ⟨i, o, l, hi, ho, hl, e.symm⟩, fun b _ hb => ?_, fun j c hj => ?_, h1, h2, h3⟩⟩
  · rcases key j x hj with ⟨rfl, rfl⟩ | ⟨e1, e2, hj⟩
    · exact ⟨l', Places.upd_same _ _ _, hs.mono hle⟩
    · obtain ⟨lj, hlj, hs'⟩ := h.shows j x hj
      exact ⟨lj, by rw [Places.upd_ne _ e1]; exact hlj, (hs'.same (hw _ (h.apart i j o x l lj hi hj ho (Ne.symm e2) hl hlj).symm)).mono hle⟩
  · have hj0 := key j a hj
    have hk0 := key k b hk
    clear hj hk
    rcases hj0 with ⟨rfl, rfl⟩ | ⟨e1, e2, hj⟩
    · rcases hk0 with ⟨rfl, rfl⟩ | ⟨e3, e4, hk⟩
      · exact absurd rfl hne
      · rw [Places.upd_same] at hlj; cases hlj
        rw [Places.upd_ne _ e3] at hlk
        rw [hll]
        exact h.apart i k o b l lk hi hk ho (Ne.symm e4) hl hlk
    · rw [Places.upd_ne _ e1] at hlj
      rcases hk0 with ⟨rfl, rfl⟩ | ⟨e3, e4, hk⟩
      · rw [Places.upd_same] at hlk; cases hlk
        rw [hll]
        exact h.apart j i a o lj l hj hi ha e2 hlj hl
      · rw [Places.upd_ne _ e3] at hlk
        exact h.apart j k a b lj lk hj hk ha hne hlj hlk
  · rw [Store.next_push, hnx] at hj
    rw [Places.upd_ne _ (by omega)]
    exact h.dom j (by omega)
  · obtain ⟨j, a, lj, hj, ha, hlj, rfl⟩ := hb
    rcases key j a hj with ⟨rfl, rfl⟩ | ⟨e1, e2, hj⟩
    · rw [Places.upd_same] at hlj; cases hlj
      exact ⟨i, o, l, hi, ho, hl, hll.symm⟩
    · rw [Places.upd_ne _ e1] at hlj
      exact ⟨j, a, lj, hj, ha, hlj, rfl⟩
  · rcases key j _ hj with ⟨rfl, e⟩ | ⟨_, _, hj⟩
    · subst e; cases ho'
    · exact hj

/-- A store that holds less. -/
theorem Rel.less {σ σ2 : Store} {M : Places} {w : World} (h : Rel M σ w) (hn : σ2.next = σ.next) (hg : ∀ i o, σ2.get i = some o → σ.get i = some o) : Rel M σ2 w :=
  ⟨fun i o hi => h.shows i o (hg i o hi), fun i j a b li lj hi hj => h.apart i j a b li lj (hg i a hi) (hg j b hj), fun i hi => h.dom i (by omega)⟩
theorem Step.less {σ σ1 σ2 : Store} {M M1 : Places} {w w1 : World} (h : Step σ M w σ1 M1 w1) (hn : σ2.next = σ1.next) (hg : ∀ i o, σ2.get i = some o → σ1.get i = some o) : Step σ M w σ2 M1 w1 :=
  ⟨by rw [hn]; exact h.next, h.le, h.size, h.frame, fun b hb ho => h.owned b hb (by
    obtain ⟨i, o, l, h1, h2, h3, h4⟩ := ho
    exact ⟨i, o, l, hg i o h1, h2, h3, h4⟩), fun i c hi => h.lent i c (hg i _ hi), h.os, h.tape, h.output⟩

/-- What a value needs of places. -/
theorem VR.back {M N : Places} (hm : M.le N) {b : Bool} {v x : Value} (h : VR M b v x) : ∀ {v' : Value}, VR N b v v' → VR M b v v' := by
  induction h with
  | scalar v h => intro v' h'; rw [VR.scalar_eq h h']; exact .scalar v h
  | ptr i o l h =>
    intro v' h'
    obtain ⟨_, l', hl', rfl⟩ := VR.ptr_ h'
    rw [hm _ _ h] at hl'; cases hl'
    exact .ptr i o l h
  | slice i o n c l h =>
    intro v' h'
    obtain ⟨l', c', hl', rfl, hc, hh⟩ := VR.slice_ h'
    rw [hm _ _ h] at hl'; cases hl'
    rcases hh with ⟨_, rfl⟩ | ⟨sz, room, e, _⟩
    · exact .slice i o n _ l h
    · cases e
  | grown i o n c c0 sz room b base h hc hr =>
    intro v' h'
    obtain ⟨l', c', hl', rfl, hc', hh⟩ := VR.slice_ h'
    rw [hm _ _ h] at hl'; cases hl'
    rcases hh with ⟨e, _⟩ | ⟨sz', room', e, e', hr'⟩
    · cases e
    · cases e
      cases e'
      exact .grown i o n c c' sz room b base h hc' hr'
  | hollow a =>
    intro v' h'
    obtain ⟨a', rfl⟩ := VR.hollow_ h'
    exact .hollow a'
  | map i l h =>
    intro v' h'
    obtain ⟨l', hl', rfl⟩ := VR.map_ h'
    rw [hm _ _ h] at hl'; cases hl'
    exact .map i l h
  | func f xs ys xs' ys' hx hy h k ih ik =>
    intro v' h'
    obtain ⟨f', xs2, ys2, e, rfl, h1, h2, h3, h4⟩ := VR.func_ h'
    cases e
    refine .func f xs ys xs2 ys2 h1 h2 (fun i v v' hv hv' => ?_) (fun i v v' hv hv' => ?_)
    · have hi : i < xs.size := (Array.getElem?_eq_some_iff.1 hv).1
      exact ih i v _ hv (Array.getElem?_eq_getElem (by omega)) (h3 i v v' hv hv')
    · have hi : i < ys.size := (Array.getElem?_eq_some_iff.1 hv).1
      exact ik i v _ hv (Array.getElem?_eq_getElem (by omega)) (h4 i v v' hv hv')
  | iface t v v0 h ih =>
    intro v' h'
    cases h' with
    | scalar _ h => simp [Am.scalar] at h
    | iface _ _ v1 h1 => exact .iface t v v1 (ih h1)
  | cell v v0 h ih =>
    intro v' h'
    exact .cell _ _ (ih (h'.true_of h.one'))
  | agg xs ys hs h ih =>
    intro v' h'
    obtain ⟨zs, rfl, h1, h2⟩ := VR.agg_ h'
    refine .agg xs zs h1 fun i v v' hv hv' => ?_
    have hi : i < xs.size := (Array.getElem?_eq_some_iff.1 hv).1
    exact ih i v _ hv (Array.getElem?_eq_getElem (by omega)) (h2 i v v' hv hv')
  | tuple xs ys hs h ih =>
    intro v' h'
    by_cases h0 : 0 < xs.size
    · obtain ⟨zs, rfl, h1, h2⟩ := VR.tuple_ h' h0
      refine .tuple xs zs h1 fun i v v' hv hv' => ?_
      have hi : i < xs.size := (Array.getElem?_eq_some_iff.1 hv).1
      exact ih i v _ hv (Array.getElem?_eq_getElem (by omega)) (h2 i v v' hv hv')
    · have : xs = #[] := Array.eq_empty_of_size_eq_zero (by omega)
      subst this
      exact .junk v'
  | junk v => intro v' _; exact .junk v'
  | gone =>
    intro v' h'
    cases h' with
    | gone => exact .gone
    | cell _ _ h => cases h with | scalar _ h => simp [Am.scalar] at h

end Go.Am
end
section
/- The abstract machine, part 2: what one operation does. No program in sight. -/
set_option linter.all false
namespace Go.Am

/-! ## types -/
def tAgg (P : Program) (t : TypeId) : Option Bool :=
  match P.underlying t with
  | some (.struct _) | some (.array _ _) => some true
  | some _ => some false
  | none => none
def tSize (P : Program) (t : TypeId) : Option Nat := (P.info? t).map (·.size)
def tBytes (P : Program) (t : TypeId) : Option Nat := (P.info? t).map (·.bytes)
def tZero (P : Program) (t : TypeId) : Option Value := (P.info? t).bind (·.zero)
def tZeros (P : Program) (t : TypeId) : Option (List Value) := (tZero P t).bind cellsL

/-! ## parts -/
/-- A part of a row of cells, as a value. -/
def part? (agg : Bool) (n : Nat) (xs : List Value) (off : Nat) : Option Value :=
  bif agg then (bif Nat.ble (off + n) xs.length then some (.agg ((xs.drop off).take n).toArray) else none) else xs[off]?
/-- A list with others laid over it. -/
def splice (xs : List Value) (off : Nat) (vs : List Value) : List Value :=
  match off with
  | 0 => vs ++ xs.drop vs.length
  | _ => xs.take off ++ vs ++ xs.drop (off + vs.length)
def asCells (n : Nat) (v : Value) : Option (List Value) :=
  match cellsL v with
  | some vs => bif vs.length == n then some vs else none
  | none => none
/-- The parts of a composite. -/
def buildL : List (List Value) → List (Nat × Value) → Option (List (List Value))
  | fs, [] => some fs
  | fs, (i, v) :: r =>
    match fs[i]? with
    | none => none
    | some z =>
      match asCells z.length v with
      | none => none
      | some c => buildL (fs.set i c) r
/-- A row of cells cut by sizes. -/
def cutL : List Nat → List Value → List (List Value)
  | [], _ => []
  | n :: ns, xs => xs.take n :: cutL ns (xs.drop n)
def fieldSizes (P : Program) : List Field → Option (List Nat)
  | [] => some []
  | f :: fs =>
    match tSize P f.type, fieldSizes P fs with
    | some n, some ns => some (n :: ns)
    | _, _ => none
def buildAgg (P : Program) (t : TypeId) (parts : List (Nat × Value)) : Option Value :=
  match P.underlying t, tZeros P t with
  | some (.struct fields), some z =>
    match fieldSizes P fields.toList with
    | none => none
    | some ns => (buildL (cutL ns z) parts).map fun fs => .agg fs.flatten.toArray
  | some (.array n elem), some _ =>
    match tZeros P elem with
    | none => none
    | some ze => (buildL (List.replicate n ze) parts).map fun fs => .agg fs.flatten.toArray
  | _, _ => none

/-! ## equality -/
def eqInts (k : IntKind) : Nat → List Value → List Value → Option Bool
  | 0, _, _ => some true
  | n + 1, .int j a :: xs, .int j' b :: ys =>
    bif j == k && j' == k then
      match eqInts k n xs ys with
      | some r => some (decide (a = b) && r)
      | none => none
    else none
  | _, _, _ => none
/-- Values of one cell, none of them an id. -/
def eq1 : TypeDesc → Value → Value → Option Bool
  | .int _, .int k a, .int k' b => bif k == k' then some (a == b) else none
  | .bool, .bool a, .bool b => some (a == b)
  | .string, .string a, .string b => some (a == b)
  | .pointer _, .pointer none, .pointer b => some b.isNone
  | .pointer _, .pointer (some _), .pointer none => some false
  | _, _, _ => none
def eqFs (P : Program) (eq : TypeId → List Value → List Value → Option Bool) : List Field → List Value → List Value → Option Bool
  | [], _, _ => some true
  | fl :: fs, xs, ys =>
    bif fl.name == "_" then none else
    match tSize P fl.type with
    | none => none
    | some n =>
      match eq fl.type ((xs.drop fl.offset).take n) ((ys.drop fl.offset).take n), eqFs P eq fs xs ys with
      | some a, some b => some (a && b)
      | _, _ => none
def eqIs (eq : List Value → List Value → Option Bool) (c : Nat) : Nat → List Value → List Value → Option Bool
  | 0, _, _ => some true
  | n + 1, xs, ys =>
    match eq (xs.take c) (ys.take c), eqIs eq c n (xs.drop c) (ys.drop c) with
    | some a, some b => some (a && b)
    | _, _ => none
def eqLeaf (d : TypeDesc) : List Value → List Value → Option Bool
  | x :: _, y :: _ => eq1 d x y
  | _, _ => none
def eqL (P : Program) : Nat → TypeId → List Value → List Value → Option Bool
  | 0, _, _, _ => none
  | f + 1, t, xs, ys =>
    match P.underlying t with
    | some (.struct fs) => bif P.stoodInHeld t then none else eqFs P (eqL P f) fs.toList xs ys
    | some (.array n e) =>
      match P.underlying e, tSize P e with
      | some (.int k), some 1 => eqInts k n xs ys
      | some _, some c => eqIs (eqL P f e) c n xs ys
      | _, _ => none
    | some d => eqLeaf d xs ys
    | none => none

/-- How deep equality looks. -/
def eqFuel : Nat := 12
/-- x == y, where no id is looked at. -/
def eqV (P : Program) (t : TypeId) (x y : Value) : Option Bool :=
  match P.underlying t, x, y with
  | some (.slice _), .slice none _ _, .slice b _ _ => some b.isNone
  | some (.slice _), .slice (some _) _ _, .slice none _ _ => some false
  | some (.map _ _), .map none, .map b => some b.isNone
  | some (.map _ _), .map (some _), .map none => some false
  | some (.func _ _ _), .nilFunc, .nilFunc => some true
  | some (.func _ _ _), .nilFunc, .func (.func _) _ _ => some false
  | some (.func _ _ _), .func (.func _) _ _, .nilFunc => some false
  | some (.struct _), .agg xs, .agg ys => eqL P eqFuel t xs.toList ys.toList
  | some (.array _ _), .agg xs, .agg ys => eqL P eqFuel t xs.toList ys.toList
  | some d, x, y => eq1 d x y
  | none, _, _ => none
/-- Are two ids' cells one place? -/
def eqP (a b : Addr) (g : Nat → Option SObj) : Option Bool :=
  bif a.spot.isSome || b.spot.isSome then none else
  match g a.block, g b.block with
  | some (.cells _ none), some (.cells _ none) => some (a.block == b.block && a.off == b.off)
  | _, _ => none

/-! ## numbers -/
/-- Of numbers. -/
def intOp (op : BinOp) (k : IntKind) (x y : Int) : Option Value :=
  match op with
  | .add => some (.int k (k.wrap (x + y)))
  | .sub => some (.int k (k.wrap (x - y)))
  | .mul => some (.int k (k.wrap (x * y)))
  | .quo => if y = 0 then none else some (.int k (k.wrap (x.tdiv y)))
  | .rem => if y = 0 then none else some (.int k (x.tmod y))
  | .and => some (.int k (k.wrap (BitVec.ofInt k.bits x &&& BitVec.ofInt k.bits y).toNat))
  | .or => some (.int k (k.wrap (BitVec.ofInt k.bits x ||| BitVec.ofInt k.bits y).toNat))
  | .xor => some (.int k (k.wrap (BitVec.ofInt k.bits x ^^^ BitVec.ofInt k.bits y).toNat))
  | .andNot => some (.int k (k.wrap (BitVec.ofInt k.bits x &&& ~~~ BitVec.ofInt k.bits y).toNat))
  | .eql => some (.bool (x == y))
  | .neq => some (.bool (x != y))
  | .lss => some (.bool (x < y))
  | .leq => some (.bool (x ≤ y))
  | .gtr => some (.bool (x > y))
  | .geq => some (.bool (x ≥ y))
  | _ => none
def shiftOp (op : BinOp) (k : IntKind) (x y : Int) : Option Value :=
  if y < 0 then none else
  match op with
  | .shl => some (.int k (k.wrap (x * 2 ^ (min y.toNat k.bits))))
  | .shr => some (.int k (x.fdiv (2 ^ (min y.toNat k.bits))))
  | _ => none
def strOp (op : BinOp) (x y : ByteArray) : Option Value :=
  match op with
  | .add => if ((x.size + y.size : Nat) : Int) > IntKind.i64.max then none else some (.string (x ++ y))
  | .eql => some (.bool (x.toList == y.toList))
  | .neq => some (.bool !(x.toList == y.toList))
  | .lss => some (.bool (Op.bytesLess x.toList y.toList))
  | .leq => some (.bool (Op.bytesLess x.toList y.toList || x.toList == y.toList))
  | .gtr => some (.bool !(Op.bytesLess x.toList y.toList || x.toList == y.toList))
  | .geq => some (.bool !Op.bytesLess x.toList y.toList)
  | _ => none
def unV (op : UnOp) (x : Value) : Option Value :=
  match op, x with
  | .not, .bool b => some (.bool !b)
  | .neg, .int k n => some (.int k (k.wrap (0 - n)))
  | .xor, .int k n => some (.int k (k.wrap (BitVec.ofInt k.bits (if k.signed then -1 else k.max) ^^^ BitVec.ofInt k.bits n).toNat))
  | _, _ => none

/-! ## actions -/
inductive Action where
  /-- A value. -/
  | val (v : Value)
  /-- What is read. -/
  | rd (f : (Nat → Option SObj) → Option Value)
  /-- Something new. -/
  | new (o : SObj) (mk : Nat → Value)
  /-- What writes. -/
  | eff (f : Store → Option (Value × Store))
  | call (f : FuncId) (args : List Value)
  /-- One of several. -/
  | pick (f : Store → Option (List (Value × Store)))

def ofVal : Option Value → Option Action
  | some v => some (.val v)
  | none => none

def ptrTo (i : Nat) : Value := .pointer (some ⟨i, 0, none⟩)

def binA (P : Program) (op : BinOp) (t : TypeId) (x y : Value) : Option Action :=
  match op, x, y with
  | .shl, .int k a, .int _ b => ofVal (shiftOp .shl k a b)
  | .shr, .int k a, .int _ b => ofVal (shiftOp .shr k a b)
  | op, .int k a, .int k' b => bif k == k' then ofVal (intOp op k a b) else none
  | op, .string a, .string b => ofVal (strOp op a b)
  | .eql, .pointer (some a), .pointer (some b) =>
    match P.underlying t with
    | some (.pointer el) => (match tSize P el with | some (_ + 1) => some (.rd fun g => (eqP a b g).map .bool) | _ => none)
    | _ => none
  | .neq, .pointer (some a), .pointer (some b) =>
    match P.underlying t with
    | some (.pointer el) => (match tSize P el with | some (_ + 1) => some (.rd fun g => (eqP a b g).map fun r => .bool !r) | _ => none)
    | _ => none
  | .eql, x, y => (eqV P t x y).map fun b => .val (.bool b)
  | .neq, x, y => (eqV P t x y).map fun b => .val (.bool !b)
  | _, _, _ => none

def bytesV (s : ByteArray) : List Value := s.data.toList.map fun b => .int .u8 b.toNat
/-- The cells of a slice become those of a new id, of cells that may not be compared by their place. -/
def handV (v : Value) (σ : Store) : Option (Value × Store) :=
  match v with
  | .slice (some ⟨i, o, none⟩) n c =>
    (match σ.get i with
    | some (.cells cs none) => bif Nat.blt 0 cs.length && Nat.ble (o + c) cs.length then some (.slice (some ⟨σ.next, o, some 1⟩) n c, (σ.put i none).push (.cells cs (some 1))) else none
    | _ => none)
  | _ => none


def fieldAddrV (P : Program) (t : TypeId) (x : Value) (f : Nat) : Option Value :=
  match P.underlying t with
  | some (.struct fs) =>
    match fs[f]?, x with
    | some fl, .pointer (some ⟨i, o, none⟩) =>
      match tSize P fl.type with
      | some (_ + 1) => some (.pointer (some ⟨i, o + fl.offset, none⟩))
      | _ => none
    | _, _ => none
  | _ => none
def fieldV (P : Program) (t : TypeId) (x : Value) (f : Nat) : Option Value :=
  match P.underlying t, x with
  | some (.struct fs), .agg xs =>
    match fs[f]? with
    | none => none
    | some fl =>
      match tAgg P fl.type, tSize P fl.type with
      | some b, some n => part? b n xs.toList fl.offset
      | _, _ => none
  | _, _ => none
def indexAddrV (P : Program) (t : TypeId) (x i : Value) : Option Value :=
  match i, x with
  | .int _ i, .pointer (some ⟨b, o, none⟩) =>
    match P.underlying t with
    | some (.array n e) =>
      match tSize P e with
      | some c => if 0 ≤ i ∧ i < n then some (.pointer (some ⟨b, o + i.toNat * c, none⟩)) else none
      | _ => none
    | _ => none
  | .int _ i, .slice (some ⟨b, o, s⟩) n _ =>
    match P.underlying t with
    | some (.slice e) =>
      match tSize P e with
      | some c => bif s == none || s == some c then (if 0 ≤ i ∧ i < n then some (.pointer (some ⟨b, o + i.toNat * c, none⟩)) else none) else none
      | _ => none
    | _ => none
  | _, _ => none
def indexV (P : Program) (t : TypeId) (x i : Value) : Option Value :=
  match P.underlying t, x, i with
  | some (.array n e), .agg xs, .int _ i =>
    match tAgg P e, tSize P e with
    | some b, some c => if 0 ≤ i ∧ i < n then part? b c xs.toList (i.toNat * c) else none
    | _, _ => none
  | some .string, .string s, .int _ i => if 0 ≤ i then (s[i.toNat]?).map fun b => .int .u8 b.toNat else none
  | _, _, _ => none
def bound (x : Option Value) (dflt top : Nat) : Option Nat :=
  match x with
  | none => some dflt
  | some (.int _ i) => if 0 ≤ i ∧ i ≤ top then some i.toNat else none
  | some _ => none
def sliceV (P : Program) (t : TypeId) (x : Value) (lo hi mx : Option Value) : Option Value :=
  match mx, P.underlying t, x with
  | none, some (.array n e), .pointer (some ⟨b, o, none⟩) =>
    match bound hi n n, tSize P e with
    | some h, some c =>
      match bound lo 0 h with
      | some l => bif n == l then none else some (.slice (some ⟨b, o + l * c, none⟩) (h - l) (n - l))
      | none => none
    | _, _ => none
  | none, some (.slice e), .slice (some ⟨b, o, s⟩) n k =>
    match bound hi n k, tSize P e with
    | some h, some c =>
      bif s == none || s == some c then
        match bound lo 0 h with
        | some l => bif (k == l && !(l == 0)) || !Nat.ble h k then none else some (.slice (some ⟨b, o + l * c, s⟩) (h - l) (k - l))
        | none => none
      else none
    | _, _ => none
  | none, some (.slice e), .slice none n k =>
    match bound hi n k, tSize P e with
    | some h, some _ =>
      match bound lo 0 h with
      | some l => some (.slice none (h - l) (k - l))
      | none => none
    | _, _ => none
  | none, some .string, .string s =>
    match bound hi s.size s.size with
    | some h =>
      match bound lo 0 h with
      | some l => some (.string (s.extract l h))
      | none => none
    | none => none
  | _, _, _ => none
/-- The cells from an address on. -/
def cellsAt (a : Addr) (σ : Store) : Option (List Value) :=
  match σ.get a.block with
  | some (.cells c _) => some (c.drop a.off)
  | some (.lent c) => some (c.drop a.off)
  | _ => none
def loadV (agg : Bool) (n : Nat) (x : Value) (g : Nat → Option SObj) : Option Value :=
  match x with
  | .pointer (some ⟨i, o, none⟩) =>
    match g i with
    | some (.cells c _) => part? agg n c o
    | some (.lent c) => part? agg n c o
    | _ => none
  | _ => none
def storeV (n : Nat) (x v : Value) (σ : Store) : Option (Value × Store) :=
  match x, asCells n v with
  | .pointer (some ⟨i, o, none⟩), some vs =>
    match σ.get i with
    | some (.cells c g) => bif Nat.ble (o + n) c.length then some (junk, σ.put i (some (.cells (splice c o vs) g))) else none
    | _ => none
  | _, _ => none
def keyDesc (P : Program) (t : TypeId) : Option TypeDesc :=
  match P.underlying t with
  | some (.int k) => some (.int k)
  | some .string => some .string
  | some .bool => some .bool
  | _ => none
def lookupV0 (P : Program) (t : TypeId) (x k : Value) (ok : Bool) (g : Nat → Option SObj) : Option Value :=
  match P.underlying t with
  | some (.map kt et) =>
    match keyDesc P kt, tZero P et with
    | some d, some z =>
      match (match x with
        | .map none => some []
        | .map (some r) => (match g r with | some (.map es _) => some es | _ => none)
        | _ => none) with
      | none => none
      | some es =>
        match Instr.findNow d k es 0 with
        | none => none
        | some (some (_, v)) => some (bif ok then .tuple #[v, .bool true] else v)
        | some none => some (bif ok then .tuple #[z, .bool false] else z)
    | _, _ => none
  | _ => none
def mapUpdateV0 (P : Program) (t : TypeId) (x k v : Value) (σ : Store) : Option (Value × Store) :=
  match P.underlying t, x with
  | some (.map kt _), .map (some r) =>
    match keyDesc P kt, σ.get r with
    | some d, some (.map es ck) =>
      match Instr.findNow d k es 0 with
      | none => none
      | some (some (i, _)) => some (junk, σ.put r (some (.map (es.modify i fun e => { e with key := k, val := v }) ck)))
      | some none => some (junk, σ.put r (some (.map (es ++ [{ key := k, val := v, born := ck }]) (ck + 1))))
    | _, _ => none
  | _, _ => none
/-- A number, or a row of numbers. -/
def keyRow (P : Program) (t : TypeId) : Bool :=
  match P.underlying t with
  | some (.array _ e) => (match P.underlying e with | some (.int _) => tSize P e == some 1 | _ => false)
  | _ => (keyDesc P t).isSome
/-- Structs of numbers and of rows of numbers: keys that are held against each other cell by cell. -/
def deepT (P : Program) (t : TypeId) : Bool :=
  match P.underlying t with
  | some (.struct fs) => fs.toList.all fun f => keyRow P f.type
  | _ => false
def findDeep (P : Program) (t : TypeId) (k : Value) : List MapEntry → Nat → Option (Option (Nat × Value))
  | [], _ => some none
  | e :: es, i =>
    match eqV P t k e.key with
    | some true => some (some (i, e.val))
    | some false => findDeep P t k es (i + 1)
    | none => none
def lookupD (P : Program) (t : TypeId) (x k : Value) (ok : Bool) (g : Nat → Option SObj) : Option Value :=
  match P.underlying t, x with
  | some (.map kt et), .map (some r) =>
    match tZero P et, g r with
    | some z, some (.map es _) =>
      bif deepT P kt && (eqV P kt k k).isSome then
        match findDeep P kt k es 0 with
        | none => none
        | some (some (_, v)) => some (bif ok then .tuple #[v, .bool true] else v)
        | some none => some (bif ok then .tuple #[z, .bool false] else z)
      else none
    | _, _ => none
  | _, _ => none
def lookupV (P : Program) (t : TypeId) (x k : Value) (ok : Bool) (g : Nat → Option SObj) : Option Value :=
  match lookupV0 P t x k ok g with
  | some v => some v
  | none => lookupD P t x k ok g
def mapUpdateD (P : Program) (t : TypeId) (x k v : Value) (σ : Store) : Option (Value × Store) :=
  match P.underlying t, x with
  | some (.map kt _), .map (some r) =>
    match σ.get r with
    | some (.map es ck) =>
      bif deepT P kt && (eqV P kt k k).isSome then
        match findDeep P kt k es 0 with
        | some none => some (junk, σ.put r (some (.map (es ++ [{ key := k, val := v, born := ck }]) (ck + 1))))
        | _ => none
      else none
    | _ => none
  | _, _ => none
def mapUpdateV (P : Program) (t : TypeId) (x k v : Value) (σ : Store) : Option (Value × Store) :=
  match mapUpdateV0 P t x k v σ with
  | some r => some r
  | none => mapUpdateD P t x k v σ
def mapEntryV (P : Program) (t : TypeId) (x k : Value) (σ : Store) : Option (Value × Store) :=
  match P.underlying t, x with
  | some (.map kt et), .map (some r) =>
    match keyDesc P kt, σ.get r, tZero P et with
    | some d, some (.map es ck), some z =>
      match Instr.findNow d k es 0 with
      | none => none
      | some (some (i, v)) => some (.tuple #[v, .int .i64 ((es[i]?.map (·.born)).getD 0 : Nat)], σ.put r (some (.map (es.modify i fun e => { e with key := k }) ck)))
      | some none => some (.tuple #[z, .int .i64 (ck : Nat)], σ.put r (some (.map (es ++ [{ key := k, val := z, born := ck }]) (ck + 1))))
    | _, _, _ => none
  | _, _ => none
def entryStoreV (x s v : Value) (σ : Store) : Option (Value × Store) :=
  match x, s with
  | .map (some r), .int _ s =>
    match σ.get r with
    | some (.map es ck) =>
      match es.findIdx? (fun e => decide ((e.born : Int) = s)) with
      | some i => some (junk, σ.put r (some (.map (es.modify i fun e => { e with val := v }) ck)))
      | none => none
    | _ => none
  | _, _ => none
def deleteV (P : Program) (t : TypeId) (x k : Value) (σ : Store) : Option (Value × Store) :=
  match P.underlying t, x with
  | some (.map kt _), .map none => (match keyDesc P kt with | some _ => some (junk, σ) | none => none)
  | some (.map kt _), .map (some r) =>
    match keyDesc P kt, σ.get r with
    | some d, some (.map es ck) =>
      match Instr.findNow d k es 0 with
      | none => none
      | some (some (i, _)) => some (junk, σ.put r (some (.map (es.eraseIdx i) ck)))
      | some none => some (junk, σ.put r (some (.map es ck)))
    | _, _ => none
  | _, _ => none
def clearV (x : Value) (σ : Store) : Option (Value × Store) :=
  match x with
  | .map none => some (junk, σ)
  | .map (some r) =>
    match σ.get r with
    | some (.map _ ck) => some (junk, σ.put r (some (.map [] ck)))
    | _ => none
  | _ => none
/-- So many elements of a slice, or of a string. -/
def sourceV (sz n : Nat) (x : Value) (σ : Store) : Option (List Value) :=
  match x with
  | .slice none _ _ => bif n == 0 then some [] else none
  | .slice (some a) _ _ =>
    match cellsAt a σ with
    | some c => bif Nat.ble (n * sz) c.length then some (c.take (n * sz)) else none
    | none => none
  | .string s => bif sz == 1 && Nat.ble n s.size then some ((s.data.toList.take n).map fun b => .int .u8 b.toNat) else none
  | _ => none
def lenV : Value → Option Nat
  | .slice _ n _ => some n
  | .string s => some s.size
  | _ => none
/-- append: what is put behind may lie in the room that an append made before: then the older id is no more. -/
def appendV (sz bytes : Nat) (s x : Value) (σ : Store) : Option (Value × Store) :=
  match lenV x with
  | none => none
  | some m =>
    match sourceV sz m x σ with
    | none => none
    | some news =>
      match s with
      | .slice none 0 0 =>
        match m with
        | 0 => some (s, σ)
        | _ => bif Nat.ble (m * bytes) 140737488355328 && Nat.ble m 9223372036854775807 then some (.slice (some ⟨σ.next, 0, some sz⟩) m m, σ.push (.cells news (some sz))) else none
      | .slice (some ⟨i, o, g⟩) n c =>
        match σ.get i with
        | some (.cells cs g') =>
          bif g == none || (g == some sz && g' == some sz) then
            match m with
            | 0 => bif Nat.ble n c then some (s, σ) else none
            | _ =>
              bif Nat.ble (n + m) c then
                (bif Nat.ble (o + (n + m) * sz) cs.length then some (.slice (some ⟨i, o, g⟩) (n + m) c, σ.put i (some (.cells (splice cs (o + n * sz) news) g'))) else none)
              else
                bif Nat.ble ((n + m) * bytes) 140737488355328 && Nat.ble (n + m) 9223372036854775807 && Nat.ble (o + n * sz) cs.length then
                  some (.slice (some ⟨σ.next, 0, some sz⟩) (n + m) (n + m),
                    (match g with | none => σ | some _ => σ.put i none).push (.cells ((cs.drop o).take (n * sz) ++ news) (some sz)))
                else none
          else none
        | some (.lent cs) =>
          match m with
          | 0 => bif g.isNone && Nat.ble n c then some (s, σ) else none
          | _ =>
            bif Nat.ble (n + m) c || g.isSome then none
            else
              bif Nat.ble ((n + m) * bytes) 140737488355328 && Nat.ble (n + m) 9223372036854775807 && Nat.ble (o + n * sz) cs.length then
                some (.slice (some ⟨σ.next, 0, some sz⟩) (n + m) (n + m), σ.push (.cells ((cs.drop o).take (n * sz) ++ news) (some sz)))
              else none
        | _ => none
      | _ => none
def copyV (sz : Nat) (d x : Value) (σ : Store) : Option (Value × Store) :=
  match d, lenV x with
  | .slice none n _, some m => bif Nat.min m n == 0 then (match sourceV sz 0 x σ with | some _ => some (.int .i64 (0 : Nat), σ) | none => none) else none
  | .slice (some ⟨i, o, _⟩) n _, some m =>
    match sourceV sz (Nat.min m n) x σ, σ.get i with
    | some news, some (.cells cs g) =>
      bif Nat.ble (o + news.length) cs.length then some (.int .i64 (Nat.min m n : Nat), σ.put i (some (.cells (splice cs o news) g))) else none
    | _, _ => none
  | _, _ => none
def minMaxV (mx : Bool) : List Value → Option Value
  | .int k n :: r => r.foldl (fun acc y => match acc, y with
    | some (.int k a), .int _ b => some (.int k (bif mx then (if b > a then b else a) else (if b < a then b else a)))
    | _, _ => none) (some (.int k n))
  | _ => none
def builtinA (P : Program) (b : Builtin) (ts : List TypeId) (args : List Value) : Option Action :=
  match b, ts, args with
  | .append, [t, t1], [s, x] =>
    match P.underlying t, (match P.underlying t1 with | some (.slice _) => true | some .string => true | _ => false) with
    | some (.slice e), true =>
      (match tSize P e, tBytes P e, tZeros P e with
      | some (sz + 1), some by_, some ze => bif ze.length == sz + 1 then some (.eff fun σ => appendV (sz + 1) by_ s x σ) else none
      | _, _, _ => none)
    | _, _ => none
  | .len, [t], [x] =>
    match P.underlying t, x with
    | some .string, .string s => some (.val (.int .i64 (s.size : Nat)))
    | some (.array n _), _ => some (.val (.int .i64 (n : Nat)))
    | some (.slice _), .slice _ n _ => some (.val (.int .i64 (n : Nat)))
    | some (.slice _), .func (.method _) _ _ => some (.val (.int .i64 ((0 : Nat) : Int)))
    | some (.map _ _), .map none => some (.val (.int .i64 0))
    | some (.map _ _), .map (some r) => some (.rd fun g => match g r with | some (.map es _) => some (.int .i64 (es.length : Nat)) | _ => none)
    | _, _ => none
  | .copy, [t, _], [d, x] =>
    match P.underlying t with
    | some (.slice e) => (match tSize P e with | some sz => some (.eff fun σ => copyV sz d x σ) | none => none)
    | _ => none
  | .clear, [t], [x] => (match P.underlying t with | some (.map _ _) => some (.eff fun σ => clearV x σ) | _ => none)
  | .delete, [t, _], [m, k] => some (.eff fun σ => deleteV P t m k σ)
  | .delete, [t], [m, k] => some (.eff fun σ => deleteV P t m k σ)
  | .max, _, args => ofVal (minMaxV true args)
  | .min, _, args => ofVal (minMaxV false args)
  | _, _, _ => none
/-- An iterator over a map. -/
def rangeV (P : Program) (t : TypeId) (x : Value) (σ : Store) : Option (Value × Store) :=
  match P.underlying t, x with
  | some (.map _ _), .map none => some (ptrTo σ.next, σ.push (.iter none 0 [] 0))
  | some (.map _ _), .map (some i) => (match σ.get i with | some (.map _ ck) => some (ptrTo σ.next, σ.push (.iter (some i) ck [] ck)) | _ => none)
  | _, _ => none
/-- What an iterator may hand out. -/
def nextL (x : Value) (σ : Store) : Option (List (Value × Store)) :=
  match x with
  | .pointer (some ⟨i, 0, none⟩) =>
    (match σ.get i with
    | some (.iter none _ _ _) => some [(.tuple #[.bool false], σ)]
    | some (.iter (some m) since seen c0) =>
      (match σ.get m with
      | some (.map es ck) =>
        bif (es.all fun e => Nat.blt e.born since) && Nat.ble since c0 && Nat.beq c0 ck then
          (match es.filter (fun e => !seen.contains e.born) with
          | [] => some [(.tuple #[.bool false], σ)]
          | L => some (L.map fun e => (.tuple #[.bool true, e.key, e.val], σ.put i (some (.iter (some m) since (seen ++ [e.born]) ck)))))
        else none
      | _ => none)
    | _ => none)
  | _ => none
/-- The entry that an iterator handed out last. -/
def entryL (x : Value) (g : Nat → Option SObj) : Option Value :=
  match x with
  | .pointer (some ⟨i, 0, none⟩) =>
    (match g i with
    | some (.iter (some m) _ seen c0) =>
      (match g m, seen.getLast? with
      | some (.map es ck), some s => bif Nat.beq ck c0 then (match es.find? (fun e => Nat.beq e.born s) with | some e => some (.tuple #[e.key, e.val]) | none => none) else none
      | _, _ => none)
    | _ => none)
  | _ => none
def callable (P : Program) (f : FuncId) : Bool :=
  match P.funcs[f]? with
  | some fn => fn.name != "runtime.NumGoroutine" && fn.body.isSome
  | none => false
def action (P : Program) (o : Oper) (e : Operand → Value) : Option Action :=
  match o.op with
  | .move x => some (.val (e x))
  | .assign x => some (.val (e x))
  | .pick c a b => (match e c with | .bool t => some (.val (bif t then e a else e b)) | _ => none)
  | .alloc t => (match tZeros P t with | some z => some (.new (.cells z none) ptrTo) | none => none)
  | .box _ x => (match cellsL (e x) with | some cs => some (.new (.cells cs none) ptrTo) | none => none)
  | .build t parts => ofVal (buildAgg P t (parts.toList.map fun (i, x) => (i, e x)))
  | .buildSlice t n parts =>
    (match P.underlying t with
    | some (.slice el) =>
      (match tZeros P el with
      | some ze =>
        (match buildL (List.replicate n ze) (parts.toList.map fun (i, x) => (i, e x)) with
        | some fs => bif Nat.ble (n * ze.length) 16777216 then some (.new (.cells fs.flatten none) fun i => .slice (some ⟨i, 0, none⟩) n n) else none
        | none => none)
      | none => none)
    | _ => none)
  | .load t a => (match tAgg P t, tSize P t with | some b, some n => some (.rd fun g => loadV b n (e a) g) | _, _ => none)
  | .store t a v => (match tSize P t with | some n => some (.eff fun σ => storeV n (e a) (e v) σ) | none => none)
  | .nilCheck x => (match e x with | .pointer (some a) => some (.val (.pointer (some a))) | .func (.func f) xs ys => some (.val (.func (.func f) xs ys)) | _ => none)
  | .binOp op t x y _ => binA P op t (e x) (e y)
  | .unOp op _ x => ofVal (unV op (e x))
  | .convert src dst x =>
    (match P.underlying src, P.underlying dst, e x with
    | some _, some (.int k), .int _ n => some (.val (.int k (k.wrap n)))
    | some .string, some .string, .string s => some (.val (.string s))
    | some .string, some (.slice el), .string s => (match P.underlying el with | some (.int .u8) => some (.new (.cells (bytesV s) (some 1)) fun i => .slice (some ⟨i, 0, some 1⟩) s.size s.size) | _ => none)
    | some (.slice _), some (.slice el), v => (match P.underlying el with | some (.int .u8) => bif Nat.beq src dst then some (.eff fun σ => handV v σ) else none | _ => none)
    | _, _, _ => none)
  | .sliceToArrayPointer t x =>
    (match P.underlying t, e x with
    | some (.array n _), .slice (some ⟨i, o, _⟩) len _ => bif Nat.ble n len then some (.val (.pointer (some ⟨i, o, none⟩))) else none
    | _, _ => none)
  | .makeFunc (.func f) first captured => some (.val (.func (.func f) (first.map e) (captured.map e)))
  | .makeInterface t x => (match P.underlying t with | some (.slice _) => some (.val (.iface t (e x))) | _ => none)
  | .makeMap _ none => some (.new (.map [] 0) fun i => .map (some i))
  | .makeSlice t l c =>
    (match P.underlying t with
    | some (.slice el) =>
      (match tZeros P el, tBytes P el, e l, e c with
      | some ze, some by_, .int _ l, .int _ c => if 0 ≤ l ∧ l = c ∧ c ≤ 9223372036854775807 ∧ by_ * c ≤ 281474976710656 then some (.new (.cells (List.replicate c.toNat ze).flatten none) fun i => .slice (some ⟨i, 0, none⟩) c.toNat c.toNat) else none
      | _, _, _, _ => none)
    | _ => none)
  | .slice t x lo hi mx => ofVal (sliceV P t (e x) (lo.map e) (hi.map e) (mx.map e))
  | .fieldAddr t x f => ofVal (fieldAddrV P t (e x) f)
  | .field t x f => ofVal (fieldV P t (e x) f)
  | .indexAddr t x i => ofVal (indexAddrV P t (e x) (e i))
  | .index t x i => ofVal (indexV P t (e x) (e i))
  | .lookup t x k ok => some (.rd fun g => lookupV P t (e x) (e k) ok g)
  | .mapUpdate t m k v => some (.eff fun σ => mapUpdateV P t (e m) (e k) (e v) σ)
  | .mapEntry t m k => some (.eff fun σ => mapEntryV P t (e m) (e k) σ)
  | .entryStore _ m s v => some (.eff fun σ => entryStoreV (e m) (e s) (e v) σ)
  | .range t x => some (.eff fun σ => rangeV P t (e x) σ)
  | .entry x => some (.rd fun g => entryL (e x) g)
  | .next x false => some (.pick fun σ => nextL (e x) σ)
  | .extract x i => (match e x with | .tuple vs => ofVal (vs[i]?) | _ => none)
  | .call c =>
    (match c.callee with
    | .builtin b => builtinA P b c.argTypes.toList (c.args.toList.map e)
    | .value f =>
      (match e f with
      | .func (.func g) first captured => bif callable P g then some (.call g (first.toList ++ c.args.toList.map e ++ captured.toList)) else none
      | _ => none)
    | .invoke _ _ => none)
  | _ => none
end Go.Am
end
section
/- The abstract machine, part 3: reading, and what makes values, is as the model has it. No program in sight. -/
set_option linter.all false
namespace Go.Am
open Go.RowKit
variable {P : Program} {M : Places} {σ : Store} {w : World}

def VRs (M : Places) (xs : List Value) (ys : Array Value) : Prop := xs.length = ys.size ∧ ∀ (i : Nat) (v v' : Value), xs[i]? = some v → ys[i]? = some v' → VR M false v v'
theorem VRs.mono {N : Places} (hm : M.le N) {xs : List Value} {ys : Array Value} (h : VRs M xs ys) : VRs N xs ys := ⟨h.1, fun i v v' a b => (h.2 i v v' a b).mono hm⟩

/-- What an action says of an operation of the model. -/
def Sound (P : Program) (M : Places) (n : Sem Next) : Action → Prop
  | .val v => ∃ v', VR M false v v' ∧ ∀ w, n.run P w = .ok (.value v') w
  | .rd f => ∀ σ w v, Rel M σ w → f σ.get = some v → ∃ v', VR M false v v' ∧ n.run P w = .ok (.value v') w
  | .new o mk => o.own = true ∧ ∀ w, ∃ v' l w' x, n.run P w = .ok (.value v') w' ∧ w'.heap = w.heap.push x ∧ l.block = w.heap.size ∧ Shows M w' l o ∧ (∀ N i, N i = some l → VR N false (mk i) v') ∧ w'.os = w.os ∧ w'.tape = w.tape ∧ w'.output = w.output
  | .eff f => ∀ σ w v σ', Rel M σ w → f σ = some (v, σ') → ∃ M' n' w' v', n.run P w = .ok n' w' ∧ (n' = .value v' ∨ (n' = .skip ∧ v' = undef)) ∧ VR M' false v v' ∧ Rel M' σ' w' ∧ Step σ M w σ' M' w'
  | .pick f => ∀ σ w l, Rel M σ w → f σ = some l → ∃ v σ' M' w' v', (v, σ') ∈ l ∧ n.run P w = .ok (.value v') w' ∧ VR M' false v v' ∧ Rel M' σ' w' ∧ Step σ M w σ' M' w'
  | .call f args => ∃ cargs, VRs M args cargs ∧ ∀ w, n.run P w = .ok (.enter f cargs) w

theorem run_tAgg {t : TypeId} {b : Bool} (h : tAgg P t = some b) (w : World) : (isAgg t).run P w = .ok b w := by
  unfold tAgg at h
  unfold isAgg
  cases hu : P.underlying t with
  | none => rw [hu] at h; cases h
  | some d => rw [hu] at h; cases d <;> simp_all [run_underlying hu]
theorem run_tSize {t : TypeId} {n : Nat} (h : tSize P t = some n) (w : World) : (sizeOf t).run P w = .ok n w := by
  unfold tSize at h
  cases hi : P.info? t with
  | none => rw [hi] at h; cases h
  | some i => rw [hi] at h; simp at h; subst h; simp [sizeOf, typeInfo, hi]
theorem run_tBytes {t : TypeId} {n : Nat} (h : tBytes P t = some n) (w : World) : ∃ i, P.info? t = some i ∧ i.bytes = n ∧ (typeInfo t).run P w = .ok i w := by
  unfold tBytes at h
  cases hi : P.info? t with
  | none => rw [hi] at h; cases h
  | some i => rw [hi] at h; simp at h; exact ⟨i, rfl, h, by simp [typeInfo, hi]⟩
theorem run_tZero {t : TypeId} {z : Value} (h : tZero P t = some z) (w : World) : (zeroValue t).run P w = .ok z w := by
  unfold tZero at h
  cases hi : P.info? t with
  | none => rw [hi] at h; cases h
  | some i => rw [hi] at h; simp at h; simp [zeroValue, typeInfo, hi, h]

theorem cellsL_eq {v : Value} {xs : List Value} (h : cellsL v = some xs) : v.cells = xs.toArray := by
  cases v with
  | chan x => cases x <;> simp [cellsL] at h <;> subst h <;> simp [Value.cells]
  | _ => simp [cellsL] at h <;> subst h <;> simp [Value.cells]

/-! ## lists -/
theorem getElem?_splice (xs vs : List Value) (off j : Nat) (h : off + vs.length ≤ xs.length) : (splice xs off vs)[j]? = if off ≤ j ∧ j < off + vs.length then vs[j - off]? else xs[j]? := by
  have key : (xs.take off ++ vs ++ xs.drop (off + vs.length))[j]? = if off ≤ j ∧ j < off + vs.length then vs[j - off]? else xs[j]? := by
    rw [List.append_assoc, List.getElem?_append, List.getElem?_append, List.length_take, Nat.min_eq_left (by omega)]
    by_cases h1 : j < off
    · rw [if_pos h1, if_neg (by omega), List.getElem?_take, if_pos h1]
    · rw [if_neg h1]
      by_cases h2 : j < off + vs.length
      · rw [if_pos (by omega), if_pos ⟨by omega, h2⟩]
      · rw [if_neg (by omega), if_neg (by omega), List.getElem?_drop]
        congr 1; omega
  cases off with
  | zero => simpa [splice] using key
  | succ n => exact key
theorem splice_all (xs vs : List Value) (h : vs.length = xs.length) : splice xs 0 vs = vs := by simp [splice, h]

theorem asCells_some {n : Nat} {v : Value} {vs : List Value} (h : asCells n v = some vs) : cellsL v = some vs ∧ vs.length = n := by
  unfold asCells at h
  cases hc : cellsL v with
  | none => rw [hc] at h; cases h
  | some us =>
    rw [hc] at h
    simp only at h
    cases hb : us.length == n <;> rw [hb] at h
    · cases h
    · simp at h; subst h; exact ⟨rfl, by simpa using hb⟩

theorem part_sound {b : Bool} {t : TypeId} {n : Nat} {xs : List Value} {ys : Array Value} {off : Nat} {v : Value} (hb : tAgg P t = some b) (hn : tSize P t = some n) (h : Cells M xs ys.toList) (hp : part? b n xs off = some v) :
    ∃ v', VR M false v v' ∧ ∀ w, (part t ys off).run P w = .ok v' w := by
  unfold part? at hp
  cases b with
  | true =>
    simp only [cond_true] at hp
    cases hl : Nat.ble (off + n) xs.length <;> rw [hl] at hp <;> simp only [cond_true, cond_false] at hp
    · cases hp
    · injection hp with hp; subst hp
      have hk := (h.drop off).take n
      have he : (ys.extract off (off + n)).toList = (ys.toList.drop off).take n := by simp [List.extract_eq_take_drop]
      refine ⟨_, Cells.vagg' (ys := ys.extract off (off + n)) (by rw [he]; exact hk), fun w => ?_⟩
      simp [part, run_tAgg hb, run_tSize hn]
  | false =>
    simp only [cond_false] at hp
    have hi : off < ys.size := by
      have := (List.getElem?_eq_some_iff.1 hp).1
      have := h.1
      simp at this
      omega
    have he : ys[off]? = some ys[off] := Array.getElem?_eq_getElem hi
    refine ⟨ys[off], .cell _ _ (h.2 off v _ hp (by simpa using he)), fun w => ?_⟩
    simp [part, run_tAgg hb, he]

/-! ## reading cells -/
theorem run_loadCellsFrom (a : Addr) : ∀ (ys : List Value) (i : Nat) (acc : Array Value) (w : World), (∀ (j : Nat) (v : Value), ys[j]? = some v → w.cell? (a.add (i + j)) = some v) →
    (loadCellsFrom a i ys.length acc).run P w = .ok (acc ++ ys.toArray) w
  | [], i, acc, w, _ => by simp [loadCellsFrom]
  | y :: ys, i, acc, w, h => by
    have h0 := h 0 y rfl
    simp only [Nat.add_zero] at h0
    have ih := run_loadCellsFrom a ys (i + 1) (acc.push y) w (fun j v hv => by
      have := h (j + 1) v (by simpa using hv)
      rwa [show i + (j + 1) = i + 1 + j from by omega] at this)
    simp only [List.length_cons, loadCellsFrom, Sem.run_bind, run_load, h0, Result.andThen_ok, ih]
    simp
theorem run_loadCells (a : Addr) (ys : List Value) (w : World) (h : ∀ (j : Nat) (v : Value), ys[j]? = some v → w.cell? (a.add j) = some v) {n : Nat} (hn : ys.length = n) : (loadCells a n).run P w = .ok ys.toArray w := by
  subst hn
  unfold loadCells
  rw [run_loadCellsFrom a ys 0 #[] w (fun j v hv => by simpa using h j v hv)]
  simp

/-- The cells of the model that a part of an id's cells shows. -/
theorem Shows.row {l : Loc} {o : SObj} {c : List Value} (h : Shows M w l o) (hc : (∃ g, o = .cells c g) ∨ o = .lent c) : ∀ j v, c[j]? = some v → ∃ v', w.cell? ⟨l.block, l.base + j, none⟩ = some v' ∧ VR M true v v' := by
  intro j v hv
  rcases hc with ⟨g, rfl⟩ | rfl
  · obtain ⟨_, arr, e, fz, h2, h3, _⟩ := h
    obtain ⟨v', h4, h5⟩ := h3 j v hv
    exact ⟨v', by simp [World.cell?, h2, h4], h5⟩
  · exact h.2.2 j v hv
/-- What is read from there. -/
theorem read_list {l : Loc} {c : List Value} (h : ∀ (j : Nat) (v : Value), c[j]? = some v → ∃ v', w.cell? ⟨l.block, l.base + j, none⟩ = some v' ∧ VR M true v v') : ∀ (xs : List Value) (o : Nat), (∀ (j : Nat) (v : Value), xs[j]? = some v → c[o + j]? = some v) →
    ∃ ys, Cells M xs ys ∧ ∀ (j : Nat) (v : Value), ys[j]? = some v → w.cell? ⟨l.block, l.base + o + j, none⟩ = some v
  | [], o, _ => ⟨[], Cells.nil, fun j v hv => by simp at hv⟩
  | x :: xs, o, hx => by
    obtain ⟨v', h1, h2⟩ := h o x (by simpa using hx 0 x rfl)
    obtain ⟨ys, h3, h4⟩ := read_list h xs (o + 1) (fun j v hv => by rw [show o + 1 + j = o + (j + 1) from by omega]; exact hx (j + 1) v (by simpa using hv))
    refine ⟨v' :: ys, ⟨by simp [h3.1], fun i a b ha hb => ?_⟩, fun j v hv => ?_⟩
    · cases i with
      | zero => simp at ha hb; subst ha hb; exact h2
      | succ i => exact h3.2 i a b (by simpa using ha) (by simpa using hb)
    · cases j with
      | zero => simp at hv; subst hv; simpa using h1
      | succ j => have := h4 j v (by simpa using hv); rwa [show l.base + (o + 1) + j = l.base + o + (j + 1) from by omega] at this
theorem get_cells {i : Nat} {o : SObj} {c : List Value} (hr : Rel M σ w) (hi : σ.get i = some o) (hc : (∃ g, o = .cells c g) ∨ o = .lent c) {l : Loc} (hl : M i = some l) :
    ∀ (j : Nat) (v : Value), c[j]? = some v → ∃ v', w.cell? ⟨l.block, l.base + j, none⟩ = some v' ∧ VR M true v v' := by
  obtain ⟨l', h1, h2⟩ := hr.shows i o hi
  rw [hl] at h1; cases h1
  exact h2.row hc
theorem add_mk (b o j : Nat) : (⟨b, o, none⟩ : Addr).add j = ⟨b, o + j, none⟩ := Addr.add_lit b o j

theorem load_sound {t : TypeId} {b : Bool} {n : Nat} {x x' v : Value} (hb : tAgg P t = some b) (hn : tSize P t = some n) (hx : VR M false x x') (hr : Rel M σ w) (h : loadV b n x σ.get = some v) :
    ∃ v', VR M false v v' ∧ (Instr.loadAt t x').run P w = .ok v' w := by
  unfold loadV at h
  split at h
  case h_2 => cases h
  rename_i i o
  obtain ⟨_, l, hl, rfl⟩ := VR.ptr_ hx
  have key : ∀ (c : List Value), (∀ (j : Nat) (v : Value), c[j]? = some v → ∃ v', w.cell? ⟨l.block, l.base + j, none⟩ = some v' ∧ VR M true v v') → part? b n c o = some v →
      ∃ v', VR M false v v' ∧ (Instr.loadAt t (.pointer (some ⟨l.block, l.base + o, none⟩))).run P w = .ok v' w := fun c hc hp => by
    unfold part? at hp
    cases b with
    | true =>
      simp only [cond_true] at hp
      cases hle : Nat.ble (o + n) c.length <;> rw [hle] at hp <;> simp only [cond_true, cond_false] at hp
      · cases hp
      injection hp with hp; subst hp
      have hle' := Nat.le_of_ble_eq_true hle
      obtain ⟨ys, h1, h2⟩ := read_list hc ((c.drop o).take n) o (fun j v hv => by
        rw [List.getElem?_take] at hv
        split at hv
        · rwa [List.getElem?_drop] at hv
        · cases hv)
      refine ⟨_, h1.vagg, ?_⟩
      have hlen : ys.length = n := by rw [← h1.1]; simp; omega
      simp [Instr.loadAt, Instr.sureAddr, loadVar, run_tAgg hb, run_tSize hn, run_loadCells ⟨l.block, l.base + o, none⟩ ys w (fun j v hv => by rw [add_mk]; exact h2 j v hv) hlen]
    | false =>
      simp only [cond_false] at hp
      obtain ⟨v', h1, h2⟩ := hc o v hp
      refine ⟨v', .cell _ _ h2, ?_⟩
      simp [Instr.loadAt, Instr.sureAddr, loadVar, run_tAgg hb, h1]
  split at h
  · rename_i c g hg; exact key c (get_cells hr hg (.inl ⟨g, rfl⟩) hl) h
  · rename_i c hg; exact key c (get_cells hr hg (.inr rfl) hl) h
  · cases h
end Go.Am
end
section
/- The abstract machine, part 4: equality and composites are as the model has them. No program in sight. -/
set_option linter.all false
namespace Go.Am
open Go.RowKit
variable {P : Program} {M : Places} {σ : Store} {w : World}

/-! ## equality -/
/-- A value of a type that shows cells. -/
def ValOf (P : Program) (M : Places) (t : TypeId) (xs : List Value) (x' : Value) : Prop :=
  (tAgg P t = some true → ∃ zs, x' = .agg zs ∧ Cells M xs zs.toList) ∧ (tAgg P t = some false → ∃ v us, xs = v :: us ∧ VR M true v x')

theorem tAgg_leaf {t : TypeId} {d : TypeDesc} (h : P.underlying t = some d) (h1 : ∀ fs, d ≠ .struct fs) (h2 : ∀ n e, d ≠ .array n e) : tAgg P t = some false := by
  unfold tAgg
  rw [h]
  cases d <;> first | rfl | (exact absurd rfl (h1 _)) | (exact absurd rfl (h2 _ _))

theorem valOf_part {t : TypeId} {n : Nat} {b : Bool} {xs : List Value} {xs' : Array Value} {off : Nat} (hb : tAgg P t = some b) (hn : tSize P t = some n) (h : Cells M xs xs'.toList)
    (hne : b = false → ∃ v us, (xs.drop off).take n = v :: us) : ∃ x', ValOf P M t ((xs.drop off).take n) x' ∧ ∀ w, (part t xs' off).run P w = .ok x' w := by
  cases b with
  | true =>
    refine ⟨.agg (xs'.extract off (off + n)), ⟨fun _ => ⟨_, rfl, ?_⟩, fun h => by rw [hb] at h; cases h⟩, fun w => by simp [part, run_tAgg hb, run_tSize hn]⟩
    have he : (xs'.extract off (off + n)).toList = (xs'.toList.drop off).take n := by simp [List.extract_eq_take_drop]
    rw [he]; exact (h.drop off).take n
  | false =>
    obtain ⟨v, us, hvu⟩ := hne rfl
    have hv : xs[off]? = some v := by
      have h0 : ((xs.drop off).take n)[0]? = some v := by rw [hvu]; rfl
      rw [List.getElem?_take] at h0
      split at h0
      · rw [List.getElem?_drop] at h0; simpa using h0
      · cases h0
    have hi : off < xs'.size := by
      have := (List.getElem?_eq_some_iff.1 hv).1
      have := h.1
      simp at this
      omega
    have he : xs'[off]? = some xs'[off] := Array.getElem?_eq_getElem hi
    refine ⟨xs'[off], ⟨(fun h => by rw [hb] at h; cases h), fun _ => ⟨v, us, hvu, h.2 off v _ hv (by simpa using he)⟩⟩, fun w => by simp [part, run_tAgg hb, he]⟩

theorem eq1_sound {t : TypeId} {d : TypeDesc} {x y x' y' : Value} {r : Bool} (ht : P.underlying t = some d) (h : eq1 d x y = some r) (hx : VR M true x x') (hy : VR M true y y') (k : Nat) (w : World) :
    (Op.equalIn (k + 1) t x' y').run P w = .ok r w := by
  unfold eq1 at h
  split at h
  · rename_i k0 k1 a k2 b
    cases hx.int_; cases hy.int_
    cases hk : k1 == k2 <;> rw [hk] at h <;> simp at h
    have hk' : k1 = k2 := by simpa using hk
    subst hk'
    rw [run_equalIn_int w k t k1 k0 a b ht, ← h]
  · cases hx.bool_; cases hy.bool_
    cases h
    exact run_equalIn_bool w k t _ _ ht
  · cases hx.string_; cases hy.string_
    cases h
    rw [run_equalIn_string w k t _ _ ht, beq_toListBytes]
  · rename_i b
    cases (VR.scalar_eq rfl hx)
    cases h
    cases b with
    | none => cases (VR.scalar_eq rfl hy); simp [Op.equalIn, run_underlying ht]
    | some b => obtain ⟨_, l, _, rfl⟩ := VR.ptr_ (i := b.block) (o := b.off) (s := b.spot) hy; simp [Op.equalIn, run_underlying ht]
  · rename_i a
    cases (VR.scalar_eq rfl hy)
    cases h
    obtain ⟨_, l, _, rfl⟩ := VR.ptr_ (i := a.block) (o := a.off) (s := a.spot) hx
    simp [Op.equalIn, run_underlying ht]
  · cases h

/-- Equality of one type, at a depth. -/
def EqSound (P : Program) (M : Places) (d : Nat) (eq : TypeId → List Value → List Value → Option Bool) : Prop :=
  ∀ t xs ys r, eq t xs ys = some r → ∀ x' y', ValOf P M t xs x' → ValOf P M t ys y' → ∀ w, (Op.equalIn d t x' y').run P w = .ok r w
/-- Where it comes to something at a leaf there is a cell. -/
def EqFull (P : Program) (eq : TypeId → List Value → List Value → Option Bool) : Prop :=
  ∀ t xs ys r, eq t xs ys = some r → tAgg P t = some false → (∃ v us, xs = v :: us) ∧ ∃ v us, ys = v :: us
def EqTyped (P : Program) (eq : TypeId → List Value → List Value → Option Bool) : Prop := ∀ t xs ys r, eq t xs ys = some r → ∃ b, tAgg P t = some b

theorem eqFs_sound {d : Nat} {eq : TypeId → List Value → List Value → Option Bool} (he : EqSound P M d eq) (hf : EqFull P eq) (hty : EqTyped P eq) {xs ys : List Value} {xs' ys' : Array Value} (hx : Cells M xs xs'.toList) (hy : Cells M ys ys'.toList) :
    ∀ (fs : List Field) (r : Bool), eqFs P eq fs xs ys = some r → ∀ w, (Op.eqFields d xs' ys' fs).run P w = .ok r w
  | [], r, h, w => by simp [eqFs] at h; subst h; simp [Op.eqFields]
  | fl :: fs, r, h, w => by
    unfold eqFs at h
    cases hn : fl.name == "_" <;> rw [hn] at h <;> simp only [cond_true, cond_false] at h
    case true => cases h
    have hn' : fl.name ≠ "_" := by simpa using hn
    cases hs : tSize P fl.type with
    | none => rw [hs] at h; cases h
    | some n =>
      rw [hs] at h
      simp only at h
      cases ha : eq fl.type ((xs.drop fl.offset).take n) ((ys.drop fl.offset).take n) with
      | none => rw [ha] at h; cases h
      | some a =>
        cases hb : eqFs P eq fs xs ys with
        | none => rw [ha, hb] at h; cases h
        | some b =>
          rw [ha, hb] at h
          simp only [Option.some.injEq] at h
          obtain ⟨ag, hag⟩ := hty _ _ _ _ ha
          obtain ⟨x', hx1, hx2⟩ := valOf_part (off := fl.offset) hag hs hx (fun e => (hf _ _ _ _ ha (e ▸ hag)).1)
          obtain ⟨y', hy1, hy2⟩ := valOf_part (off := fl.offset) hag hs hy (fun e => (hf _ _ _ _ ha (e ▸ hag)).2)
          have h1 := he _ _ _ _ ha x' y' hx1 hy1 w
          have h2 := eqFs_sound he hf hty hx hy fs b hb w
          simp only [Op.eqFields, hn', ne_eq, not_false_eq_true, if_true, Sem.run_bind, hx2, hy2, Result.andThen_ok, h1]
          cases a
          · simp at h; subst h; simp
          · simp at h; subst h; simpa using h2
theorem eqIs_sound {d : Nat} {e : TypeId} {c : Nat} {eq : TypeId → List Value → List Value → Option Bool} (he : EqSound P M d eq) (hf : EqFull P eq) (hc : tSize P e = some c) {b : Bool} (hag : tAgg P e = some b) {xs ys : List Value} {xs' ys' : Array Value} (hx : Cells M xs xs'.toList) (hy : Cells M ys ys'.toList) :
    ∀ (n k : Nat) (r : Bool), eqIs (eq e) c n (xs.drop (k * c)) (ys.drop (k * c)) = some r → ∀ w, (Op.eqItems d e c xs' ys' (List.range' k n)).run P w = .ok r w
  | 0, k, r, h, w => by simp [eqIs] at h; subst h; simp [Op.eqItems]
  | n + 1, k, r, h, w => by
    unfold eqIs at h
    rw [List.drop_drop, List.drop_drop, show k * c + c = (k + 1) * c from by rw [Nat.add_mul]; omega] at h
    cases ha : eq e ((xs.drop (k * c)).take c) ((ys.drop (k * c)).take c) with
    | none => rw [ha] at h; cases h
    | some a =>
      cases hb : eqIs (eq e) c n (xs.drop ((k + 1) * c)) (ys.drop ((k + 1) * c)) with
      | none => rw [ha, hb] at h; cases h
      | some b =>
        rw [ha, hb] at h
        simp only [Option.some.injEq] at h
        obtain ⟨x', hx1, hx2⟩ := valOf_part (off := k * c) hag hc hx (fun e => (hf _ _ _ _ ha (e ▸ hag)).1)
        obtain ⟨y', hy1, hy2⟩ := valOf_part (off := k * c) hag hc hy (fun e => (hf _ _ _ _ ha (e ▸ hag)).2)
        have h1 := he _ _ _ _ ha x' y' hx1 hy1 w
        have h2 := eqIs_sound he hf hc hag hx hy n (k + 1) b hb w
        rw [List.range'_succ]
        simp only [Op.eqItems, Sem.run_bind, hx2, hy2, Result.andThen_ok, h1]
        cases a
        · simp at h; subst h; simp
        · simp at h; subst h; simpa using h2
theorem eqInts_sound {d : Nat} {e : TypeId} {k : IntKind} (hu : P.underlying e = some (.int k)) {xs ys : List Value} {xs' ys' : Array Value} (hx : Cells M xs xs'.toList) (hy : Cells M ys ys'.toList) :
    ∀ (n j : Nat) (r : Bool), eqInts k n (xs.drop j) (ys.drop j) = some r → ∀ w, (Op.eqItems (d + 1) e 1 xs' ys' (List.range' j n)).run P w = .ok r w
  | 0, j, r, h, w => by simp [eqInts] at h; subst h; simp [Op.eqItems]
  | n + 1, j, r, h, w => by
    cases hxs : xs.drop j with
    | nil => rw [hxs] at h; simp [eqInts] at h
    | cons x us =>
      cases hys : ys.drop j with
      | nil => rw [hxs, hys] at h; cases x <;> simp [eqInts] at h
      | cons y vs =>
        rw [hxs, hys] at h
        have hx1 : xs.drop (j + 1) = us := by rw [← List.drop_drop, hxs]; rfl
        have hy1 : ys.drop (j + 1) = vs := by rw [← List.drop_drop, hys]; rfl
        have hform : ∃ j1 a j2 b, x = .int j1 a ∧ y = .int j2 b := by
          cases x <;> first | (simp [eqInts] at h; done) | skip
          cases y <;> first | (simp [eqInts] at h; done) | skip
          exact ⟨_, _, _, _, rfl, rfl⟩
        obtain ⟨j1, a, j2, b, rfl, rfl⟩ := hform
        unfold eqInts at h
        · 
          cases hj : (j1 == k && j2 == k) <;> rw [hj] at h <;> simp only [cond_true, cond_false] at h
          · cases h
          simp only [Bool.and_eq_true, beq_iff_eq] at hj
          obtain ⟨hj1, hj2⟩ := hj
          subst hj1
          subst hj2
          cases hr : eqInts j2 n us vs with
          | none => rw [hr] at h; cases h
          | some b0 =>
            rw [hr] at h
            simp only [Option.some.injEq] at h
            have hag : tAgg P e = some false := tAgg_leaf hu (by simp) (by simp)
            have gx : xs[j]? = some (Value.int j2 a) := by
              have : (xs.drop j)[0]? = some (Value.int j2 a) := by rw [hxs]; rfl
              simpa using this
            have gy : ys[j]? = some (Value.int j2 b) := by
              have : (ys.drop j)[0]? = some (Value.int j2 b) := by rw [hys]; rfl
              simpa using this
            have fx : xs'[j]? = some (Value.int j2 a) := by
              have hi : j < xs'.size := by have := (List.getElem?_eq_some_iff.1 gx).1; have := hx.1; simp at this; omega
              have := hx.2 j _ xs'[j] gx (by rw [Array.getElem?_toList]; exact Array.getElem?_eq_getElem hi)
              rw [Array.getElem?_eq_getElem hi, this.int_]
            have fy : ys'[j]? = some (Value.int j2 b) := by
              have hi : j < ys'.size := by have := (List.getElem?_eq_some_iff.1 gy).1; have := hy.1; simp at this; omega
              have := hy.2 j _ ys'[j] gy (by rw [Array.getElem?_toList]; exact Array.getElem?_eq_getElem hi)
              rw [Array.getElem?_eq_getElem hi, this.int_]
            have h2 := eqInts_sound (d := d) hu hx hy n (j + 1) b0 (by rw [hx1, hy1]; exact hr) w
            rw [List.range'_succ]
            simp only [Op.eqItems, Sem.run_bind, part, run_tAgg hag, Result.andThen_ok, Bool.false_eq_true, if_false, Nat.mul_one, fx, fy, Sem.run_pure, run_equalIn_int w d e j2 j2 a b hu]
            by_cases hab : a = b
            · subst hab
              simp at h; subst h
              simpa using h2
            · simp [hab] at h; subst h
              simp [hab]

theorem eqL_typed (f : Nat) : EqTyped P (eqL P f) := by
  intro t xs ys r h
  cases f with
  | zero => cases h
  | succ f =>
    unfold eqL at h
    unfold tAgg
    cases hu : P.underlying t with
    | none => rw [hu] at h; cases h
    | some d => cases d <;> simp
theorem eqL_full (f : Nat) : EqFull P (eqL P f) := by
  intro t xs ys r h hl
  cases f with
  | zero => cases h
  | succ f =>
    unfold eqL at h
    unfold tAgg at hl
    cases hu : P.underlying t with
    | none => rw [hu] at hl; cases hl
    | some d =>
      rw [hu] at h hl
      cases d <;> simp at hl <;>
        (simp only at h
         unfold eqLeaf at h
         split at h
         · exact ⟨⟨_, _, rfl⟩, _, _, rfl⟩
         · cases h)
theorem run_tSize_info {t : TypeId} {n : Nat} (h : tSize P t = some n) : ∃ i, P.info? t = some i ∧ P.cellsOf t = n := by
  unfold tSize at h
  cases hi : P.info? t with
  | none => rw [hi] at h; cases h
  | some i => rw [hi] at h; simp at h; exact ⟨i, rfl, by simp [Program.cellsOf, hi, h]⟩
theorem eqL_sound : ∀ (f d : Nat), f < d → EqSound P M d (eqL P f)
  | 0, d, _, t, xs, ys, r, h, _, _, _, _, _ => by cases h
  | f + 1, 0, hfd, _, _, _, _, _, _, _, _, _, _ => by omega
  | f + 1, d + 1, hfd, t, xs, ys, r, h, x', y', hx, hy, w => by
    unfold eqL at h
    cases hu : P.underlying t with
    | none => rw [hu] at h; cases h
    | some de =>
      rw [hu] at h
      have leaf : (∀ fs, de ≠ .struct fs) → (∀ n e, de ≠ .array n e) → eqLeaf de xs ys = some r → (Op.equalIn (d + 1) t x' y').run P w = .ok r w := fun h1 h2 h3 => by
        have ha := tAgg_leaf hu h1 h2
        obtain ⟨v, us, rfl, hv⟩ := hx.2 ha
        obtain ⟨u, vs, rfl, hv'⟩ := hy.2 ha
        exact eq1_sound hu h3 hv hv' d w
      cases de with
      | struct fs =>
        simp only at h
        have ha : tAgg P t = some true := by unfold tAgg; rw [hu]
        obtain ⟨zs, rfl, hz⟩ := hx.1 ha
        obtain ⟨zs', rfl, hz'⟩ := hy.1 ha
        cases hp : P.stoodInHeld t <;> rw [hp] at h <;> simp only [cond_true, cond_false] at h
        case true => cases h
        have hfo : P.fieldsOf t = fs := by simp [Program.fieldsOf, hu]
        rw [run_equalIn_struct w d t zs zs' (by rw [hfo]; exact hu) hp, hfo]
        exact eqFs_sound (eqL_sound f d (by omega)) (eqL_full f) (eqL_typed f) hz hz' fs.toList r h w
      | array n e =>
        simp only at h
        have ha : tAgg P t = some true := by unfold tAgg; rw [hu]
        obtain ⟨zs, rfl, hz⟩ := hx.1 ha
        obtain ⟨zs', rfl, hz'⟩ := hy.1 ha
        cases hue : P.underlying e with
        | none => rw [hue] at h; cases h
        | some de =>
          cases hse : tSize P e with
          | none => rw [hue, hse] at h; cases de <;> cases h
          | some c =>
            rw [hue, hse] at h
            obtain ⟨i, hi, hc⟩ := run_tSize_info hse
            rw [run_equalIn_array w d zs zs' hu hi, hc, List.range_eq_range']
            obtain ⟨b, hb⟩ : ∃ b, tAgg P e = some b := by unfold tAgg; rw [hue]; cases de <;> simp
            have gen : eqIs (eqL P f e) c n xs ys = some r → (Op.eqItems d e c zs zs' (List.range' 0 n)).run P w = .ok r w := fun h =>
              eqIs_sound (eqL_sound f d (by omega)) (eqL_full f) hse hb hz hz' n 0 r (by simpa using h) w
            split at h
            · rename_i k e1 e2
              cases e1
              cases e2
              cases n with
              | zero => simp [eqInts] at h; subst h; simp [Op.eqItems]
              | succ n =>
                cases d with
                | zero => omega
                | succ d => exact eqInts_sound hue hz hz' (n + 1) 0 r (by simpa using h) w
            · rename_i e1 e2
              cases e2
              exact gen h
            · cases h
      | _ => exact leaf (by simp) (by simp) h
end Go.Am
end
section
/- The abstract machine, part 5: operations that make values are as the model has them. No program in sight. -/
set_option linter.all false
namespace Go.Am
open Go.RowKit
variable {P : Program} {M : Places} {σ : Store} {w : World}

theorem eq1_cells {d : TypeDesc} {x y : Value} {r : Bool} (h : eq1 d x y = some r) : cell1 x = true ∧ cell1 y = true := by
  unfold eq1 at h
  split at h <;> first | exact ⟨rfl, rfl⟩ | (exfalso; cases h; done)
theorem eqV_sound_at {t : TypeId} {x y x' y' : Value} {r : Bool} (h : eqV P t x y = some r) (hx : VR M false x x') (hy : VR M false y y') (d : Nat) (hd : eqFuel < d + 1) : ∀ w, (Op.equalIn (d + 1) t x' y').run P w = .ok r w := by
  intro w
  unfold eqV at h
  have sc : ∀ {a a' : Value}, scalar a = true → VR M false a a' → a' = a := fun hs h => VR.scalar_eq hs h
  have slv : ∀ {a n c v'}, VR M false (.slice (some a) n c) v' → ∃ a' n' c', v' = .slice (some a') n' c' := fun {a n c v'} h => by
    obtain ⟨l, c', _, rfl, _⟩ := VR.slice_ (i := a.block) (o := a.off) (s := a.spot) h
    exact ⟨_, _, _, rfl⟩
  split at h
  · rename_i e n c b n2 c2 hu
    have := sc (a := .slice none n c) rfl hx; subst this
    cases h
    cases b with
    | none => have := sc (a := .slice none n2 c2) rfl hy; subst this; simp [Op.equalIn, run_underlying hu]
    | some b => obtain ⟨a', n', c', rfl⟩ := slv hy; simp [Op.equalIn, run_underlying hu]
  · rename_i e a n c n2 c2 hu
    have := sc (a := .slice none n2 c2) rfl hy; subst this
    cases h
    obtain ⟨a', n', c', rfl⟩ := slv hx
    simp [Op.equalIn, run_underlying hu]
  · rename_i k e b hu
    have := sc (a := .map none) rfl hx; subst this
    cases h
    cases b with
    | none => have := sc (a := .map none) rfl hy; subst this; simp [Op.equalIn, run_underlying hu]
    | some b => obtain ⟨l, _, rfl⟩ := VR.map_ hy; simp [Op.equalIn, run_underlying hu]
  · rename_i k e b hu
    have := sc (a := .map none) rfl hy; subst this
    cases h
    obtain ⟨l, _, rfl⟩ := VR.map_ hx
    simp [Op.equalIn, run_underlying hu]
  · rename_i hu
    have := sc (a := .nilFunc) rfl hx; subst this
    have := sc (a := .nilFunc) rfl hy; subst this
    cases h
    simp [Op.equalIn, run_underlying hu]
  · rename_i hu
    have := sc (a := .nilFunc) rfl hx; subst this
    obtain ⟨f, xs', ys', _, rfl, _⟩ := VR.func_ hy
    cases h
    simp [Op.equalIn, run_underlying hu]
  · rename_i hu
    have := sc (a := .nilFunc) rfl hy; subst this
    obtain ⟨f, xs', ys', _, rfl, _⟩ := VR.func_ hx
    cases h
    simp [Op.equalIn, run_underlying hu]
  · rename_i fs xs ys hu
    have ha : tAgg P t = some true := by unfold tAgg; rw [hu]
    obtain ⟨zs, rfl, _⟩ := VR.agg_ hx
    obtain ⟨zs', rfl, _⟩ := VR.agg_ hy
    exact eqL_sound eqFuel (d + 1) hd t _ _ r h _ _ ⟨fun _ => ⟨zs, rfl, Cells.of_agg hx⟩, fun e => by rw [ha] at e; cases e⟩ ⟨fun _ => ⟨zs', rfl, Cells.of_agg hy⟩, fun e => by rw [ha] at e; cases e⟩ w
  · rename_i n e xs ys hu
    have ha : tAgg P t = some true := by unfold tAgg; rw [hu]
    obtain ⟨zs, rfl, _⟩ := VR.agg_ hx
    obtain ⟨zs', rfl, _⟩ := VR.agg_ hy
    exact eqL_sound eqFuel (d + 1) hd t _ _ r h _ _ ⟨fun _ => ⟨zs, rfl, Cells.of_agg hx⟩, fun e => by rw [ha] at e; cases e⟩ ⟨fun _ => ⟨zs', rfl, Cells.of_agg hy⟩, fun e => by rw [ha] at e; cases e⟩ w
  · rename_i de hu _ _ _ _ _ _ _ _ _
    have hc := eq1_cells h
    exact eq1_sound hu h (hx.true_of hc.1) (hy.true_of hc.2) d w
  · cases h
theorem eqV_sound {t : TypeId} {x y x' y' : Value} {r : Bool} (h : eqV P t x y = some r) (hx : VR M false x x') (hy : VR M false y y') : ∀ w, (Op.equal t x' y').run P w = .ok r w := eqV_sound_at h hx hy 9999 (by decide)

theorem run_eqGuard_agg {op : BinOp} {t : TypeId} {x y : Operand} {xs ys : Array Value} (h : P.eqGuardType P.depth t = false) (w : World) : (eqGuard op t x y (.agg xs) (.agg ys)).run P w = .ok () w := by
  unfold eqGuard
  cases op <;> simp [h]

def guardOk (P : Program) (op : BinOp) (t : TypeId) : Bool :=
  match op with
  | .eql | .neq => !P.eqGuardType P.depth t
  | _ => true

theorem run_eqGuard {op : BinOp} {t : TypeId} {x y : Operand} {a b : Value} (h : guardOk P op t = true) (ha : a ≠ .nilIface) (w : World) : (eqGuard op t x y a b).run P w = .ok () w := by
  cases a with
  | agg xs =>
    cases b with
    | agg ys =>
      cases op <;> first
        | rfl
        | (exact run_eqGuard_agg (by simpa [guardOk] using h) w)
    | _ => cases op <;> rfl
  | nilIface => exact absurd rfl ha
  | _ => cases op <;> rfl

theorem intOp_sound {op : BinOp} {t : TypeId} {k : IntKind} {a b : Int} {v : Value} (h1 : op ≠ .shl) (h2 : op ≠ .shr) (h : intOp op k a b = some v) (w : World) : (binOp op t (.int k a) (.int k b)).run P w = .ok v w ∧ scalar v = true := by
  cases op <;> simp only [intOp, Option.some.injEq, reduceCtorEq] at h <;> first
    | exact absurd rfl h1
    | exact absurd rfl h2
    | (subst h; exact ⟨by simp [binOp, Op.intArith, Op.intBits, Op.intCmp], rfl⟩)
    | (split at h
       · cases h
       · rename_i hb
         cases h
         exact ⟨by simp [binOp, Op.intDiv, hb], rfl⟩)
theorem shiftOp_sound {op : BinOp} {t : TypeId} {k k' : IntKind} {a b : Int} {v : Value} (h : shiftOp op k a b = some v) (w : World) : (binOp op t (.int k a) (.int k' b)).run P w = .ok v w ∧ scalar v = true := by
  unfold shiftOp at h
  split at h
  · cases h
  rename_i hb
  cases op <;> simp only [Option.some.injEq, reduceCtorEq] at h <;> subst h <;> exact ⟨by simp [binOp, Op.shift, hb], rfl⟩
theorem strOp_sound {op : BinOp} {t : TypeId} {a b : ByteArray} {v : Value} (h : strOp op a b = some v) (w : World) : (binOp op t (.string a) (.string b)).run P w = .ok v w ∧ scalar v = true := by
  unfold strOp at h
  split at h
  · split at h
    · cases h
    · rename_i hb
      cases h
      exact ⟨by simp only [binOp, Op.stringOp]; rw [if_neg hb]; rfl, rfl⟩
  all_goals (first | (cases h; exact ⟨by simp [binOp, Op.stringOp], rfl⟩) | cases h)

/-- Values that == takes by their type. -/
def eqHead : Value → Bool
  | .bool _ | .pointer _ | .slice .. | .map _ | .func .. | .nilFunc | .agg _ => true
  | _ => false
theorem VR.eqHead {x x' : Value} (h : VR M false x x') (hx : eqHead x = true) : Am.eqHead x' = true := by
  cases h with
  | cell _ _ h => cases h with
    | scalar v hs => exact hx
    | iface t v v' h => cases hx
    | _ => rfl
  | agg => rfl
  | tuple => cases hx
  | junk => cases hx
  | gone => cases hx
theorem eqV_head {t : TypeId} {x y : Value} {r : Bool} (h : eqV P t x y = some r) (hi : ∀ k a k' b, x = .int k a → y = .int k' b → False) (hs : ∀ a b, x = .string a → y = .string b → False) : Am.eqHead x = true := by
  unfold eqV at h
  split at h <;> first | rfl | skip
  · unfold eq1 at h
    split at h <;> first | rfl | (exfalso; exact hi _ _ _ _ rfl rfl) | (exfalso; exact hs _ _ rfl rfl) | cases h
  · cases h
theorem run_binOp_eq {t : TypeId} {x y : Value} (hx : Am.eqHead x = true) (w : World) : (binOp .eql t x y).run P w = ((Op.equal t x y).run P w).andThen fun b w' => .ok (.bool b) w' := by
  cases x <;> first | (cases hx; done) | (simp [binOp])
theorem run_binOp_ne {t : TypeId} {x y : Value} (hx : Am.eqHead x = true) (w : World) : (binOp .neq t x y).run P w = ((Op.equal t x y).run P w).andThen fun b w' => .ok (.bool (!b)) w' := by
  cases x <;> first | (cases hx; done) | (simp [binOp])
theorem eqP_sound_at (d : Nat) {i j o o' : Nat} {s s' : Option Nat} {x' y' : Value} {r : Bool} (hr : Rel M σ w) (hx : VR M false (.pointer (some ⟨i, o, s⟩)) x') (hy : VR M false (.pointer (some ⟨j, o', s'⟩)) y') (h : eqP ⟨i, o, s⟩ ⟨j, o', s'⟩ σ.get = some r)
    {t el : TypeId} {n : Nat} (hu : P.underlying t = some (.pointer el)) (hn : tSize P el = some (n + 1)) : (Op.equalIn (d + 1) t x' y').run P w = .ok r w := by
  obtain ⟨rfl, l, hl, rfl⟩ := VR.ptr_ hx
  obtain ⟨rfl, l', hl', rfl⟩ := VR.ptr_ hy
  unfold eqP at h
  simp only [Option.isSome_none, Bool.or_self, cond_false] at h
  split at h
  · rename_i c c' hi hj
    injection h with h
    obtain ⟨m, hm, hs⟩ := hr.shows i _ hi
    rw [hl] at hm; cases hm
    obtain ⟨m, hm, hs'⟩ := hr.shows j _ hj
    rw [hl'] at hm; cases hm
    obtain ⟨_, arr, e, fz, h2, _, h4, _⟩ := hs
    obtain ⟨_, arr', e', fz', h2', _, h4', _⟩ := hs'
    have hfz : fz = (0, 0) := h4.resolve_right (fun h => h.1 rfl)
    have hfz' : fz' = (0, 0) := h4'.resolve_right (fun h => h.1 rfl)
    subst hfz hfz'
    simp only [Op.equalIn, Sem.run_bind, run_underlying hu, Result.andThen_ok, run_tSize hn]
    simp only [ne_eq, Nat.add_eq_zero_iff, Nat.one_ne_zero, and_false, not_false_eq_true, if_true]
    by_cases hij : i = j
    · subst hij
      rw [hl] at hl'; cases hl'
      simp only [beq_self_eq_true, Bool.true_and] at h
      subst h
      simp only [sameAddr, beq_self_eq_true, if_true, Sem.run_pure]
      have hb : ((⟨l.block, l.base + o, none⟩ : Addr) == ⟨l.block, l.base + o', none⟩) = (o == o') := by
        by_cases ho : o = o'
        · subst ho; simp
        · rw [beq_eq_false_iff_ne.2 ho, beq_eq_false_iff_ne]
          intro h
          injection h with _ h
          omega
      rw [hb]
    · have hne := hr.apart i j _ _ l l' hi hj rfl hij hl hl'
      have hb : (i == j) = false := by simpa using hij
      rw [hb, Bool.false_and] at h
      subst h
      have hb' : (l.block == l'.block) = false := by simpa using hne
      have f1 : ∀ o, w.frozen? ⟨l.block, o, none⟩ = false := fun o => by simp [World.frozen?, h2]
      have f2 : ∀ o, w.frozen? ⟨l'.block, o, none⟩ = false := fun o => by simp [World.frozen?, h2']
      have s1 : w.shape? l.block = some (e, arr.size) := by simp [World.shape?, h2]
      have s2 : w.shape? l'.block = some (e', arr'.size) := by simp [World.shape?, h2']
      simp [sameAddr, hb', f1, f2, noView, viewAt, s1, s2, mayBeOne, stringish]
  · cases h

theorem eqP_sound {i j o o' : Nat} {s s' : Option Nat} {x' y' : Value} {r : Bool} (hr : Rel M σ w) (hx : VR M false (.pointer (some ⟨i, o, s⟩)) x') (hy : VR M false (.pointer (some ⟨j, o', s'⟩)) y') (h : eqP ⟨i, o, s⟩ ⟨j, o', s'⟩ σ.get = some r)
    {t el : TypeId} {n : Nat} (hu : P.underlying t = some (.pointer el)) (hn : tSize P el = some (n + 1)) : (Op.equal t x' y').run P w = .ok r w := eqP_sound_at 9999 hr hx hy h hu hn

theorem bin_sound {op : BinOp} {t yt : TypeId} {x y : Operand} {e ρ : Operand → Value} {A : Action} (hg : guardOk P op t = true) (hx : VR M false (e x) (ρ x)) (hy : VR M false (e y) (ρ y)) (h : binA P op t (e x) (e y) = some A)
    (o : Oper) (ho : o.op = .binOp op t x y yt) : Sound P M (execOp ρ o) A := by
  have hrun : ρ x ≠ .nilIface → ∀ w, (execOp ρ o).run P w = ((binOp op t (ρ x) (ρ y)).run P w).andThen fun a w' => .ok (.value a) w' := fun hne w => by
    simp [execOp, ho, run_eqGuard hg hne w]
  have direct : ∀ (v : Value), (∀ w, (binOp op t (ρ x) (ρ y)).run P w = .ok v w ∧ scalar v = true) → ρ x ≠ .nilIface → Sound P M (execOp ρ o) (.val v) := fun v hv hne =>
    ⟨v, .cell _ _ (.scalar v (hv default).2), fun w => by rw [hrun hne w, (hv w).1]; rfl⟩
  unfold binA at h
  split at h
  · rename_i k a k' b e1 e2
    rw [e1] at hx; rw [e2] at hy
    have ex := hx.int_; have ey := hy.int_
    cases hs : shiftOp .shl k a b with
    | none => rw [hs] at h; cases h
    | some v => rw [hs] at h; cases h; exact direct v (fun w => by rw [ex, ey]; exact shiftOp_sound hs w) (by rw [ex]; simp)
  · rename_i k a k' b e1 e2
    rw [e1] at hx; rw [e2] at hy
    have ex := hx.int_; have ey := hy.int_
    cases hs : shiftOp .shr k a b with
    | none => rw [hs] at h; cases h
    | some v => rw [hs] at h; cases h; exact direct v (fun w => by rw [ex, ey]; exact shiftOp_sound hs w) (by rw [ex]; simp)
  · rename_i op1 op2 x2 y2 k a k' b n1 n2 e1 e2
    rw [e1] at hx; rw [e2] at hy
    have ex := hx.int_; have ey := hy.int_
    cases hk : k == k' <;> rw [hk] at h <;> simp only [cond_true, cond_false] at h
    · cases h
    have hk' : k = k' := by simpa using hk
    subst hk'
    cases hs : intOp op1 k a b with
    | none => rw [hs] at h; cases h
    | some v =>
      rw [hs] at h; cases h
      exact direct v (fun w => by rw [ex, ey]; exact intOp_sound n1 n2 hs w) (by rw [ex]; simp)
  · rename_i op1 op2 x2 y2 a b e1 e2
    rw [e1] at hx; rw [e2] at hy
    have ex := hx.string_; have ey := hy.string_
    cases hs : strOp op1 a b with
    | none => rw [hs] at h; cases h
    | some v => rw [hs] at h; cases h; exact direct v (fun w => by rw [ex, ey]; exact strOp_sound hs w) (by rw [ex]; simp)
  · rename_i x2 y2 a b e1 e2
    rw [e1] at hx; rw [e2] at hy
    obtain ⟨i, oi, si⟩ := a
    obtain ⟨j, oj, sj⟩ := b
    split at h
    · rename_i el hu
      split at h
      · rename_i n hn
        cases h
        intro σ w v hr hv
        replace hv : Option.map Value.bool (eqP ⟨i, oi, si⟩ ⟨j, oj, sj⟩ σ.get) = some v := hv
        cases hq : eqP ⟨i, oi, si⟩ ⟨j, oj, sj⟩ σ.get with
        | none => rw [hq] at hv; cases hv
        | some r =>
          rw [hq] at hv; cases hv
          refine ⟨.bool r, .cell _ _ (.scalar _ rfl), ?_⟩
          obtain ⟨_, l, _, hx'⟩ := VR.ptr_ hx
          obtain ⟨_, l', _, hy'⟩ := VR.ptr_ hy
          have h0 := eqP_sound hr hx hy hq hu hn
          rw [hrun (by rw [hx']; simp) w]
          rw [hx', hy'] at h0 ⊢
          simp [binOp, h0]
      · cases h
    · cases h
  · rename_i x2 y2 a b e1 e2
    rw [e1] at hx; rw [e2] at hy
    obtain ⟨i, oi, si⟩ := a
    obtain ⟨j, oj, sj⟩ := b
    split at h
    · rename_i el hu
      split at h
      · rename_i n hn
        cases h
        intro σ w v hr hv
        replace hv : Option.map (fun r => Value.bool !r) (eqP ⟨i, oi, si⟩ ⟨j, oj, sj⟩ σ.get) = some v := hv
        cases hq : eqP ⟨i, oi, si⟩ ⟨j, oj, sj⟩ σ.get with
        | none => rw [hq] at hv; cases hv
        | some r =>
          rw [hq] at hv; cases hv
          refine ⟨.bool (!r), .cell _ _ (.scalar _ rfl), ?_⟩
          obtain ⟨_, l, _, hx'⟩ := VR.ptr_ hx
          obtain ⟨_, l', _, hy'⟩ := VR.ptr_ hy
          have h0 := eqP_sound hr hx hy hq hu hn
          rw [hrun (by rw [hx']; simp) w]
          rw [hx', hy'] at h0 ⊢
          simp [binOp, h0]
      · cases h
    · cases h
  · rename_i x2 y2 n1 n2 n3
    cases hq : eqV P t (e x) (e y) with
    | none => rw [hq] at h; cases h
    | some r =>
      rw [hq] at h; cases h
      have hh := VR.eqHead hx (eqV_head hq (fun k a k' b h1 h2 => n1 k a k' b h1 h2) (fun a b h1 h2 => n2 a b h1 h2))
      exact direct (.bool r) (fun w => by rw [run_binOp_eq hh, eqV_sound hq hx hy w]; exact ⟨rfl, rfl⟩) (fun h0 => by rw [h0] at hh; cases hh)
  · rename_i x2 y2 n1 n2 n3
    cases hq : eqV P t (e x) (e y) with
    | none => rw [hq] at h; cases h
    | some r =>
      rw [hq] at h; cases h
      have hh := VR.eqHead hx (eqV_head hq (fun k a k' b h1 h2 => n1 k a k' b h1 h2) (fun a b h1 h2 => n2 a b h1 h2))
      exact direct (.bool !r) (fun w => by rw [run_binOp_ne hh, eqV_sound hq hx hy w]; exact ⟨rfl, rfl⟩) (fun h0 => by rw [h0] at hh; cases hh)
  · cases h
end Go.Am
end
