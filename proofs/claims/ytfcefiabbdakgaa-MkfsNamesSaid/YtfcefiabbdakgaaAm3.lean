/- The abstract machine, part 3: reading, and what makes values, is as the model has it. No program in sight. -/
import Derived.Test.YtfcefiabbdakgaaAm2
set_option linter.all false
namespace Go.Am
open Go.RowKit
variable {P : Program} {M : Places} {σ : Store} {w : World}

def VRs (M : Places) (xs : List Value) (ys : Array Value) : Prop := xs.length = ys.size ∧ ∀ (i : Nat) (v v' : Value), xs[i]? = some v → ys[i]? = some v' → VR M false v v'
theorem VRs.mono {N : Places} (hm : M.le N) {xs : List Value} {ys : Array Value} (h : VRs M xs ys) : VRs N xs ys := ⟨h.1, fun i v v' a b => (h.2 i v v' a b).mono hm⟩

/-- What an action says of an operation of the model. -/
def Sound (P : Program) (M : Places) (n : Sem Next) : Action → Prop
  | .val v => ∃ v', VR M false v v' ∧ ∀ w, n.run P w = .ok (.value v') w
  | .rd f => ∀ σ w v, Rel M σ w → f σ.get = some v → ∃ v', VR M false v v' ∧ n.run P w = .ok (.value v') w
  | .new o mk => o.own = true ∧ ∀ w, ∃ v' l w' x, n.run P w = .ok (.value v') w' ∧ w'.heap = w.heap.push x ∧ l.block = w.heap.size ∧ Shows M w' l o ∧ (∀ N i, N i = some l → VR N false (mk i) v') ∧ w'.os = w.os ∧ w'.tape = w.tape ∧ w'.output = w.output
  | .eff f => ∀ σ w v σ', Rel M σ w → f σ = some (v, σ') → ∃ M' n' w' v', n.run P w = .ok n' w' ∧ (n' = .value v' ∨ (n' = .skip ∧ v' = undef)) ∧ VR M' false v v' ∧ Rel M' σ' w' ∧ Step σ M w σ' M' w'
  | .call f args => ∃ cargs, VRs M args cargs ∧ ∀ w, n.run P w = .ok (.enter f cargs) w

theorem run_tAgg {t : TypeId} {b : Bool} (h : tAgg P t = some b) (w : World) : (isAgg t).run P w = .ok b w := by
  unfold tAgg at h
  unfold isAgg
  cases hu : P.underlying t with
  | none => rw [hu] at h; cases h
  | some d => rw [hu] at h; cases d <;> simp_all [run_underlying hu]
theorem run_tSize {t : TypeId} {n : Nat} (h : tSize P t = some n) (w : World) : (sizeOf t).run P w = .ok n w := by
  unfold tSize at h
  cases hi : P.info? t with
  | none => rw [hi] at h; cases h
  | some i => rw [hi] at h; simp at h; subst h; simp [sizeOf, typeInfo, hi]
theorem run_tBytes {t : TypeId} {n : Nat} (h : tBytes P t = some n) (w : World) : ∃ i, P.info? t = some i ∧ i.bytes = n ∧ (typeInfo t).run P w = .ok i w := by
  unfold tBytes at h
  cases hi : P.info? t with
  | none => rw [hi] at h; cases h
  | some i => rw [hi] at h; simp at h; exact ⟨i, rfl, h, by simp [typeInfo, hi]⟩
theorem run_tZero {t : TypeId} {z : Value} (h : tZero P t = some z) (w : World) : (zeroValue t).run P w = .ok z w := by
  unfold tZero at h
  cases hi : P.info? t with
  | none => rw [hi] at h; cases h
  | some i => rw [hi] at h; simp at h; simp [zeroValue, typeInfo, hi, h]

theorem cellsL_eq {v : Value} {xs : List Value} (h : cellsL v = some xs) : v.cells = xs.toArray := by
  cases v with
  | chan x => cases x <;> simp [cellsL] at h <;> subst h <;> simp [Value.cells]
  | _ => simp [cellsL] at h <;> subst h <;> simp [Value.cells]

/-! ## lists -/
theorem getElem?_splice (xs vs : List Value) (off j : Nat) (h : off + vs.length ≤ xs.length) : (splice xs off vs)[j]? = if off ≤ j ∧ j < off + vs.length then vs[j - off]? else xs[j]? := by
  have key : (xs.take off ++ vs ++ xs.drop (off + vs.length))[j]? = if off ≤ j ∧ j < off + vs.length then vs[j - off]? else xs[j]? := by
    rw [List.append_assoc, List.getElem?_append, List.getElem?_append, List.length_take, Nat.min_eq_left (by omega)]
    by_cases h1 : j < off
    · rw [if_pos h1, if_neg (by omega), List.getElem?_take, if_pos h1]
    · rw [if_neg h1]
      by_cases h2 : j < off + vs.length
      · rw [if_pos (by omega), if_pos ⟨by omega, h2⟩]
      · rw [if_neg (by omega), if_neg (by omega), List.getElem?_drop]
        congr 1; omega
  cases off with
  | zero => simpa [splice] using key
  | succ n => exact key
theorem length_splice (xs vs : List Value) (off : Nat) (h : off + vs.length ≤ xs.length) : (splice xs off vs).length = xs.length := by
  cases off with
  | zero => simp [splice]; omega
  | succ n => simp [splice]; omega
theorem splice_all (xs vs : List Value) (h : vs.length = xs.length) : splice xs 0 vs = vs := by simp [splice, h]

theorem asCells_some {n : Nat} {v : Value} {vs : List Value} (h : asCells n v = some vs) : cellsL v = some vs ∧ vs.length = n := by
  unfold asCells at h
  cases hc : cellsL v with
  | none => rw [hc] at h; cases h
  | some us =>
    rw [hc] at h
    simp only at h
    cases hb : us.length == n <;> rw [hb] at h
    · cases h
    · simp at h; subst h; exact ⟨rfl, by simpa using hb⟩

theorem part_sound {b : Bool} {t : TypeId} {n : Nat} {xs : List Value} {ys : Array Value} {off : Nat} {v : Value} (hb : tAgg P t = some b) (hn : tSize P t = some n) (h : Cells M xs ys.toList) (hp : part? b n xs off = some v) :
    ∃ v', VR M false v v' ∧ ∀ w, (part t ys off).run P w = .ok v' w := by
  unfold part? at hp
  cases b with
  | true =>
    simp only [cond_true] at hp
    cases hl : Nat.ble (off + n) xs.length <;> rw [hl] at hp <;> simp only [cond_true, cond_false] at hp
    · cases hp
    · injection hp with hp; subst hp
      have hk := (h.drop off).take n
      have he : (ys.extract off (off + n)).toList = (ys.toList.drop off).take n := by simp [List.extract_eq_take_drop]
      refine ⟨_, Cells.vagg' (ys := ys.extract off (off + n)) (by rw [he]; exact hk), fun w => ?_⟩
      simp [part, run_tAgg hb, run_tSize hn]
  | false =>
    simp only [cond_false] at hp
    have hi : off < ys.size := by
      have := (List.getElem?_eq_some_iff.1 hp).1
      have := h.1
      simp at this
      omega
    have he : ys[off]? = some ys[off] := Array.getElem?_eq_getElem hi
    refine ⟨ys[off], .cell _ _ (h.2 off v _ hp (by simpa using he)), fun w => ?_⟩
    simp [part, run_tAgg hb, he]

/-! ## reading cells -/
theorem run_loadCellsFrom (a : Addr) : ∀ (ys : List Value) (i : Nat) (acc : Array Value) (w : World), (∀ (j : Nat) (v : Value), ys[j]? = some v → w.cell? (a.add (i + j)) = some v) →
    (loadCellsFrom a i ys.length acc).run P w = .ok (acc ++ ys.toArray) w
  | [], i, acc, w, _ => by simp [loadCellsFrom]
  | y :: ys, i, acc, w, h => by
    have h0 := h 0 y rfl
    simp only [Nat.add_zero] at h0
    have ih := run_loadCellsFrom a ys (i + 1) (acc.push y) w (fun j v hv => by
      have := h (j + 1) v (by simpa using hv)
      rwa [show i + (j + 1) = i + 1 + j from by omega] at this)
    simp only [List.length_cons, loadCellsFrom, Sem.run_bind, run_load, h0, Result.andThen_ok, ih]
    simp
theorem run_loadCells (a : Addr) (ys : List Value) (w : World) (h : ∀ (j : Nat) (v : Value), ys[j]? = some v → w.cell? (a.add j) = some v) {n : Nat} (hn : ys.length = n) : (loadCells a n).run P w = .ok ys.toArray w := by
  subst hn
  unfold loadCells
  rw [run_loadCellsFrom a ys 0 #[] w (fun j v hv => by simpa using h j v hv)]
  simp

/-- The cells of the model that a part of an id's cells shows. -/
theorem Shows.row {l : Loc} {o : SObj} {c : List Value} (h : Shows M w l o) (hc : (∃ g, o = .cells c g) ∨ o = .lent c) : ∀ j v, c[j]? = some v → ∃ v', w.cell? ⟨l.block, l.base + j, none⟩ = some v' ∧ VR M true v v' := by
  intro j v hv
  rcases hc with ⟨g, rfl⟩ | rfl
  · obtain ⟨_, arr, e, fz, h2, h3, _⟩ := h
    obtain ⟨v', h4, h5⟩ := h3 j v hv
    exact ⟨v', by simp [World.cell?, h2, h4], h5⟩
  · exact h.2.2 j v hv
/-- What is read from there. -/
theorem read_list {l : Loc} {c : List Value} (h : ∀ (j : Nat) (v : Value), c[j]? = some v → ∃ v', w.cell? ⟨l.block, l.base + j, none⟩ = some v' ∧ VR M true v v') : ∀ (xs : List Value) (o : Nat), (∀ (j : Nat) (v : Value), xs[j]? = some v → c[o + j]? = some v) →
    ∃ ys, Cells M xs ys ∧ ∀ (j : Nat) (v : Value), ys[j]? = some v → w.cell? ⟨l.block, l.base + o + j, none⟩ = some v
  | [], o, _ => ⟨[], Cells.nil, fun j v hv => by simp at hv⟩
  | x :: xs, o, hx => by
    obtain ⟨v', h1, h2⟩ := h o x (by simpa using hx 0 x rfl)
    obtain ⟨ys, h3, h4⟩ := read_list h xs (o + 1) (fun j v hv => by rw [show o + 1 + j = o + (j + 1) from by omega]; exact hx (j + 1) v (by simpa using hv))
    refine ⟨v' :: ys, ⟨by simp [h3.1], fun i a b ha hb => ?_⟩, fun j v hv => ?_⟩
    · cases i with
      | zero => simp at ha hb; subst ha hb; exact h2
      | succ i => exact h3.2 i a b (by simpa using ha) (by simpa using hb)
    · cases j with
      | zero => simp at hv; subst hv; simpa using h1
      | succ j => have := h4 j v (by simpa using hv); rwa [show l.base + (o + 1) + j = l.base + o + (j + 1) from by omega] at this
theorem get_cells {i : Nat} {o : SObj} {c : List Value} (hr : Rel M σ w) (hi : σ.get i = some o) (hc : (∃ g, o = .cells c g) ∨ o = .lent c) {l : Loc} (hl : M i = some l) :
    ∀ (j : Nat) (v : Value), c[j]? = some v → ∃ v', w.cell? ⟨l.block, l.base + j, none⟩ = some v' ∧ VR M true v v' := by
  obtain ⟨l', h1, h2⟩ := hr.shows i o hi
  rw [hl] at h1; cases h1
  exact h2.row hc
theorem add_mk (b o j : Nat) : (⟨b, o, none⟩ : Addr).add j = ⟨b, o + j, none⟩ := Addr.add_lit b o j

theorem load_sound {t : TypeId} {b : Bool} {n : Nat} {x x' v : Value} (hb : tAgg P t = some b) (hn : tSize P t = some n) (hx : VR M false x x') (hr : Rel M σ w) (h : loadV b n x σ.get = some v) :
    ∃ v', VR M false v v' ∧ (Instr.loadAt t x').run P w = .ok v' w := by
  unfold loadV at h
  split at h
  case h_2 => cases h
  rename_i i o
  obtain ⟨_, l, hl, rfl⟩ := VR.ptr_ hx
  have key : ∀ (c : List Value), (∀ (j : Nat) (v : Value), c[j]? = some v → ∃ v', w.cell? ⟨l.block, l.base + j, none⟩ = some v' ∧ VR M true v v') → part? b n c o = some v →
      ∃ v', VR M false v v' ∧ (Instr.loadAt t (.pointer (some ⟨l.block, l.base + o, none⟩))).run P w = .ok v' w := fun c hc hp => by
    unfold part? at hp
    cases b with
    | true =>
      simp only [cond_true] at hp
      cases hle : Nat.ble (o + n) c.length <;> rw [hle] at hp <;> simp only [cond_true, cond_false] at hp
      · cases hp
      injection hp with hp; subst hp
      have hle' := Nat.le_of_ble_eq_true hle
      obtain ⟨ys, h1, h2⟩ := read_list hc ((c.drop o).take n) o (fun j v hv => by
        rw [List.getElem?_take] at hv
        split at hv
        · rwa [List.getElem?_drop] at hv
        · cases hv)
      refine ⟨_, h1.vagg, ?_⟩
      have hlen : ys.length = n := by rw [← h1.1]; simp; omega
      simp [Instr.loadAt, Instr.sureAddr, loadVar, run_tAgg hb, run_tSize hn, run_loadCells ⟨l.block, l.base + o, none⟩ ys w (fun j v hv => by rw [add_mk]; exact h2 j v hv) hlen]
    | false =>
      simp only [cond_false] at hp
      obtain ⟨v', h1, h2⟩ := hc o v hp
      refine ⟨v', .cell _ _ h2, ?_⟩
      simp [Instr.loadAt, Instr.sureAddr, loadVar, run_tAgg hb, h1]
  split at h
  · rename_i c g hg; exact key c (get_cells hr hg (.inl ⟨g, rfl⟩) hl) h
  · rename_i c hg; exact key c (get_cells hr hg (.inr rfl) hl) h
  · cases h
end Go.Am
