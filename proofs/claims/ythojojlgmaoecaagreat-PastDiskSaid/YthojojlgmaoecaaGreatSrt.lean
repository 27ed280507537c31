/- The abstract machine, part 37: a sort of the library's over a slice of its owner's, as a call. No program in sight. -/
import Derived.Test.YthojojlgmaoecaaGreatRng
import Derived.Shelf.GgSortFunc.Tiny
import Derived.Shelf.SlSortFuncK.WholeK
set_option linter.all false
namespace Go.Am
open Go.Sort Go.RowKit Go.Proofs
variable {P : Program} {σ σ' : Store} {α : Type} [Inhabited α]
/-- Elements' cells, one behind the other. -/
def flatL (enc : α → List Value) (L : List α) : List Value := (L.map enc).flatten
theorem flatL_len {enc : α → List Value} {k : Nat} (hk : ∀ x, (enc x).length = k) : ∀ L : List α, (flatL enc L).length = L.length * k
  | [] => by simp [flatL]
  | x :: L => by
    have ih := flatL_len hk L
    unfold flatL at ih ⊢
    rw [List.map_cons, List.flatten_cons, List.length_append, ih, hk, List.length_cons, Nat.succ_mul]; omega
theorem flatL_get {enc : α → List Value} {k : Nat} (hk : ∀ x, (enc x).length = k) : ∀ (L : List α) (t : Nat), t < L.length * k → (flatL enc L)[t]? = some ((enc L[t / k]!)[t % k]!)
  | [], t, h => by simp at h
  | x :: L, t, h => by
    have k0 : 0 < k := by
      rcases Nat.eq_zero_or_pos k with h0 | h0
      · subst h0; simp at h
      · exact h0
    have e : flatL enc (x :: L) = enc x ++ flatL enc L := by simp [flatL]
    rw [e]
    by_cases ht : t < k
    · rw [List.getElem?_append_left (by rw [hk]; exact ht), Nat.div_eq_of_lt ht, Nat.mod_eq_of_lt ht]
      have hl : t < (enc x).length := by rw [hk]; exact ht
      rw [List.getElem?_eq_getElem hl]
      show some _ = some ((enc x)[t]!)
      rw [getElem!_pos _ t hl]
    · have h2 : t - k < L.length * k := by rw [List.length_cons, Nat.succ_mul] at h; omega
      have h1 : t / k = (t - k) / k + 1 := Nat.div_eq_sub_div k0 (by omega)
      have h3 : t % k = (t - k) % k := Nat.mod_eq_sub_mod (by omega)
      rw [List.getElem?_append_right (by rw [hk]; omega), hk, flatL_get hk L (t - k) h2, h1, h3]
      simp
theorem flatK_list {enc : α → List Value} {k : Nat} (hk : ∀ x, (enc x).length = k) (L : List α) : flatK enc k L.toArray = (flatL enc L).toArray := by
  refine Array.ext_getElem? fun t => ?_
  by_cases ht : t < L.length * k
  · rw [show (flatL enc L).toArray[t]? = (flatL enc L)[t]? from List.getElem?_toArray, flatL_get hk L t ht]
    have h2 : t < (flatK enc k L.toArray).size := by rw [size_flatK]; exact ht
    rw [Array.getElem?_eq_getElem h2]
    have := get_flatK enc k L.toArray t (by simpa using ht)
    rw [getElem!_pos _ t h2] at this
    rw [this]
    simp
  · rw [Array.getElem?_eq_none (by rw [size_flatK]; simpa using ht), List.getElem?_toArray, List.getElem?_eq_none (by rw [flatL_len hk]; omega)]

/-- A world that has grown. -/
theorem Rel.grown {M : Places} {w w' : World} (h : Rel M σ w) {os : Array Obj} (hw : w'.heap = w.heap ++ os) (h1 : w'.os = w.os) (h2 : w'.tape = w.tape) (h3 : w'.output = w.output) : Rel M σ w' ∧ Step σ M w σ M w' := by
  have hb : ∀ b, b < w.heap.size → w'.heap[b]? = w.heap[b]? := fun b hb => by rw [hw, Array.getElem?_append_left hb]
  refine ⟨⟨fun i o hi => ?_, h.apart, h.dom⟩, ⟨Nat.le_refl _, M.le_refl, by rw [hw, Array.size_append]; omega, fun b hb' _ => hb b hb', fun _ _ h => h, fun _ _ h => h, h1, h2, h3⟩⟩
  obtain ⟨l, hl, hs⟩ := h.shows i o hi
  exact ⟨l, hl, hs.same (hb _ hs.lt)⟩
theorem putRow_at (w : World) (b off : Nat) (F : Array Value) {arr : Array Value} {e : TypeId} {fz : Nat × Nat} (h : w.heap[b]? = some (.cells arr e fz)) : (putRow id w b off F).heap[b]? = some (.cells (putCells id off F arr) e fz) := by
  unfold putRow mapBlock
  simp only [Array.getElem?_modify, if_true, h, Option.map_some, onCells]
theorem putRow_ne (w : World) (b off : Nat) (F : Array Value) {c : Nat} (h : c ≠ b) : (putRow id w b off F).heap[c]? = w.heap[c]? := by
  unfold putRow mapBlock
  simp only [Array.getElem?_modify, if_neg (Ne.symm h)]
/-- A slice's cells are laid anew, and the world grows. -/
theorem rel_row {M : Places} {w : World} {i k n : Nat} {l : Loc} {c c' : List Value} {os : Array Obj} (hr : Rel M σ w) (hi : σ.get i = some (.cells c (some k))) (hl : M i = some l) (hs : c'.all scalar = true) (hlen : c'.length = c.length) :
    Rel M (σ.put i (some (.cells c' (some k)))) (grow (putRow id (Sort.ahead w n) l.block l.base c'.toArray) os) ∧ Step σ M w (σ.put i (some (.cells c' (some k)))) M (grow (putRow id (Sort.ahead w n) l.block l.base c'.toArray) os) := by
  obtain ⟨l', hl', hsh⟩ := hr.shows i _ hi
  rw [hl] at hl'; cases hl'
  obtain ⟨g1, arr, e, fz, g2, g3, g4, g5⟩ := hsh
  have hp := putRow_at (Sort.ahead w n) l.block l.base c'.toArray (e := e) (fz := fz) (arr := arr) g2
  have hsz : (putCells id l.base c'.toArray arr).size = arr.size := by simp [putCells]
  have hw : Shows M (putRow id (Sort.ahead w n) l.block l.base c'.toArray) l (.cells c' (some k)) := by
    refine ⟨g1, _, e, fz, hp, fun j v hj => ?_, by rw [hsz]; exact g4, by rw [hsz]; exact g5⟩
    have hjl : j < c'.length := (List.getElem?_eq_some_iff.1 hj).1
    have h0 : j < c.length := by omega
    obtain ⟨v', a1, _⟩ := g3 j _ (List.getElem?_eq_getElem h0)
    have hlt := (Array.getElem?_eq_some_iff.1 a1).1
    refine ⟨v, ?_, .scalar v (List.all_eq_true.1 hs v (List.mem_of_getElem? hj))⟩
    unfold putCells
    rw [Array.getElem?_mapIdx, a1, Option.map_some, if_pos ⟨by omega, by simp; omega⟩]
    simp only [id, Nat.add_sub_cancel_left]
    rw [getElem!_pos _ j (by simpa using hjl)]
    simp only [List.getElem_toArray]
    have := (List.getElem?_eq_some_iff.1 hj).2
    rw [this]
  obtain ⟨r1, r2⟩ := Rel.write (w' := putRow id (Sort.ahead w n) l.block l.base c'.toArray) (o' := .cells c' (some k)) hr hi hl rfl rfl (by rw [Go.Sort.size_putRow]; rfl) (fun b hb => putRow_ne _ _ _ _ hb) hw rfl rfl rfl
  obtain ⟨r3, r4⟩ := Rel.grown r1 (w' := grow (putRow id (Sort.ahead w n) l.block l.base c'.toArray) os) (os := os) rfl rfl rfl rfl
  exact ⟨r3, r2.trans r4⟩
/-- What stands in a store's slice stands in a world's. -/
theorem holds_row {M : Places} {w : World} {i k : Nat} {l : Loc} {enc : α → List Value} {L : List α} (hk : ∀ x, (enc x).length = k) (hsc : ∀ x, (enc x).all scalar = true) (hr : Rel M σ w) (hi : σ.get i = some (.cells (flatL enc L) (some k))) (hl : M i = some l) :
    HoldsK enc k w l.block l.base L.toArray ∧ l.block < w.heap.size := by
  obtain ⟨l', hl', hsh⟩ := hr.shows i _ hi
  rw [hl] at hl'; cases hl'
  obtain ⟨g1, arr, e, fz, g2, g3, g4, g5⟩ := hsh
  refine ⟨?_, (Array.getElem?_eq_some_iff.1 g2).1⟩
  unfold HoldsK
  rw [flatK_list hk]
  intro j hj
  have hj : j < (flatL enc L).length := by simpa using hj
  obtain ⟨v', a1, a2⟩ := g3 j _ (List.getElem?_eq_getElem hj)
  have hlt := (Array.getElem?_eq_some_iff.1 a1).1
  have hv : scalar ((flatL enc L)[j]) = true := by
    have hm : (flatL enc L)[j] ∈ flatL enc L := List.getElem_mem hj
    unfold flatL at hm
    obtain ⟨cs, h1, h2⟩ := List.mem_flatten.1 hm
    obtain ⟨x, _, rfl⟩ := List.mem_map.1 h1
    exact List.all_eq_true.1 (hsc x) _ h2
  have hv' := VR.scalar_eq hv a2
  have e0 : (flatL enc L).toArray[j]! = (flatL enc L)[j] := by rw [getElem!_pos _ j (by simpa using hj)]; simp
  refine ⟨?_, ?_⟩
  · unfold World.cell?
    simp only [g2, id, e0]
    rw [a1, hv']
    rfl
  · unfold World.frozen?
    simp only [g2]
    rcases g4 with rfl | ⟨_, h⟩
    · simp
    · simp; omega

/-! ## what a sort leaves -/
noncomputable def srt (lt : α → α → Bool) (L : List α) : List α := (pdq lt L.toArray 0 L.toArray.size (Lib.bitLen L.toArray.size) true true).toList
theorem srt_perm {lt : α → α → Bool} (hO : SWO lt) (L : List α) : (srt lt L).Perm L := by
  obtain ⟨⟨h1, _, h2⟩, _⟩ := pdq_sorts lt hO L.toArray 0 L.toArray.size (Lib.bitLen L.toArray.size) true true (Nat.zero_le _) (Nat.le_refl _) (Or.inl rfl)
  unfold srt
  generalize pdq lt L.toArray 0 L.toArray.size (Lib.bitLen L.toArray.size) true true = D at h1 h2 ⊢
  have e1 : D.extract 0 L.toArray.size = D := by rw [← h1]; exact Array.extract_size
  rw [e1, Array.extract_size] at h2
  exact h2
theorem srt_sorted {lt : α → α → Bool} (hO : SWO lt) (L : List α) : (srt lt L).Pairwise fun x y => lt y x = false := by
  obtain ⟨⟨h1, _, _⟩, h2⟩ := pdq_sorts lt hO L.toArray 0 L.toArray.size (Lib.bitLen L.toArray.size) true true (Nat.zero_le _) (Nat.le_refl _) (Or.inl rfl)
  rw [List.pairwise_iff_getElem]
  intro i j hi hj hij
  have hj' : j < (pdq lt L.toArray 0 L.toArray.size (Lib.bitLen L.toArray.size) true true).size := by simpa [srt] using hj
  have := h2 i j (Nat.zero_le _) hij (by omega)
  rw [getElem!_pos _ i (by omega), getElem!_pos _ j hj'] at this
  simpa [srt] using this
theorem srt_len {lt : α → α → Bool} (hO : SWO lt) (L : List α) : (srt lt L).length = L.length := (srt_perm hO L).length_eq
theorem flat_scalar {enc : α → List Value} (hsc : ∀ x, (enc x).all scalar = true) (L : List α) : (flatL enc L).all scalar = true := by
  rw [List.all_eq_true]
  intro v hv
  unfold flatL at hv
  obtain ⟨cs, h1, h2⟩ := List.mem_flatten.1 hv
  obtain ⟨x, _, rfl⟩ := List.mem_map.1 h1
  exact List.all_eq_true.1 (hsc x) _ h2
theorem VR.iface_ {M : Places} {b : Bool} {t : TypeId} {v v' : Value} (h : VR M b (.iface t v) v') : ∃ u, v' = .iface t u ∧ VR M false v u := by
  have key : ∀ v', VR M true (.iface t v) v' → ∃ u, v' = .iface t u ∧ VR M false v u := fun v' h => by
    cases h with
    | scalar _ h => simp [Am.scalar] at h
    | iface _ _ u h => exact ⟨u, rfl, h⟩
  cases b with
  | true => exact key v' h
  | false => cases h with | cell _ _ h => exact key v' h
theorem VRs.ex2 {M : Places} {u v : Value} {cargs : Array Value} (h : VRs M [u, v] cargs) : ∃ u' v', cargs = #[u', v'] ∧ VR M false u u' ∧ VR M false v v' := by
  obtain ⟨h1, h2⟩ := h
  match cargs, h1, h2 with
  | ⟨[u', v']⟩, _, h2 => exact ⟨u', v', rfl, h2 0 _ _ rfl rfl, h2 1 _ _ rfl rfl⟩
  | ⟨[]⟩, h1, _ => simp at h1
  | ⟨[_]⟩, h1, _ => simp at h1
  | ⟨_ :: _ :: _ :: _⟩, h1, _ => simp at h1
/-- A sort over a slice of two elements or more, its less bound to a place where the slice lies: as a call. -/
theorem sort_sim {f g : FuncId} {t : TypeId} {enc : α → List Value} {k : Nat} {key : α → Int} {i j n q : Nat} {c0 : List Value} {gj : Option Nat} {L : List α}
    (hk : ∀ x, (enc x).length = k) (hsc : ∀ x, (enc x).all scalar = true) (hkey : ∀ x, (enc x)[0]! = .int .i64 (key x)) (hk0 : 0 < k)
    (hsort : ∀ (lb : Array Value) (w : World) (blk off c : Nat) (d : Array α), 2 ≤ d.size → d.size < 4611686018427387904 → LessReadsK P g lb enc k (fun x y => decide (key x < key y)) blk off d.size w → HoldsK enc k w blk off d → blk < w.heap.size →
      Calls P f #[.iface t (.slice (some ⟨blk, off, none⟩) d.size c), .func (.func g) #[] lb] w fun e w' => e = .returned (.tuple #[]) ∧ ∃ n os, w' = grow (putRowK enc k (Sort.ahead w n) blk off (pdq (fun x y => decide (key x < key y)) d 0 d.size (Lib.bitLen d.size) true true)) os)
    (hless : ∀ (W : World) (jb jo blk off c size : Nat) (G : Nat → Int), W.cell? ⟨jb, jo + q, none⟩ = some (.slice (some ⟨blk, off, none⟩) size c) → (∀ t, t < size → W.cell? ⟨blk, off + t * k, none⟩ = some (.int .i64 (G t))) → ∀ a b : Nat, a < size → b < size → size < 4611686018427387904 →
      Calls P g #[.int .i64 a, .int .i64 b, .pointer (some ⟨jb, jo, none⟩)] W fun e w' => e = .returned (.bool (decide (G a < G b))) ∧ ∃ q, w' = W.drewN q)
    (hi : σ.get i = some (.cells (flatL enc L) (some k))) (hj : σ.get j = some (.cells c0 gj)) (hq : c0[q]? = some (.slice (some ⟨i, 0, some k⟩) n n)) (hij : i ≠ j) (hn : L.length = n) (hO : SWO fun x y : α => decide (key x < key y)) (h2 : 2 ≤ n) (hsz : n < 4611686018427387904) :
    Sim P f [.iface t (.slice (some ⟨i, 0, some k⟩) n n), .func (.func g) #[] #[.pointer (some ⟨j, 0, none⟩)]] σ (.tuple #[]) (σ.put i (some (.cells (flatL enc (srt (fun x y => decide (key x < key y)) L)) (some k)))) := by
  refine ⟨by rw [Store.next_put_lt _ _ (Store.lt_of_get hi)]; exact Nat.le_refl _, fun M w cargs hr ha => ?_⟩
  obtain ⟨u0, u1, rfl, v0, v1⟩ := ha.ex2
  obtain ⟨z0, rfl, w0⟩ := v0.iface_
  obtain ⟨l, cp, hl, rfl, _, _⟩ := w0.slice_
  obtain ⟨g', xs, ys, hg, rfl, hx, hy, hxs, hys⟩ := v1.func_
  cases hg
  have hx0 : xs = #[] := Array.eq_empty_of_size_eq_zero (by simpa using hx.symm)
  subst hx0
  obtain ⟨p, rfl, hp⟩ : ∃ p, ys = #[p] ∧ VR M false (.pointer (some ⟨j, 0, none⟩)) p := by
    match ys, hy, hys with
    | ⟨[p]⟩, _, h => exact ⟨p, rfl, h 0 _ _ rfl rfl⟩
    | ⟨[]⟩, h, _ => simp at h
    | ⟨_ :: _ :: _⟩, h, _ => simp at h
  obtain ⟨_, lj, hlj, rfl⟩ := hp.ptr_
  obtain ⟨hH, hblk⟩ := holds_row hk hsc hr hi hl
  obtain ⟨lj', hlj', hshj⟩ := hr.shows j _ hj
  rw [hlj] at hlj'; cases hlj'
  obtain ⟨_, arrj, ej, fzj, j2, j3, _, _⟩ := hshj
  have hjb : lj.block < w.heap.size := (Array.getElem?_eq_some_iff.1 j2).1
  have hne : lj.block ≠ l.block := hr.apart j i _ _ lj l hj hi rfl (Ne.symm hij) hlj hl
  obtain ⟨vs, j4, j5⟩ := j3 q _ hq
  obtain ⟨l2, cp2, hl2, rfl, _, _⟩ := j5.slice_
  rw [hl] at hl2; cases hl2
  have hcj : w.cell? ⟨lj.block, lj.base + q, none⟩ = some (.slice (some ⟨l.block, l.base, none⟩) n cp2) := by
    unfold World.cell?
    simp only [j2]
    rw [j4]; rfl
  have hsz0 : L.toArray.size = n := by simpa using hn
  have hL : LessReadsK P g #[.pointer (some ⟨lj.block, lj.base + 0, none⟩)] enc k (fun x y => decide (key x < key y)) l.block l.base L.toArray.size w := by
    intro m os dk hs a b ha hb
    have e : sortWorldK enc k w l.block l.base m dk os = putRowK enc k (grow (Sort.ahead w m) os) l.block l.base dk := by
      unfold sortWorldK; rw [putRowK_grow _ _ (Sort.ahead w m) _ _ _ _ hblk]
    have hHg : HoldsK enc k (grow (Sort.ahead w m) os) l.block l.base L.toArray := holdsK_grow _ _ _ _ _ _ _ hblk (holdsK_ahead _ _ _ _ _ _ _ hH)
    refine hless _ lj.block lj.base l.block l.base cp2 L.toArray.size (fun t => key dk[t]!) ?_ (fun t ht => ?_) a b ha hb (by omega)
    · rw [e, cell?_putRowK_other _ _ _ _ _ _ _ (by exact hne), cell?_grow _ _ _ (by exact hjb), hsz0]; exact hcj
    · rw [e]
      have := ((holdsK_putRowK _ _ _ _ _ _ dk hHg hs).cell (i := t) (c := 0) (by omega) hk0).1
      rw [hkey] at this
      exact this
  refine Calls.mono (by
    have h := hsort #[.pointer (some ⟨lj.block, lj.base + 0, none⟩)] w l.block l.base cp L.toArray (by omega) (by omega) hL hH hblk
    rw [hsz0] at h
    exact h) ?_
  rintro e w' ⟨rfl, m, os, rfl⟩
  have hlen : (flatL enc (srt (fun x y => decide (key x < key y)) L)).length = (flatL enc L).length := by
    rw [flatL_len hk, flatL_len hk, srt_len hO]
  obtain ⟨r1, r2⟩ := rel_row (n := m) (os := os) hr hi hl (flat_scalar hsc (srt (fun x y => decide (key x < key y)) L)) hlen
  have he : putRowK enc k (Sort.ahead w m) l.block l.base (pdq (fun x y => decide (key x < key y)) L.toArray 0 n (Lib.bitLen n) true true) = putRow id (Sort.ahead w m) l.block l.base (flatL enc (srt (fun x y => decide (key x < key y)) L)).toArray := by
    unfold putRowK
    rw [← flatK_list hk]
    simp only [srt, hsz0]
  rw [he]
  exact ⟨M, .tuple #[], rfl, .tuple _ _ rfl fun i v v' hv => by simp at hv, r1, r2⟩
/-- Of at most one element: nothing is turned. -/
theorem tiny_sim {f g : FuncId} {t : TypeId} {v : Value} {n : Nat} {lb : List Value}
    (hsort : ∀ (p : Option Addr) (c : Nat) (lb : Array Value) (w : World), Calls P f #[.iface t (.slice p n c), .func (.func g) #[] lb] w fun e w' => e = .returned (.tuple #[]) ∧ ∃ os, w' = grow w os)
    (hv : v = .slice none 0 0 ∧ n = 0 ∨ ∃ i o s c, v = .slice (some ⟨i, o, s⟩) n c) : Sim P f [.iface t v, .func (.func g) #[] lb.toArray] σ (.tuple #[]) σ := by
  refine ⟨Nat.le_refl _, fun M w cargs hr ha => ?_⟩
  obtain ⟨u0, u1, rfl, v0, v1⟩ := ha.ex2
  obtain ⟨z0, rfl, w0⟩ := v0.iface_
  obtain ⟨g', xs, ys, hg, rfl, hx, hy, hxs, hys⟩ := v1.func_
  cases hg
  have hx0 : xs = #[] := Array.eq_empty_of_size_eq_zero (by simpa using hx.symm)
  subst hx0
  obtain ⟨p, c', rfl⟩ : ∃ p c', z0 = .slice p n c' := by
    rcases hv with ⟨rfl, rfl⟩ | ⟨i, o, s, c, rfl⟩
    · exact ⟨none, 0, VR.scalar_eq rfl w0⟩
    · obtain ⟨l, cp, hl, rfl, _, _⟩ := w0.slice_
      exact ⟨_, _, rfl⟩
  refine Calls.mono (hsort p c' ys w) ?_
  rintro e w' ⟨rfl, os, rfl⟩
  obtain ⟨r1, r2⟩ := Rel.grown hr (w' := grow w os) (os := os) rfl rfl rfl rfl
  exact ⟨M, .tuple #[], rfl, .tuple _ _ rfl fun i v v' hv => by simp at hv, r1, r2⟩
end Go.Am
