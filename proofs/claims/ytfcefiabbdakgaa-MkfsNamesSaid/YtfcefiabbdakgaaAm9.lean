/- The abstract machine, part 9: stores, append and copy are as the model has them. No program in sight. -/
import Derived.Test.YtfcefiabbdakgaaAm8
set_option linter.all false
namespace Go.Am
open Go.RowKit
variable {P : Program} {M : Places} {σ : Store} {w : World}

theorem run_storeCells (b : Nat) (e : TypeId) (fz : Nat × Nat) : ∀ (vs : List Value) (o i : Nat) (arr : Array Value) (w : World), w.heap[b]? = some (.cells arr e fz) → o + i + vs.length ≤ arr.size → (fz = (0, 0) ∨ arr.size ≤ fz.1) → (∀ v ∈ vs, v.oneCell' = true) →
    ∃ arr', arr'.size = arr.size ∧ (∀ j, arr'[j]? = if o + i ≤ j ∧ j < o + i + vs.length then vs[j - (o + i)]? else arr[j]?) ∧ (storeCells ⟨b, o, none⟩ vs i).run P w = .ok () { w with heap := w.heap.setIfInBounds b (.cells arr' e fz) }
  | [], o, i, arr, w, hb, _, _, _ => ⟨arr, rfl, fun j => by simp; omega, by
    rw [setIf_same hb]; rfl⟩
  | v :: vs, o, i, arr, w, hb, hle, hf, h1 => by
    simp only [List.length_cons] at hle
    have hlt := (Array.getElem?_eq_some_iff.1 hb).1
    have hcell : w.cell? ⟨b, o + i, none⟩ = some arr[o + i] := by simp [World.cell?, hb]
    have hfr : w.frozen? ⟨b, o + i, none⟩ = false := by
      simp only [World.frozen?, hb]
      rcases hf with rfl | hf
      · simp
      · have : ¬ fz.1 ≤ o + i := by omega
        simp [this]
    have hset : w.setCell ⟨b, o + i, none⟩ v = { w with heap := w.heap.setIfInBounds b (.cells (arr.setIfInBounds (o + i) v) e fz) } := by
      unfold World.setCell
      congr 1
      apply Array.ext_getElem?
      intro j
      rw [Array.getElem?_modify, Array.getElem?_setIfInBounds]
      by_cases hj : b = j
      · subst hj
        have he : w.heap[b] = .cells arr e fz := (Array.getElem?_eq_some_iff.1 hb).2
        simp [hlt, he]
      · simp [hj]
    obtain ⟨arr', g1, g2, g3⟩ := run_storeCells b e fz vs o (i + 1) (arr.setIfInBounds (o + i) v) { w with heap := w.heap.setIfInBounds b (.cells (arr.setIfInBounds (o + i) v) e fz) } (by simp [hlt]) (by simp; omega) (by simpa using hf) (fun u hu => h1 u (List.mem_cons_of_mem _ hu))
    refine ⟨arr', by rw [g1]; simp, fun j => ?_, ?_⟩
    · rw [g2 j, Array.getElem?_setIfInBounds]
      simp only [List.length_cons]
      by_cases c1 : o + i = j
      · subst c1
        rw [if_neg (by omega), if_pos rfl, if_pos (by omega), if_pos (by omega)]
        simp
      · rw [if_neg c1]
        by_cases c2 : o + (i + 1) ≤ j ∧ j < o + (i + 1) + vs.length
        · rw [if_pos c2, if_pos (by omega), show j - (o + i) = (j - (o + (i + 1))) + 1 from by omega]
          rfl
        · rw [if_neg c2, if_neg (by omega)]
    · unfold storeCells
      simp only [Sem.run_bind, add_mk, run_store P w _ v _ (h1 v List.mem_cons_self), hcell, hfr, Bool.false_eq_true, if_false, Result.andThen_ok, hset, g3]
      simp

theorem Row.splice {c vs vs' : List Value} {arr arr' : Array Value} {base off : Nat} (h : Row M c arr base) (hv : Cells M vs vs') (hle : off + vs.length ≤ c.length)
    (h2 : ∀ j, arr'[j]? = if base + off ≤ j ∧ j < base + off + vs'.length then vs'[j - (base + off)]? else arr[j]?) : Row M (Am.splice c off vs) arr' base := by
  intro j v hj
  rw [getElem?_splice c vs off j hle] at hj
  rw [h2]
  have hl := hv.1
  by_cases c1 : off ≤ j ∧ j < off + vs.length
  · rw [if_pos c1] at hj
    rw [if_pos (by omega), show base + j - (base + off) = j - off from by omega]
    have hi : j - off < vs'.length := by omega
    exact ⟨vs'[j - off], List.getElem?_eq_getElem hi, hv.2 _ v _ hj (List.getElem?_eq_getElem hi)⟩
  · rw [if_neg c1] at hj
    rw [if_neg (by omega)]
    exact h j v hj
theorem splice_nil (c : List Value) (off : Nat) : Am.splice c off [] = c := by
  cases off with
  | zero => simp [Am.splice]
  | succ n => simp [Am.splice]
theorem Cells.oneCell {xs ys : List Value} (h : Cells M xs ys) : ∀ v ∈ ys, v.oneCell' = true := by
  intro v hv
  obtain ⟨i, hi, e⟩ := List.getElem_of_mem hv
  have hx : i < xs.length := by rw [h.1]; exact hi
  have := (h.2 i _ _ (List.getElem?_eq_getElem hx) (List.getElem?_eq_getElem hi)).one
  rw [e] at this
  cases v <;> first | rfl | cases this

/-- Cells are written. -/
theorem write_cells {i : Nat} {c : List Value} {g : Option Nat} (hr : Rel M σ w) (hi : σ.get i = some (.cells c g)) {l : Loc} (hl : M i = some l) {vs vs' : List Value} (hv : Cells M vs vs') {off : Nat} (hle : off + vs.length ≤ c.length) :
    ∃ w', (storeCells ⟨l.block, l.base + off, none⟩ vs').run P w = .ok () w' ∧ Rel M (σ.put i (some (.cells (splice c off vs) g))) w' ∧ Step σ M w (σ.put i (some (.cells (splice c off vs) g))) M w' := by
  obtain ⟨l', h1, hs⟩ := hr.shows i _ hi
  rw [hl] at h1; cases h1
  cases vs' with
  | nil =>
    have : vs = [] := List.eq_nil_of_length_eq_zero (by rw [hv.1]; rfl)
    subst this
    obtain ⟨a1, a2⟩ := hr.write (o' := .cells (splice c off []) g) hi hl rfl rfl rfl (fun _ _ => rfl) (by rw [splice_nil]; exact hs) rfl rfl rfl
    exact ⟨w, rfl, a1, a2⟩
  | cons v vs'' =>
    obtain ⟨hg, arr, e, fz, h2, h3, h4, h5⟩ := hs
    have hlen := hv.1
    simp only [List.length_cons] at hlen
    have hrow := h3.le (by omega)
    obtain ⟨arr', g1, g2, g3⟩ := run_storeCells (P := P) l.block e fz (v :: vs'') (l.base + off) 0 arr w h2 (by simp; omega) (h4.imp id (·.2)) hv.oneCell
    refine ⟨_, g3, hr.write (o' := .cells (splice c off vs) g) hi hl rfl rfl (by simp) (fun b hb => by simp [Array.getElem?_setIfInBounds_ne (Ne.symm hb)]) ⟨hg, arr', e, fz, ?_, ?_, ?_, ?_⟩ rfl rfl rfl⟩
    · have hlt := (Array.getElem?_eq_some_iff.1 h2).1
      simp [hlt]
    · exact h3.splice hv hle (fun j => by rw [g2 j, Nat.add_zero])
    · rw [g1]; exact h4
    · rw [g1]; exact h5

theorem store_sound {t : TypeId} {n : Nat} {x x' v v' u : Value} {σ' : Store} (hn : tSize P t = some n) (hx : VR M false x x') (hv : VR M false v v') (hr : Rel M σ w) (h : storeV n x v σ = some (u, σ')) :
    u = junk ∧ Did P σ M w (Instr.storeAt t x' v') σ' := by
  unfold storeV at h
  split at h
  case h_2 => cases h
  rename_i i o vs hvs
  obtain ⟨_, l, hl, rfl⟩ := VR.ptr_ hx
  split at h
  case h_2 => cases h
  rename_i c g hg
  cases hle : Nat.ble (o + n) c.length <;> rw [hle] at h <;> simp only [cond_true, cond_false] at h
  case false => cases h
  have hle' := Nat.le_of_ble_eq_true hle
  cases h
  obtain ⟨hc, hlen⟩ := asCells_some hvs
  have hcv := VR.cells_ hv hc
  obtain ⟨w', a1, a2, a3⟩ := write_cells (P := P) hr hg hl hcv (off := o) (by omega)
  refine ⟨rfl, M, w', ?_, a2, a3⟩
  have hsz : v'.cells.size = n := by rw [← hlen, hcv.1]; simp
  simp [Instr.storeAt, Instr.sureAddr, storeVar, run_tSize hn, hsz, a1]

/-! ## append -/
theorem growBy_le (newLen : Nat) : ∀ (r c : Nat), 256 ≤ c → c ≤ 2 * newLen → Builtin.growBy newLen r c ≤ 2 * newLen
  | 0, c, _, h => h
  | r + 1, c, h0, h => by
    unfold Builtin.growBy
    split
    · exact h
    · exact growBy_le newLen r _ (by omega) (by omega)
theorem nextslicecap_le (need c : Nat) (h : c < need) : Builtin.nextslicecap need c ≤ 2 * need := by
  unfold Builtin.nextslicecap
  split
  · omega
  · split
    · omega
    · exact growBy_le need 4 c (by omega) (by omega)
theorem lenV_sound {x x' : Value} {m : Nat} (hx : VR M false x x') (h : lenV x = some m) (w : World) : (Builtin.lenOf x').run P w = .ok m w := by
  unfold lenV at h
  split at h
  · rename_i a n c
    cases h
    cases a with
    | none => have := VR.scalar_eq (v := .slice none m c) rfl hx; subst this; rfl
    | some a => obtain ⟨l, c', _, rfl, _⟩ := VR.slice_ (i := a.block) (o := a.off) (s := a.spot) hx; rfl
  · cases h; have := hx.string_; subst this; rfl
  · cases h
theorem lenV_form {x x' : Value} {m : Nat} (hx : VR M false x x') (h : lenV x = some m) : (∃ n c, x' = .slice n m c) ∨ ∃ s, x' = .string s ∧ s.size = m := by
  unfold lenV at h
  split at h
  · rename_i a n c
    cases h
    cases a with
    | none => have := VR.scalar_eq (v := .slice none m c) rfl hx; subst this; exact .inl ⟨_, _, rfl⟩
    | some a => obtain ⟨l, c', _, rfl, _⟩ := VR.slice_ (i := a.block) (o := a.off) (s := a.spot) hx; exact .inl ⟨_, _, rfl⟩
  · cases h; have := hx.string_; subst this; exact .inr ⟨_, rfl, rfl⟩
  · cases h
theorem cell_heap {w w' : World} (h : w'.heap = w.heap) (a : Addr) : w'.cell? a = w.cell? a := by unfold World.cell?; rw [h]
theorem cellsAt_sound {i o : Nat} {s : Option Nat} {c : List Value} (hr : Rel M σ w) {l : Loc} (hl : M i = some l) (h : cellsAt ⟨i, o, s⟩ σ = some c) {n : Nat} (hn : n ≤ c.length) :
    ∃ ys, Cells M (c.take n) ys ∧ ∀ w' : World, w'.heap = w.heap → (loadCells ⟨l.block, l.base + o, none⟩ n).run P w' = .ok ys.toArray w' := by
  have fin : ∀ (c0 : List Value), (∀ (j : Nat) (v : Value), c0[j]? = some v → ∃ v', w.cell? ⟨l.block, l.base + j, none⟩ = some v' ∧ VR M true v v') → c = c0.drop o →
      ∃ ys, Cells M (c.take n) ys ∧ ∀ w' : World, w'.heap = w.heap → (loadCells ⟨l.block, l.base + o, none⟩ n).run P w' = .ok ys.toArray w' := fun c0 h0 e => by
    subst e
    obtain ⟨ys, h1, h2⟩ := read_list h0 ((c0.drop o).take n) o (fun j v hv => by
      rw [List.getElem?_take] at hv
      split at hv
      · rwa [List.getElem?_drop] at hv
      · cases hv)
    have hlen : ys.length = n := by rw [← h1.1]; simp at hn ⊢; omega
    exact ⟨ys, h1, fun w' hw => run_loadCells _ ys w' (fun j v hv => by rw [add_mk, cell_heap hw]; exact h2 j v hv) hlen⟩
  unfold cellsAt at h
  split at h
  · rename_i c0 g hg; cases h; exact fin c0 (get_cells hr hg (.inl ⟨g, rfl⟩) hl) rfl
  · rename_i c0 hg; cases h; exact fin c0 (get_cells hr hg (.inr rfl) hl) rfl
  · cases h
theorem source_sound {sz n : Nat} {x x' : Value} {news : List Value} (hr : Rel M σ w) (hx : VR M false x x') (h : sourceV sz n x σ = some news) :
    ∃ ys, Cells M news ys ∧ news.length = n * sz ∧ ∀ w' : World, w'.heap = w.heap → (Builtin.firstCells sz n x').run P w' = .ok ys.toArray w' := by
  unfold sourceV at h
  split at h
  · rename_i n0 c
    have := VR.scalar_eq (v := .slice none n0 c) rfl hx; subst this
    cases hn : n == 0 <;> rw [hn] at h <;> simp at h
    subst h
    have hn' : n = 0 := by simpa using hn
    subst hn'
    exact ⟨[], Cells.nil, by simp, fun w' _ => rfl⟩
  · rename_i a n0 c0
    obtain ⟨l, c', hl, rfl, _⟩ := VR.slice_ (i := a.block) (o := a.off) (s := a.spot) hx
    split at h
    case h_2 => cases h
    rename_i c hc
    cases hle : Nat.ble (n * sz) c.length <;> rw [hle] at h <;> simp only [cond_true, cond_false] at h
    case false => cases h
    cases h
    have hle' := Nat.le_of_ble_eq_true hle
    obtain ⟨ys, h1, h2⟩ := cellsAt_sound (P := P) hr hl hc hle'
    exact ⟨ys, h1, by simp; omega, fun w' hw => h2 w' hw⟩
  · rename_i s
    have := hx.string_; subst this
    cases hc : (sz == 1 && Nat.ble n s.size) <;> rw [hc] at h <;> simp only [cond_true, cond_false] at h
    case false => cases h
    cases h
    simp only [Bool.and_eq_true, beq_iff_eq] at hc
    obtain ⟨rfl, hle⟩ := hc
    have hle' := Nat.le_of_ble_eq_true hle
    have hsz : s.data.toList.length = s.size := by simp
    refine ⟨_, Cells.of_closed (xs := (s.data.toList.take n).map fun b => .int .u8 b.toNat) (by
      rw [List.all_eq_true]
      intro x hx
      obtain ⟨b, _, rfl⟩ := List.mem_map.1 hx
      rfl), by simp; omega, fun w' _ => ?_⟩
    simp only [Builtin.firstCells, Sem.run_pure, Result.ok.injEq, and_true]
    apply Array.ext'
    simp [ByteArray.data_extract]
  · cases h
/-- A new row behind an append. -/
theorem grow_sound {t ty el : TypeId} {ts : Array TypeId} {sz bytes n m c' : Nat} {base : Option Addr} {x' : Value} {olds olds' news news' ze : List Value} (hts : ts[0]? = some t) (ht1 : ∃ t1, ts[1]? = some t1 ∧ ∃ d, P.underlying t1 = some d ∧ ∀ k, d ≠ .int k)
    (hu : P.underlying t = some (.slice el)) (hsz : tSize P el = some sz) (hby : tBytes P el = some bytes) (hze : tZeros P el = some ze) (hzl : ze.length = sz)
    (hr : Rel M σ w) (hlen : ∀ w, (Builtin.lenOf x').run P w = .ok m w) (ho : Cells M olds olds') (hol : olds.length = n * sz) (hof : ∀ w' : World, w'.heap = w.heap → (Builtin.firstCells sz n (.slice base n c')).run P w' = .ok olds'.toArray w')
    (hn : Cells M news news') (hnl : news.length = m * sz) (hnf : ∀ w' : World, w'.heap = w.heap → (Builtin.firstCells sz m x').run P w' = .ok news'.toArray w')
    (hgt : c' < n + m) (hb : (n + m) * bytes ≤ 140737488355328) (h63 : n + m ≤ 9223372036854775807) :
    ∃ v' w' M', (Builtin.append_ ts ty #[.slice base n c', x']).run P w = .ok v' w' ∧ VR M' false (.slice (some ⟨σ.next, 0, some sz⟩) (n + m) (n + m)) v' ∧ Rel M' (σ.push (.cells (olds ++ news) (some sz))) w' ∧ Step σ M w (σ.push (.cells (olds ++ news) (some sz))) M' w' := by
  obtain ⟨t1, ht1, d, hd, hdi⟩ := ht1
  obtain ⟨i, hi, hib, hit⟩ := run_tBytes hby w
  obtain ⟨zv, hz1, hz2, hz3⟩ := tZeros_run hze
  have hcap := nextslicecap_le (n + m) c' hgt
  have hcapb : Builtin.nextslicecap (n + m) c' * bytes ≤ 2 ^ 48 := by
    have h1 : Builtin.nextslicecap (n + m) c' * bytes ≤ 2 * (n + m) * bytes := Nat.mul_le_mul_right _ hcap
    have h2 : 2 * (n + m) * bytes = 2 * ((n + m) * bytes) := Nat.mul_assoc _ _ _
    omega
  obtain ⟨q, hq⟩ : ∃ q : Question, q = .appendCap (n + m) c' el := ⟨_, rfl⟩
  obtain ⟨nc, hnc⟩ : ∃ nc : Nat, nc = q.cut (w.tape w.drawn q) := ⟨_, rfl⟩
  have hncge : n + m ≤ nc := by rw [hnc, hq]; simp [Question.cut]
  obtain ⟨w1, hw1⟩ : ∃ w1 : World, w1 = { w with drawn := w.drawn + 1 } := ⟨_, rfl⟩
  have hchoose : (choose (.appendCap (n + m) c' el)).run P w = .ok nc w1 := by rw [hnc, hq, hw1]; simp [run_choose, Question.forced]
  have hti : ∀ w, (typeInfo el).run P w = .ok i w := fun w => by simp [typeInfo, hi]
  have hnot : ¬ (((n + m : Nat) : Int) > IntKind.i64.max ∧ (false = true ∨ i.bytes = 0)) := by rw [IntKind.max_i64]; omega
  have hnot2 : ¬ Builtin.nextslicecap (n + m) c' * i.bytes > 2 ^ 48 := by rw [hib]; omega
  have hle : ¬ n + m ≤ c' := by omega
  have hmint : (match d with | .int _ => true | _ => false) = false := by cases d <;> first | rfl | exact absurd rfl (hdi _)
  have hrun : (Builtin.append_ ts ty #[.slice base n c', x']).run P w = .ok (.slice (some ⟨w.heap.size, 0, none⟩) (n + m) nc) { w1 with heap := w1.heap.push (.cells (olds'.toArray ++ news'.toArray ++ Builtin.zeroCells zv.cells (nc - (n + m))) el) } := by
    have hh1 : w1.heap = w.heap := by rw [hw1]
    unfold Builtin.append_
    simp only [hts, ht1, List.getElem?_toArray, List.getElem?_cons_zero, List.getElem?_cons_succ, Sem.run_bind, run_underlying hu, Result.andThen_ok, run_tSize hsz, run_underlying hd, Sem.run_pure, Bool.false_eq_true, if_false, hlen, hle]
    have hnotA : ¬ (9223372036854775807 < (n : Int) + (m : Int) ∧ bytes = 0) := by omega
    have hnotB : ¬ 281474976710656 < Builtin.nextslicecap (n + m) c' * bytes := by omega
    have hqf : q.forced = false := by rw [hq]; rfl
    have hd1 : w1 = w.drew := by rw [hw1]; rfl
    subst hd1
    simp [newRow, hnotA, hnotB, hti, hib, ← hq, ← hnc, hqf, hof w.drew hh1, hnf w.drew hh1, hz3]
    have e9 : olds'.toArray ++ (news'.toArray ++ Builtin.zeroCells zv.cells (nc - (n + m))) = (olds' ++ news').toArray ++ Builtin.zeroCells zv.cells (nc - (n + m)) := by
      apply Array.ext'
      simp
    rw [e9]
    rfl
  obtain ⟨x, hx⟩ : ∃ x : Obj, x = .cells (olds'.toArray ++ news'.toArray ++ Builtin.zeroCells zv.cells (nc - (n + m))) el := ⟨_, rfl⟩
  obtain ⟨w2, hw2⟩ : ∃ w2 : World, w2 = { w1 with heap := w1.heap.push x } := ⟨_, rfl⟩
  have hheap : w2.heap = w.heap.push x := by rw [hw2, hw1]
  have hsh : Shows M w2 ⟨w.heap.size, 0, some (sz, nc * sz)⟩ (.cells (olds ++ news) (some sz)) := by
    refine ⟨rfl, _, el, (0, 0), by rw [hheap, ← hx]; exact Array.getElem?_push_size, fun j v hv => ?_, .inl rfl, fun sz' room h => ?_⟩
    · have hc := ho.append hn
      have hj : j < (olds' ++ news').length := by rw [← hc.1]; exact (List.getElem?_eq_some_iff.1 hv).1
      refine ⟨(olds' ++ news')[j], ?_, hc.2 j v _ hv (List.getElem?_eq_getElem hj)⟩
      have hj' : j < olds'.length + news'.length := by simpa using hj
      rw [Array.getElem?_append]
      simp only [Nat.zero_add, List.append_toArray, List.size_toArray]
      rw [if_pos hj]
      simp
    · simp only [Option.some.injEq, Prod.mk.injEq] at h
      obtain ⟨rfl, rfl⟩ := h
      have e1 : olds'.length = n * sz := by rw [← ho.1, hol]
      have e2 : news'.length = m * sz := by rw [← hn.1, hnl]
      have e3 : zv.cells.size = sz := by rw [hz2]; simp [hzl]
      simp [Builtin.zeroCells, e1, e2, e3]
      rw [← Nat.add_mul, ← Nat.add_mul]
      exact Nat.le_of_eq (by congr 1; omega)
  obtain ⟨a1, a2⟩ := hr.push (l := ⟨w.heap.size, 0, some (sz, nc * sz)⟩) rfl hheap rfl hsh (by rw [hw2, hw1]) (by rw [hw2, hw1]) (by rw [hw2, hw1])
  rw [← hx] at hrun
  rw [hw2] at a1 a2
  exact ⟨_, _, _, hrun, .cell _ _ (.grown _ 0 (n + m) (n + m) nc sz (nc * sz) w.heap.size 0 (Places.upd_same _ _ _) hncge (by simp)), a1, a2⟩
theorem append_fits_run {t ty el : TypeId} {ts : Array TypeId} {sz n m c' : Nat} {base : Option Addr} {x' : Value} {news' : List Value} (hts : ts[0]? = some t) (ht1 : ∃ t1, ts[1]? = some t1 ∧ ∃ d, P.underlying t1 = some d ∧ ∀ k, d ≠ .int k)
    (hu : P.underlying t = some (.slice el)) (hsz : tSize P el = some sz) (hlen : ∀ w, (Builtin.lenOf x').run P w = .ok m w) (hnf : (Builtin.firstCells sz m x').run P w = .ok news'.toArray w) (hle : n + m ≤ c') :
    (Builtin.append_ ts ty #[.slice base n c', x']).run P w = ((match base with | some a => storeCells (a.add (n * sz)) news' | none => pure () : Sem Unit).run P w).andThen fun _ w' => .ok (.slice base (n + m) c') w' := by
  obtain ⟨t1, ht1, d, hd, hdi⟩ := ht1
  have hmint : (match d with | .int _ => true | _ => false) = false := by cases d <;> first | rfl | exact absurd rfl (hdi _)
  unfold Builtin.append_
  cases base <;> simp [hts, ht1, run_underlying hu, run_tSize hsz, run_underlying hd, hmint, hlen, hle, hnf]
theorem append_sound {t ty el : TypeId} {ts : Array TypeId} {sz bytes : Nat} {s s' x x' u : Value} {ze : List Value} {σ' : Store} (hts : ts[0]? = some t) (ht1 : ∃ t1, ts[1]? = some t1 ∧ ∃ d, P.underlying t1 = some d ∧ ∀ k, d ≠ .int k)
    (hu : P.underlying t = some (.slice el)) (hsz : tSize P el = some sz) (hby : tBytes P el = some bytes) (hze : tZeros P el = some ze) (hzl : ze.length = sz) (hs : VR M false s s') (hx : VR M false x x') (hr : Rel M σ w) (h : appendV sz bytes s x σ = some (u, σ')) :
    ∃ u' w' M', (Builtin.append_ ts ty #[s', x']).run P w = .ok u' w' ∧ VR M' false u u' ∧ Rel M' σ' w' ∧ Step σ M w σ' M' w' := by
  unfold appendV at h
  split at h
  · cases h
  rename_i m hm
  have hlen := fun w => lenV_sound (P := P) hx hm w
  split at h
  · cases h
  rename_i news hnews
  obtain ⟨news', hn1, hn2, hn3⟩ := source_sound (P := P) hr hx hnews
  split at h
  · -- nil
    have := VR.scalar_eq (v := .slice none 0 0) rfl hs
    subst this
    split at h
    · cases h
      refine ⟨.slice none (0 + 0) 0, w, M, ?_, .cell _ _ (.scalar _ rfl), hr, Step.refl _ _ _⟩
      rw [append_fits_run hts ht1 hu hsz hlen (hn3 w rfl) (by omega)]
      simp
    · rename_i hm0
      cases hc : (Nat.ble (m * bytes) 140737488355328 && Nat.ble m 9223372036854775807) <;> rw [hc] at h <;> simp only [cond_true, cond_false] at h
      case false => cases h
      simp only [Bool.and_eq_true] at hc
      have hc1 := Nat.le_of_ble_eq_true hc.1
      have hc2 := Nat.le_of_ble_eq_true hc.2
      cases h
      have hmpos : 0 < m := Nat.pos_of_ne_zero fun e => hm0 e
      obtain ⟨v', w', M', a1, a2, a3, a4⟩ := grow_sound (P := P) (ty := ty) (n := 0) (c' := 0) (base := none) (olds := []) (olds' := []) hts ht1 hu hsz hby hze hzl hr hlen Cells.nil (by simp) (fun w' _ => rfl) hn1 hn2 hn3 (by omega) (by simpa using hc1) (by simpa using hc2)
      simp only [List.nil_append, Nat.zero_add] at a2 a3 a4
      exact ⟨v', w', M', a1, a2, a3, a4⟩
  · rename_i i o g n c
    obtain ⟨l, c', hl, rfl, hcc, hor⟩ := VR.slice_ hs
    have same : ∀ k, VR M false (.slice (some ⟨i, o, g⟩) k c) (.slice (some ⟨l.block, l.base + o, none⟩) k c') := fun k => by
      rcases hor with ⟨rfl, rfl⟩ | ⟨sz', room, rfl, hg, hroom⟩
      · exact .cell _ _ (.slice i o k _ l hl)
      · obtain ⟨lb, lbase, lg⟩ := l
        simp only at hg
        subst hg
        exact .cell _ _ (.grown i o k c c' sz' room lb lbase hl hcc hroom)
    have nothing : m = 0 → n ≤ c → ∃ u' w' M', (Builtin.append_ ts ty #[.slice (some ⟨l.block, l.base + o, none⟩) n c', x']).run P w = .ok u' w' ∧ VR M' false (.slice (some ⟨i, o, g⟩) n c) u' ∧ Rel M' σ w' ∧ Step σ M w σ M' w' := fun hm0 hnc => by
      subst hm0
      have hnil : news' = [] := List.eq_nil_of_length_eq_zero (by rw [← hn1.1, hn2]; simp)
      subst hnil
      refine ⟨.slice (some ⟨l.block, l.base + o, none⟩) (n + 0) c', w, M, ?_, same n, hr, Step.refl _ _ _⟩
      rw [append_fits_run hts ht1 hu hsz hlen (hn3 w rfl) (by omega)]
      simp [storeCells]
    split at h
    · -- cells
      rename_i cs g' hg
      cases hgg : (g == none || (g == some sz && g' == some sz)) <;> rw [hgg] at h <;> simp only [cond_true, cond_false] at h
      case false => cases h
      split at h
      · cases hnc : Nat.ble n c <;> rw [hnc] at h <;> simp only [cond_true, cond_false] at h
        case false => cases h
        cases h
        exact nothing rfl (Nat.le_of_ble_eq_true hnc)
      · rename_i hm0
        have hmpos : 0 < m := Nat.pos_of_ne_zero fun e => hm0 e
        cases hfit : Nat.ble (n + m) c <;> rw [hfit] at h <;> simp only [cond_true, cond_false] at h
        case true =>
          have hfit' := Nat.le_of_ble_eq_true hfit
          cases hle : Nat.ble (o + (n + m) * sz) cs.length <;> rw [hle] at h <;> simp only [cond_true, cond_false] at h
          case false => cases h
          have hle' := Nat.le_of_ble_eq_true hle
          cases h
          have e1 : (n + m) * sz = n * sz + m * sz := Nat.add_mul _ _ _
          obtain ⟨w', a1, a2, a3⟩ := write_cells (P := P) hr hg hl hn1 (off := o + n * sz) (by omega)
          refine ⟨_, w', M, ?_, same (n + m), a2, a3⟩
          rw [append_fits_run hts ht1 hu hsz hlen (hn3 w rfl) (by omega)]
          simp only [add_mk, Nat.add_assoc, a1, Result.andThen_ok]
        case false =>
          have hfit' : ¬ n + m ≤ c := fun h => by rw [Nat.ble_eq_true_of_le h] at hfit; cases hfit
          cases hc : (Nat.ble ((n + m) * bytes) 140737488355328 && Nat.ble (n + m) 9223372036854775807 && Nat.ble (o + n * sz) cs.length) <;> rw [hc] at h <;> simp only [cond_true, cond_false] at h
          case false => cases h
          simp only [Bool.and_eq_true] at hc
          have hc1 := Nat.le_of_ble_eq_true hc.1.1
          have hc2 := Nat.le_of_ble_eq_true hc.1.2
          have hc3 := Nat.le_of_ble_eq_true hc.2
          have hca : cellsAt ⟨i, o, g⟩ σ = some (cs.drop o) := by simp [cellsAt, hg]
          obtain ⟨olds', ho1, ho2⟩ := cellsAt_sound (P := P) hr hl hca (n := n * sz) (by simp; omega)
          have hol : ((cs.drop o).take (n * sz)).length = n * sz := by simp; omega
          have hof : ∀ w' : World, w'.heap = w.heap → (Builtin.firstCells sz n (.slice (some ⟨l.block, l.base + o, none⟩) n c')).run P w' = .ok olds'.toArray w' := fun w' hw => ho2 w' hw
          rcases hor with ⟨rfl, rfl⟩ | ⟨sz', room, rfl, hgr, hroom⟩
          · cases h
            obtain ⟨v', w', M', a1, a2, a3, a4⟩ := grow_sound (P := P) (ty := ty) hts ht1 hu hsz hby hze hzl hr hlen ho1 hol hof hn1 hn2 hn3 (by omega) hc1 hc2
            exact ⟨v', w', M', a1, a2, a3, a4⟩
          · cases h
            have hsz' : sz' = sz := by simp at hgg; exact hgg.1
            subst hsz'
            have hlt := Store.lt_of_get hg
            by_cases hin : n + m ≤ c'
            · obtain ⟨l', h1, hsh⟩ := hr.shows i _ hg
              rw [hl] at h1; cases h1
              obtain ⟨hgm, arr, e, fz, h2, h3, h4, h5⟩ := hsh
              have hroom2 := h5 sz' room hgr
              have e1 : (n + m) * sz' = n * sz' + m * sz' := Nat.add_mul _ _ _
              have e2 : (n + m) * sz' ≤ c' * sz' := Nat.mul_le_mul_right _ hin
              have hnl' : news'.length = m * sz' := by rw [← hn1.1, hn2]
              obtain ⟨arr', q1, q2, q3⟩ := run_storeCells (P := P) l.block e fz news' (l.base + o + n * sz') 0 arr w h2 (by omega) (h4.imp id (·.2)) hn1.oneCell
              obtain ⟨a1, a2⟩ := hr.hand (w' := { w with heap := w.heap.setIfInBounds l.block (.cells arr' e fz) }) (o' := .cells ((cs.drop o).take (n * sz') ++ news) (some sz')) (l' := ⟨l.block, l.base + o, some (sz', room - o)⟩) hg hl rfl rfl rfl (by simp) (fun b hb => by simp [Array.getElem?_setIfInBounds_ne (Ne.symm hb)])
                ⟨rfl, arr', e, fz, by
                  have hlt := (Array.getElem?_eq_some_iff.1 h2).1
                  simp [hlt], fun j v hv => by
                  rw [List.getElem?_append, hol] at hv
                  show ∃ v', arr'[l.base + o + j]? = some v' ∧ VR M true v v'
                  rw [q2, Nat.add_zero]
                  by_cases hj : j < n * sz'
                  · rw [if_pos hj] at hv
                    rw [if_neg (by omega)]
                    rw [List.getElem?_take, if_pos hj, List.getElem?_drop] at hv
                    have := h3 (o + j) v hv
                    rwa [← Nat.add_assoc] at this
                  · rw [if_neg hj] at hv
                    have hjl : j - n * sz' < news'.length := by rw [← hn1.1]; exact (List.getElem?_eq_some_iff.1 hv).1
                    rw [if_pos (by omega), show l.base + o + j - (l.base + o + n * sz') = j - n * sz' from by omega]
                    exact ⟨news'[j - n * sz'], List.getElem?_eq_getElem hjl, hn1.2 _ v _ hv (List.getElem?_eq_getElem hjl)⟩, by
                  rw [q1]; exact h4.imp id (fun h => ⟨by simp, h.2⟩), fun s2 r2 h => by
                  simp only [Option.some.injEq, Prod.mk.injEq] at h
                  obtain ⟨rfl, rfl⟩ := h
                  rw [q1]; simp only; omega⟩ rfl rfl rfl
              refine ⟨.slice (some ⟨l.block, l.base + o, none⟩) (n + m) c', _, _, ?_, ?_, a1, a2⟩
              · rw [append_fits_run hts ht1 hu hsz hlen (hn3 w rfl) hin]
                simp only [add_mk, q3, Result.andThen_ok]
              · exact .cell _ _ (.grown σ.next 0 (n + m) (n + m) c' sz' (room - o) l.block (l.base + o) (Places.upd_same _ _ _) hin (by omega))
            · obtain ⟨b1, b2⟩ := hr.forget hlt
              obtain ⟨v', w', M', a1, a2, a3, a4⟩ := grow_sound (P := P) (ty := ty) hts ht1 hu hsz hby hze hzl b1 hlen ho1 hol hof hn1 hn2 hn3 (by omega) hc1 hc2
              rw [Store.next_put_lt _ _ hlt] at a2
              exact ⟨v', w', M', a1, a2, a3, b2.trans a4⟩
    · -- lent
      rename_i cs hg
      split at h
      · cases hnc : (g.isNone && Nat.ble n c) <;> rw [hnc] at h <;> simp only [cond_true, cond_false] at h
        case false => cases h
        cases h
        simp only [Bool.and_eq_true] at hnc
        exact nothing rfl (Nat.le_of_ble_eq_true hnc.2)
      · rename_i hm0
        cases hfit : (Nat.ble (n + m) c || g.isSome) <;> rw [hfit] at h <;> simp only [cond_true, cond_false] at h
        case true => cases h
        simp only [Bool.or_eq_false_iff] at hfit
        have hfit' : ¬ n + m ≤ c := fun h => by have := hfit.1; rw [Nat.ble_eq_true_of_le h] at this; cases this
        cases hc : (Nat.ble ((n + m) * bytes) 140737488355328 && Nat.ble (n + m) 9223372036854775807 && Nat.ble (o + n * sz) cs.length) <;> rw [hc] at h <;> simp only [cond_true, cond_false] at h
        case false => cases h
        simp only [Bool.and_eq_true] at hc
        have hc1 := Nat.le_of_ble_eq_true hc.1.1
        have hc2 := Nat.le_of_ble_eq_true hc.1.2
        have hc3 := Nat.le_of_ble_eq_true hc.2
        have hca : cellsAt ⟨i, o, g⟩ σ = some (cs.drop o) := by simp [cellsAt, hg]
        obtain ⟨olds', ho1, ho2⟩ := cellsAt_sound (P := P) hr hl hca (n := n * sz) (by simp; omega)
        have hol : ((cs.drop o).take (n * sz)).length = n * sz := by simp; omega
        have hof : ∀ w' : World, w'.heap = w.heap → (Builtin.firstCells sz n (.slice (some ⟨l.block, l.base + o, none⟩) n c')).run P w' = .ok olds'.toArray w' := fun w' hw => ho2 w' hw
        rcases hor with ⟨rfl, rfl⟩ | ⟨sz', room, rfl, _, _⟩
        · cases h
          obtain ⟨v', w', M', a1, a2, a3, a4⟩ := grow_sound (P := P) (ty := ty) hts ht1 hu hsz hby hze hzl hr hlen ho1 hol hof hn1 hn2 hn3 (by omega) hc1 hc2
          exact ⟨v', w', M', a1, a2, a3, a4⟩
        · simp at hfit
    · cases h
  · cases h
end Go.Am
