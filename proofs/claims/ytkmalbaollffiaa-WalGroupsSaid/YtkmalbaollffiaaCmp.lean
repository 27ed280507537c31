/- What a commit does, write by write: lists of operations. -/
import Derived.Test.YtkmalbaollffiaaStr
set_option linter.all false
set_option maxRecDepth 100000
set_option maxHeartbeats 400000
namespace Go.Proofs.Ytkmalbaollffiaa
open Go.Am
variable {σ : Store} {Q : Value → Store → Prop} {g : Geo} {s : DS} {w : WS} {m : Nat} {l d nid : Nat} {F G B X : List Nat} {st sB : Store}
/-- Three elements and more are put behind a slice. -/
theorem SlG.apps {sz by_ n t j k : Nat} {g gj : Option Nat} {v : Value} {c news : List Value} (h : SlG σ sz v n c) (hj : σ.get j = some (.cells news g)) (hl : news.length = (t + 1) * sz) (hb : (n + (t + 1)) * by_ ≤ 140737488355328) (hn : n + (t + 1) ≤ 9223372036854775807) (hs : 0 < sz) :
    ∃ s', appendV sz by_ v (.slice (some ⟨j, 0, gj⟩) (t + 1) k) σ = some (.slice (some ⟨σ.next, 0, some sz⟩) (n + (t + 1)) (n + (t + 1)), s') ∧ SlG s' sz (.slice (some ⟨σ.next, 0, some sz⟩) (n + (t + 1)) (n + (t + 1))) (n + (t + 1)) (c ++ news) ∧ s'.next = σ.next + 1 ∧ ∀ i, i < σ.next → i ∉ idsV v → s'.get i = σ.get i := by
  have hlen := h.1
  rcases h.2 with ⟨rfl, rfl⟩ | ⟨i, rfl, h2, h3⟩
  · have hc : c = [] := List.eq_nil_of_length_eq_zero (by rw [hlen]; simp)
    subst hc
    have e : 0 + (t + 1) = t + 1 := Nat.zero_add _
    rw [e] at hb hn ⊢
    refine ⟨_, append_nil hj hl hb hn, ⟨by simp [hl], .inr ⟨_, rfl, ?_, by omega⟩⟩, Store.next_push _ _, fun i hi _ => Store.get_push_lt hi⟩
    rw [Store.get_push_same]; rfl
  · have hi := Store.lt_of_get h2
    have hnx : (σ.put i none).next = σ.next := Store.next_put_lt _ _ hi
    have e : (σ.put i none).push (.cells (c ++ news) (some sz)) = (σ.put i none).put σ.next (some (.cells (c ++ news) (some sz))) := by unfold Store.push; rw [hnx]
    refine ⟨_, append_full h2 hlen hj hl hb hn, ⟨by simp [hlen, hl, Nat.add_mul], .inr ⟨_, rfl, ?_, by omega⟩⟩, ?_, fun x hx hxi => ?_⟩
    · rw [e, Store.get_put_same]
    · rw [Store.next_push, hnx]
    · have hne : x ≠ i := by simpa [idsV] using hxi
      rw [Store.get_push_lt (by omega), Store.get_put_ne _ _ hne]
abbrev Hist := List (Int × Int × List Int)
/-- An operation, in cells. -/
def opC (o : Int × Int × List Int) : List Value := .int .u8 o.1 :: .int .i64 o.2.1 :: bc o.2.2
theorem histC_cons (o : Int × Int × List Int) (h : Hist) : histC (o :: h) = opC o ++ histC h := by
  obtain ⟨k, i, b⟩ := o; simp [histC, opC]
theorem histC_append (a b : Hist) : histC (a ++ b) = histC a ++ histC b := by
  induction a with
  | nil => rfl
  | cons o a ih => rw [List.cons_append, histC_cons, histC_cons, ih, List.append_assoc]
theorem histC_one (o : Int × Int × List Int) : histC [o] = opC o := by rw [histC_cons]; simp [histC]
theorem opC_len {o : Int × Int × List Int} (h : o.2.2.length = 1024) : (opC o).length = 1026 := by simp [opC, h]
theorem histC_len {h : Hist} (hl : ∀ o ∈ h, o.2.2.length = 1024) : (histC h).length = h.length * 1026 := by
  induction h with
  | nil => rfl
  | cons o h ih => rw [histC_cons, List.length_append, opC_len (hl o (List.mem_cons_self ..)), ih fun p hp => hl p (List.mem_cons_of_mem _ hp)]; simp; omega
theorem histC_at {h : Hist} (hl : ∀ o ∈ h, o.2.2.length = 1024) {j : Nat} {o : Int × Int × List Int} (ho : h[j]? = some o) : ((histC h).drop (j * 1026)).take 1026 = opC o := by
  induction h generalizing j with
  | nil => simp at ho
  | cons p h ih =>
    have hp := opC_len (hl p (List.mem_cons_self ..))
    rw [histC_cons]
    cases j with
    | zero => simp at ho; subst ho; rw [Nat.zero_mul, List.drop_zero, List.take_left' hp]
    | succ j =>
      rw [show (j + 1) * 1026 = (opC p).length + j * 1026 by rw [hp]; omega, List.drop_append, List.drop_of_length_le (by omega), List.nil_append]
      rw [show (opC p).length + j * 1026 - (opC p).length = j * 1026 by omega]
      exact ih (fun q hq => hl q (List.mem_cons_of_mem _ hq)) (by simpa using ho)
theorem eq_op {o : Int × Int × List Int} (h : o.2.2.length = 1024) (neg : Bool) : eqA (.fields [(0, 1, (.one (.int .u8))), (1, 1, (.one (.int .i64))), (2, 1024, (.ints .u8 1024))]) neg (.agg ⟨opC o⟩) (.agg ⟨opC o⟩) = some (.bool (true ^^ neg)) := by
  have e : (bc o.2.2).take 1024 = bc o.2.2 := List.take_of_length_le (by simp [h])
  simp [eqA, eqD, eqDs, opC, eqLeaf, eq1, e, eqInts_bc 1024 o.2.2 o.2.2 h h]
/-- The operations, as a disk's history has them. -/
def toH : DOp → Int × Int × List Int
  | .w i b => (1, i, b)
  | .bar => (2, 0, zb)
theorem run_hist : ∀ {l : List DOp} {s : DS}, (s.run l).1 = 0 → (∀ i b, DOp.w i b ∈ l → 0 ≤ i ∧ i < s.n) → (s.run l).2.hist = s.hist ++ l.map toH
  | [], s, _, _ => by simp [DS.run]
  | o :: l, s, h, hl => by
    rw [run_cons] at h ⊢
    by_cases h0 : (s.op o).1 = 0
    · rw [if_pos h0] at h ⊢
      rw [run_hist h fun i b hb => by rw [op_n]; exact hl i b (List.mem_cons_of_mem _ hb)]
      have : (s.op o).2.hist = s.hist ++ [toH o] := by
        cases o with
        | w i b =>
          have hi := hl i b (List.mem_cons_self ..)
          have h0 : (s.write i b).1 = 0 := h0
          show (s.write i b).2.hist = _
          unfold DS.write at h0 ⊢
          split at h0
          · cases h0
          · split at h0
            · omega
            · split at h0
              · cases h0
              · rename_i a1 a2 a3
                rw [if_neg a1, if_neg a2, if_neg a3]; rfl
        | bar =>
          have h0 : s.barrier.1 = 0 := h0
          show s.barrier.2.hist = _
          unfold DS.barrier at h0 ⊢
          split at h0
          · cases h0
          · split at h0
            · cases h0
            · rename_i a1 a2
              rw [if_neg a1, if_neg a2]; rfl
      rw [this, List.map_cons, List.append_assoc]; rfl
    · rw [if_neg h0] at h; cases h
/-- The bytes of a group, one block behind another. -/
def dataF : List (Int × List Int) → List Int
  | [] => []
  | p :: o => p.2 ++ dataF o
theorem dataF_len {o : List (Int × List Int)} (h : ∀ p ∈ o, p.2.length = 1024) : (dataF o).length = o.length * 1024 := by
  induction o with
  | nil => rfl
  | cons p o ih => simp [dataF, h p (List.mem_cons_self ..), ih fun q hq => h q (List.mem_cons_of_mem _ hq)]; omega
theorem dataF_app (a b : List (Int × List Int)) : dataF (a ++ b) = dataF a ++ dataF b := by
  induction a with
  | nil => rfl
  | cons p a ih => simp [dataF, ih]
theorem dataF_at {o : List (Int × List Int)} (h : ∀ p ∈ o, p.2.length = 1024) {k : Nat} {p : Int × List Int} (hp : o[k]? = some p) : ((dataF o).drop (k * 1024)).take 1024 = p.2 := by
  induction o generalizing k with
  | nil => simp at hp
  | cons q o ih =>
    have hq := h q (List.mem_cons_self ..)
    cases k with
    | zero => simp at hp; subst hp; simp only [dataF, Nat.zero_mul, List.drop_zero]; exact List.take_left' hq
    | succ k =>
      simp only [dataF]
      rw [show (k + 1) * 1024 = q.2.length + k * 1024 by rw [hq]; omega, List.drop_append, List.drop_of_length_le (by omega), List.nil_append, show q.2.length + k * 1024 - q.2.length = k * 1024 by omega]
      exact ih (fun r hr => h r (List.mem_cons_of_mem _ hr)) (by simpa using hp)
theorem map_not {o : List (Int × List Int)} {x : Int} {b : List Int} (h : x ∉ ordL o) : (o.map fun p => if p.1 = x then (x, b) else p) = o := by
  induction o with
  | nil => rfl
  | cons p o ih =>
    simp only [ordL, List.map_cons, List.mem_cons, not_or] at h
    rw [List.map_cons, if_neg (fun e => h.1 e.symm), ih h.2]
theorem dataF_set {o : List (Int × List Int)} (h : ∀ p ∈ o, p.2.length = 1024) (hn : (ordL o).Nodup) {k : Nat} {x : Int} (hx : (ordL o)[k]? = some x) {b : List Int} (hb : b.length = 1024) : dataF (putG o x b) = layB (dataF o) (k * 1024) b := by
  have hmem : x ∈ ordL o := List.mem_of_getElem? hx
  unfold putG
  rw [if_pos hmem]
  clear hmem
  induction o generalizing k with
  | nil => simp [ordL] at hx
  | cons p o ih =>
    have hp := h p (List.mem_cons_self ..)
    have hn' : p.1 ∉ ordL o ∧ (ordL o).Nodup := by simpa [ordL] using hn
    cases k with
    | zero =>
      have e : p.1 = x := by simpa [ordL] using hx
      rw [List.map_cons, if_pos e, map_not (e ▸ hn'.1)]
      simp only [dataF, layB, Nat.zero_mul, List.take_zero, List.nil_append, Nat.zero_add]
      rw [show b.length = p.2.length by omega, List.drop_left]
    | succ k =>
      have hx' : (ordL o)[k]? = some x := by simpa [ordL] using hx
      have hne : p.1 ≠ x := fun e => hn'.1 (e ▸ List.mem_of_getElem? hx')
      rw [List.map_cons, if_neg hne]
      simp only [dataF]
      rw [ih (fun q hq => h q (List.mem_cons_of_mem _ hq)) hn'.2 hx']
      unfold layB
      rw [show (k + 1) * 1024 = p.2.length + k * 1024 by rw [hp]; omega, List.take_append, List.take_of_length_le (show p.2.length ≤ p.2.length + k * 1024 by omega), show p.2.length + k * 1024 - p.2.length = k * 1024 by omega, show p.2.length + k * 1024 + b.length = p.2.length + (k * 1024 + b.length) by omega, List.drop_append, List.drop_of_length_le (show p.2.length ≤ p.2.length + (k * 1024 + b.length) by omega), List.nil_append, show p.2.length + (k * 1024 + b.length) - p.2.length = k * 1024 + b.length by omega]
      simp
theorem dataF_new {o : List (Int × List Int)} (h : ∀ p ∈ o, p.2.length = 1024) {x : Int} (hx : x ∉ ordL o) {b : List Int} (hb : b.length = 1024) : dataF (putG o x b) = layB (dataF o ++ zb) (o.length * 1024) b := by
  unfold putG layB
  have hl := dataF_len h
  rw [if_neg hx, dataF_app, List.take_left' hl, hb, List.drop_of_length_le (by rw [List.length_append, hl, zb_len]; omega), List.append_nil]
  simp [dataF]
end Go.Proofs.Ytkmalbaollffiaa
