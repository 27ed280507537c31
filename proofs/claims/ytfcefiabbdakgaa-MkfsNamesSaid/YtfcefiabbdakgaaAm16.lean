/- The abstract machine, part 16: one operation of a region that draws its order. No program in sight. -/
import Derived.Test.YtfcefiabbdakgaaAm15
set_option linter.all false
namespace Go.Am
open Go.RowKit
variable {P : Program} {ds : List Deferred}

theorem put_defers {a : Act} {d : Option Tmp} {v : Value} {ds : List Deferred} (h : a.defers = ds) : (a.put d v).defers = ds := by
  cases d <;> exact h
theorem length_le_of_nodup : ∀ (l l' : List Nat), l.Nodup → (∀ x ∈ l, x ∈ l') → l.length ≤ l'.length
  | [], l', _, _ => Nat.zero_le _
  | x :: l, l', hn, hs => by
    rw [List.nodup_cons] at hn
    have hx := hs x List.mem_cons_self
    have h1 := length_le_of_nodup l (l'.erase x) hn.2 fun y hy => by
      have hne : y ≠ x := fun e => hn.1 (e ▸ hy)
      exact (List.mem_erase_of_ne hne).2 (hs y (List.mem_cons_of_mem _ hy))
    rw [List.length_erase_of_mem hx] at h1
    have : 0 < l'.length := List.length_pos_of_mem hx
    simp only [List.length_cons]
    omega

theorem Rel.pushed {σ : Store} {M : Places} {w w' : World} {x : Obj} (h : Rel M σ w) (hw : w'.heap = w.heap.push x) : Rel M σ w' :=
  ⟨fun i o hi => by
    obtain ⟨l, hl, hs⟩ := h.shows i o hi
    refine ⟨l, hl, hs.same ?_⟩
    have := hs.lt
    rw [hw, Array.getElem?_push, if_neg (by omega)], h.apart, h.dom⟩
theorem Step.pushed {σ σ' : Store} {M M' : Places} {w0 w w' : World} {x : Obj} (h : Step σ M w0 σ' M' w) (hw : w'.heap = w.heap.push x) (h1 : w'.os = w.os) (h2 : w'.tape = w.tape) (h3 : w'.output = w.output) : Step σ M w0 σ' M' w' where
  next := h.next
  le := h.le
  size := by have := h.size; rw [hw]; simp; omega
  frame b hb hn := by
    have := h.size
    rw [← h.frame b hb hn, hw, Array.getElem?_push, if_neg (by omega)]
  owned := h.owned
  lent := h.lent
  os := h1.trans h.os
  tape := h2.trans h.tape
  output := h3.trans h.output

section
variable {ops : Array Oper} {b : Array Nat} {L : List Nat} {A : Nat → Value} {acts : Nat → List Value} {C S : Nat → Store}
variable (hst : ∀ q, q < L.length → StepOk P ops b L A acts C S q)
include hst
/-- New ids differ. -/
theorem new_ne {q q' : Nat} {ob ob' : SObj} (hq : q < L.length) (hq' : q' < L.length) (h : NewAt P ops L acts q ob) (h' : NewAt P ops L acts q' ob') (hne : q ≠ q') : (C q).next ≠ (C q').next := by
  have key : ∀ {q q' : Nat} {ob : SObj}, q < L.length → q' < L.length → NewAt P ops L acts q ob → q < q' → (C q).next < (C q').next := fun {q q' ob} hq hq' h hlt => by
    have h1 := new_next hst hq h
    have h2 := next_le hst (q := q + 1) (q' := q') (by omega) (by omega)
    rw [h1, Store.next_push] at h2
    omega
  rcases Nat.lt_or_gt_of_ne hne with h0 | h0
  · have := key hq hq' h h0; omega
  · have := key hq' hq h' h0; omega
theorem new_lt {q q' : Nat} {ob : SObj} (hq : q < L.length) (hq' : q' ≤ L.length) (h : NewAt P ops L acts q ob) (hlt : q < q') : (C q).next < (C q').next := by
  have h1 := new_next hst hq h
  have h2 := next_le hst (q := q + 1) (q' := q') (by omega) (by omega)
  rw [h1, Store.next_push] at h2
  omega
omit hst in
theorem Done.lt {listed : Array Bool} {q : Nat} (h : Done L listed q) : q < L.length := by
  obtain ⟨i, hi, _⟩ := h
  exact (List.getElem?_eq_some_iff.1 hi).1
omit hst in
theorem NewAt.is {q j : Nat} {o : Oper} {ob : SObj} (h : NewAt P ops L acts q ob) (hq : L[q]? = some j) (ho : ops[j]? = some o) : isEff o.op = false ∧ guardA ops (acts q) o = some true ∧ ∃ mk, action P o (aev (acts q)) = some (.new ob mk) := by
  obtain ⟨i, o', mk, h1, h2, h3, h4, h5⟩ := h
  rw [hq] at h1; cases h1
  rw [ho] at h2; cases h2
  exact ⟨h3, h4, mk, h5⟩

variable (hg : Good ops b L) {w0 : World} {M0 : Places} {listed : Array Bool} {a : Act} {w : World} {p : Nat} {M N : Places} (h : Inv P ops L A acts C S ds w0 M0 listed a w p M N) (hc : Closed ops listed)
variable {j q0 : Nat} {o : Oper} (hq0 : L[q0]? = some j) (ho : ops[j]? = some o) (hun : listed.getD j true = false) (hall : ∀ e ∈ o.after, Region.binds .any e = true → listed.getD e.on false = true)
include hg h hc hq0 ho hun hall
/-- The operands. -/
theorem Inv.ops_ (hok : okOp P o = true) {x : Operand} (hx : x ∈ o.op.operands.toList) : VR (below N (C q0).next) false (aev (acts q0) x) (a.eval x) := by
  have hql : q0 < L.length := (List.getElem?_eq_some_iff.1 hq0).1
  have hoo := okOp_operand hok hx
  cases x with
  | tmp t =>
    show VR _ false (aget (acts q0) t) (a.tmps.getD t undef)
    by_cases htl : t < (acts 0).length
    · have ht : t ∈ o.looksAt ops := by
        unfold Oper.looksAt
        rw [List.mem_append]
        exact .inl (List.mem_filterMap.2 ⟨.tmp t, hx, rfl⟩)
      obtain ⟨v', h1, h2⟩ := h.looks hg hst hc hq0 ho hun hall ht htl
      simp [h1]
      exact h2
    · have : aget (acts q0) t = junk := by
        unfold aget
        rw [List.getD_eq_getElem?_getD, List.getElem?_eq_none (by rw [acts_len hst q0 (by omega)]; exact Nat.not_lt.1 htl)]
        rfl
      rw [this]
      exact .junk _
  | const v => exact VR.of_closed hoo
  | global g => exact .junk _
  | func f => exact .cell _ _ (.func f _ _ _ _ rfl rfl (fun i v v' hv => by simp at hv) (fun i v v' hv => by simp at hv))
/-- The guard. -/
theorem Inv.guard {bb : Bool} (hgd : guardA ops (acts q0) o = some bb) : Region.wanted o (yielded ops a.tmps) = bb := by
  have hql : q0 < L.length := (List.getElem?_eq_some_iff.1 hq0).1
  unfold guardA at hgd
  unfold Region.wanted
  cases hgo : o.guard with
  | none => rw [hgo] at hgd; simpa using hgd
  | some jw =>
    obtain ⟨i, want⟩ := jw
    rw [hgo] at hgd
    simp only at hgd ⊢
    unfold yielded
    cases hd : (ops[i]?).bind (·.dst) with
    | none => rw [hd] at hgd; cases hgd
    | some t =>
      rw [hd] at hgd
      simp only [Option.bind_some] at hgd ⊢
      split at hgd
      · rename_i x hx
        have htl : t < (acts 0).length := by
          rcases Nat.lt_or_ge t (acts 0).length with h0 | h0
          · exact h0
          · unfold aget at hx
            rw [List.getD_eq_getElem?_getD, List.getElem?_eq_none (by rw [acts_len hst q0 (by omega)]; omega)] at hx
            cases hx
        have ht : t ∈ o.looksAt ops := by
          unfold Oper.looksAt
          rw [List.mem_append]
          exact .inr (by rw [hgo]; simp [hd])
        obtain ⟨v', h1, h2⟩ := h.looks hg hst hc hq0 ho hun hall ht htl
        rw [hx] at h2
        have := h2.bool_
        subst this
        rw [h1]
        simp only [Option.some.injEq] at hgd
        subst hgd
        cases x <;> cases want <;> rfl
      · rename_i x hx
        have htl : t < (acts 0).length := by
          rcases Nat.lt_or_ge t (acts 0).length with h0 | h0
          · exact h0
          · unfold aget at hx
            rw [List.getD_eq_getElem?_getD, List.getElem?_eq_none (by rw [acts_len hst q0 (by omega)]; omega)] at hx
            cases hx
        have ht : t ∈ o.looksAt ops := by
          unfold Oper.looksAt
          rw [List.mem_append]
          exact .inr (by rw [hgo]; simp [hd])
        obtain ⟨v', h1, h2⟩ := h.looks hg hst hc hq0 ho hun hall ht htl
        rw [hx] at h2
        have := h2.chan_
        subst this
        rw [h1]
        simp only [Option.some.injEq] at hgd
        subst hgd
        cases want <;> rfl
      · cases hgd
theorem Inv.unlisted : listed.getD j false = false ∧ ¬ Done L listed q0 ∧ p ≤ q0 ∧ j < listed.size := by
  have hjs : j < listed.size := by
    rcases Nat.lt_or_ge j listed.size with h0 | h0
    · exact h0
    · simp [Array.getElem?_eq_none h0] at hun
  have hunf : listed.getD j false = false := by
    simp [Array.getElem?_eq_getElem hjs] at hun ⊢; exact hun
  have hnd : ¬ Done L listed q0 := by
    rintro ⟨i, h1, h2⟩
    rw [hq0] at h1; cases h1
    rw [hunf] at h2; cases h2
  refine ⟨hunf, hnd, ?_, hjs⟩
  rcases Nat.lt_or_ge q0 p with h0 | h0
  · exact absurd (h.low q0 h0) hnd
  · exact h0
theorem Inv.done_iff (q : Nat) : Done L (listed.setIfInBounds j true) q ↔ q = q0 ∨ Done L listed q := by
  obtain ⟨_, _, _, hjs⟩ := h.unlisted hst hg hc hq0 ho hun hall
  constructor
  · rintro ⟨i, h1, h2⟩
    by_cases e : j = i
    · subst e; exact .inl (hg.nodup q q0 _ h1 hq0)
    · rw [getD_set_ne false e] at h2
      exact .inr ⟨i, h1, h2⟩
  · rintro (rfl | ⟨i, h1, h2⟩)
    · exact ⟨j, hq0, by simp [hjs]⟩
    · exact ⟨i, h1, getD_set_true h2⟩
/-- An operation that writes has all before it behind it. -/
theorem Inv.all_done (he : isEff o.op = true) : ∀ q, q < q0 → Done L listed q := fun q hq => by
  have hql : q0 < L.length := (List.getElem?_eq_some_iff.1 hq0).1
  have hLq : L[q]? = some L[q] := List.getElem?_eq_getElem (by omega)
  have := hg.pre q0 j o hq0 ho he q _ hq hLq
  exact ⟨_, hLq, (hg.anc _ _ this).of_ready hc ho hall⟩
theorem Inv.eff_false {q i : Nat} (he : isEff o.op = true) (h1 : p ≤ q) (h2 : q < q0) (hi : L[q]? = some i) : effAt ops i = false :=
  h.high q i h1 (h.all_done hst hg hc hq0 ho hun hall he q h2) hi
/-- Behind an operation that writes. -/
theorem Inv.ran (he : isEff o.op = true) {v' : Value} {M' : Places} {w' : World} (hv : VR M' false (A q0) v') (hr : Rel M' (C (q0 + 1)) w') (hs : Step (C q0) (below N (C q0).next) w (C (q0 + 1)) M' w') :
    ∃ p' M'' N', Inv P ops L A acts C S ds w0 M0 (listed.setIfInBounds j true) (a.put o.dst v') w' p' M'' N' := by
  have hql : q0 < L.length := (List.getElem?_eq_some_iff.1 hq0).1
  obtain ⟨hunf, hnd, hpq, hjs⟩ := h.unlisted hst hg hc hq0 ho hun hall
  have hdone := h.done_iff hst hg hc hq0 ho hun hall
  have had := h.all_done hst hg hc hq0 ho hun hall he
  have heff : effAt ops j = true := by simp [effAt, ho, he]
  obtain ⟨b1, b2, b3⟩ := h.absorb hst q0 hpq (by omega) had fun q i h1 h2 hi => h.high q i h1 (had q h2) hi
  have hbase : C (q0 + 1) = S (effCount ops L (q0 + 1)) := by
    rw [effCount_succ hq0, heff]
    obtain ⟨i', o', g1, g2, _, g⟩ := hst q0 hql
    rw [hq0] at g1; cases g1
    rw [ho] at g2; cases g2
    rcases g with ⟨_, g, _⟩ | ⟨g, _⟩
    · exact g.symm
    · rw [he] at g; cases g
  have hnew0 : ∀ ob, ¬ NewAt P ops L acts q0 ob := fun ob hn => by
    have := (hn.is hq0 ho).1
    rw [he] at this; cases this
  -- the floats behind
  have hfl : ∀ id, (C q0).next ≤ id → N id ≠ none → ∃ q ob, q0 + 1 ≤ q ∧ Done L listed q ∧ NewAt P ops L acts q ob ∧ id = (C q).next := fun id hid hn => by
    obtain ⟨q, ob, h1, h2, h3, h4⟩ := h.dom id (Nat.le_trans (next_le hst hpq (by omega)) hid) hn
    refine ⟨q, ob, ?_, h2, h3, h4⟩
    rcases Nat.lt_or_ge q q0 with h5 | h5
    · have := new_lt hst h2.lt (by omega) h3 h5
      omega
    · have : q ≠ q0 := fun e => hnew0 ob (e ▸ h3)
      omega
  let N' : Places := fun id => if id < (C (q0 + 1)).next then M' id else N id
  have hN' : ∀ id, (C (q0 + 1)).next ≤ id → N' id = N id := fun id hid => if_neg (by omega)
  have hNlt : ∀ id, id < (C (q0 + 1)).next → N' id = M' id := fun id hid => if_pos hid
  have hle : N.le N' := fun id l hid => by
    by_cases h1 : id < (C (q0 + 1)).next
    · rw [hNlt id h1]
      by_cases h2 : id < (C q0).next
      · exact hs.le id l (by rw [below_eq h2]; exact hid)
      · obtain ⟨q, ob, h3, h4, h5, h6⟩ := hfl id (by omega) (by rw [hid]; simp)
        have := next_le hst (q := q0 + 1) (q' := q) h3 (Nat.le_of_lt h4.lt)
        omega
    · rw [hN' id (by omega)]; exact hid
  have hM' : M'.le (below N' (C (q0 + 1)).next) := fun i l hi => by
    rcases Nat.lt_or_ge i (C (q0 + 1)).next with h1 | h1
    · rw [below_eq h1, hNlt i h1]; exact hi
    · rw [hr.dom i h1] at hi; cases hi
  have hge : ∀ q, q0 + 1 ≤ q → Done L listed q → (C (q0 + 1)).next ≤ (C q).next := fun q hq hd => next_le hst hq (Nat.le_of_lt hd.lt)
  have hdn : ∀ q, q0 + 1 ≤ q → Done L (listed.setIfInBounds j true) q → Done L listed q := fun q hq hd => ((hdone q).1 hd).resolve_left (by omega)
  refine ⟨q0 + 1, M', N', ⟨by omega, hbase, fun q hq => (hdone q).2 ?_, fun q i hq hd hi => h.high q i (by omega) (hdn q hq hd) hi, hr, fun id hid => hNlt id hid, fun q ob hq hd hn => ?_, fun q q' ob ob' l l' hq hq' hne hd hd' hn hn' hl hl' => ?_, fun id hid hn => ?_, h.put hg hst hc hle hq0 ho hun hall (hv.mono hM'), (put_defers h.defers), b2.trans hs⟩⟩
  · by_cases e : q = q0
    · exact .inl e
    · exact .inr (had q (by omega))
  · have hd := hdn q hq hd
    obtain ⟨l, f1, f2, f3, f4⟩ := h.flo q ob (by omega) hd hn
    have hdis : ∀ i x l', (C q0).get i = some x → below N (C q0).next i = some l' → l'.block ≠ l.block := fun i x l' hi hl' => by
      rcases b3 i x l' hi hl' with ⟨h1, h2⟩ | ⟨q1, ob', h1, h2, h3, h4, h5⟩
      · exact f4 i x l' h1 h2
      · exact h.apart q1 q ob' ob l' l h1 (by omega) (by omega) h3 hd h4 hn h5 f1
    have hno : ¬ Owned (C q0) (below N (C q0).next) l.block := by
      rintro ⟨i, x, l', h1, _, h2, h3⟩
      exact hdis i x l' h1 h2 h3
    refine ⟨l, by rw [hN' _ (hge q hq hd)]; exact f1, (f2.same (hs.frame _ f2.lt hno)).mono (below_mono hle _), f3, fun i x l' hi hl' e => ?_⟩
    cases hx : x.own with
    | true => exact hno (hs.owned _ f2.lt ⟨i, x, l', hi, hx, hl', e⟩)
    | false =>
      cases x with
      | lent c =>
        have hi' := hs.lent i c hi
        obtain ⟨l2, k1, _⟩ := b1.shows i _ hi'
        have := hs.le i l2 k1
        rw [hl'] at this; cases this
        exact hdis i _ l' hi' k1 e
      | _ => cases hx
  · have hd := hdn q hq hd
    have hd' := hdn q' hq' hd'
    rw [hN' _ (hge q hq hd)] at hl
    rw [hN' _ (hge q' hq' hd')] at hl'
    exact h.apart q q' ob ob' l l' (by omega) (by omega) hne hd hd' hn hn' hl hl'
  · rw [hN' id hid] at hn
    obtain ⟨q, ob, h1, h2, h3, h4⟩ := hfl id (Nat.le_trans (next_succ hst q0 hql) hid) hn
    exact ⟨q, ob, h1, (hdone q).2 (.inr h2), h3, h4⟩
/-- Behind an operation that makes nothing and writes nothing. -/
theorem Inv.quiet (he : isEff o.op = false) (hn0 : ∀ ob, ¬ NewAt P ops L acts q0 ob) {v' : Value} (hv : VR (below N (C q0).next) false (A q0) v') :
    Inv P ops L A acts C S ds w0 M0 (listed.setIfInBounds j true) (a.put o.dst v') w p M N := by
  have hql : q0 < L.length := (List.getElem?_eq_some_iff.1 hq0).1
  obtain ⟨hunf, hnd, hpq, hjs⟩ := h.unlisted hst hg hc hq0 ho hun hall
  have hdone := h.done_iff hst hg hc hq0 ho hun hall
  have hnew : ∀ q ob, NewAt P ops L acts q ob → Done L (listed.setIfInBounds j true) q → Done L listed q := fun q ob hn hd => ((hdone q).1 hd).resolve_left fun e => hn0 ob (e ▸ hn)
  refine ⟨h.pn, h.base, fun q hq => (hdone q).2 (.inr (h.low q hq)), fun q i hq hd hi => ?_, h.rel, h.ext, fun q ob hq hd hn => h.flo q ob hq (hnew q ob hn hd) hn, fun q q' ob ob' l l' hq hq' hne hd hd' hn hn' => h.apart q q' ob ob' l l' hq hq' hne (hnew q ob hn hd) (hnew q' ob' hn' hd') hn hn', fun id hid hn => ?_,
    h.put hg hst hc (Places.le_refl N) hq0 ho hun hall (hv.mono (below_le N (next_succ hst q0 hql))), (put_defers h.defers), h.step⟩
  · rcases (hdone q).1 hd with rfl | hd
    · rw [hq0] at hi; cases hi
      simp [effAt, ho, he]
    · exact h.high q i hq hd hi
  · obtain ⟨q, ob, h1, h2, h3, h4⟩ := h.dom id hid hn
    exact ⟨q, ob, h1, (hdone q).2 (.inr h2), h3, h4⟩
/-- Behind an operation that makes something. -/
theorem Inv.made {ob : SObj} (hn0 : NewAt P ops L acts q0 ob) {v' : Value} {l : Loc} {w' : World} {x : Obj} (hw : w'.heap = w.heap.push x) (hl : l.block = w.heap.size) (hs : Shows (below N (C q0).next) w' l ob)
    (hv : ∀ N i, N i = some l → i = (C q0).next → VR N false (A q0) v') (h1 : w'.os = w.os) (h2 : w'.tape = w.tape) (h3 : w'.output = w.output) :
    Inv P ops L A acts C S ds w0 M0 (listed.setIfInBounds j true) (a.put o.dst v') w' p M (N.upd (C q0).next l) := by
  have hql : q0 < L.length := (List.getElem?_eq_some_iff.1 hq0).1
  obtain ⟨hunf, hnd, hpq, hjs⟩ := h.unlisted hst hg hc hq0 ho hun hall
  have hdone := h.done_iff hst hg hc hq0 ho hun hall
  have hpn := next_le hst hpq (by omega)
  have hnx := new_next hst hql hn0
  have hnone : N (C q0).next = none := by
    cases hN : N (C q0).next with
    | none => rfl
    | some l' =>
      obtain ⟨q, ob', k1, k2, k3, k4⟩ := h.dom _ hpn (by rw [hN]; simp)
      exact absurd k4 (new_ne hst hql k2.lt hn0 k3 fun e => hnd (e ▸ k2))
  have hle : N.le (N.upd (C q0).next l) := Places.le_upd l hnone
  have hold : ∀ q ob', p ≤ q → Done L listed q → NewAt P ops L acts q ob' → q ≠ q0 ∧ (N.upd (C q0).next l) (C q).next = N (C q).next := fun q ob' _ hd hn => by
    have hne : q ≠ q0 := fun e => hnd (e ▸ hd)
    exact ⟨hne, Places.upd_ne l (new_ne hst hd.lt hql hn hn0 hne)⟩
  have hob : ∀ ob', NewAt P ops L acts q0 ob' → ob' = ob := fun ob' hn => by
    obtain ⟨_, _, mk, e1⟩ := hn.is hq0 ho
    obtain ⟨_, _, mk', e2⟩ := hn0.is hq0 ho
    rw [e1] at e2; cases e2; rfl
  have hblk : ∀ q ob' l', p ≤ q → Done L listed q → NewAt P ops L acts q ob' → N (C q).next = some l' → l'.block < w.heap.size := fun q ob' l' hq hd hn hl' => by
    obtain ⟨l2, f1, f2, _⟩ := h.flo q ob' hq hd hn
    rw [hl'] at f1; cases f1
    exact f2.lt
  refine ⟨h.pn, h.base, fun q hq => (hdone q).2 (.inr (h.low q hq)), fun q i hq hd hi => ?_, h.rel.pushed hw, fun id hid => ?_, fun q ob' hq hd hn => ?_, fun q q' o1 o2 l1 l2 hq hq' hne hd hd' hn hn' e1 e2 => ?_, fun id hid hn => ?_,
    h.put hg hst hc hle hq0 ho hun hall (hv _ _ (by rw [below_eq (by rw [hnx, Store.next_push]; omega)]; exact Places.upd_same _ _ _) rfl), (put_defers h.defers), h.step.pushed hw h1 h2 h3⟩
  · rcases (hdone q).1 hd with rfl | hd
    · rw [hq0] at hi; cases hi
      have := (hn0.is hq0 ho).1
      simp [effAt, ho, this]
    · exact h.high q i hq hd hi
  · rw [Places.upd_ne l (by omega)]
    exact h.ext id hid
  · rcases (hdone q).1 hd with rfl | hd
    · rw [hob ob' hn]
      refine ⟨l, Places.upd_same _ _ _, hs.mono (below_mono hle _), by have := h.step.size; omega, fun i y l' hi hl' => ?_⟩
      obtain ⟨l2, k1, k2⟩ := h.rel.shows i y hi
      rw [hl'] at k1; cases k1
      have := k2.lt
      omega
    · obtain ⟨l', f1, f2, f3, f4⟩ := h.flo q ob' hq hd hn
      obtain ⟨_, e⟩ := hold q ob' hq hd hn
      refine ⟨l', by rw [e]; exact f1, (f2.same ?_).mono (below_mono hle _), f3, f4⟩
      have := f2.lt
      rw [hw, Array.getElem?_push, if_neg (by omega)]
  · rcases (hdone q).1 hd with rfl | hd
    · rcases (hdone q').1 hd' with rfl | hd'
      · exact absurd rfl hne
      · rw [Places.upd_same] at e1; cases e1
        rw [(hold q' o2 hq' hd' hn').2] at e2
        have := hblk q' o2 l2 hq' hd' hn' e2
        omega
    · rw [(hold q o1 hq hd hn).2] at e1
      rcases (hdone q').1 hd' with rfl | hd'
      · rw [Places.upd_same] at e2; cases e2
        have := hblk q o1 l1 hq hd hn e1
        omega
      · rw [(hold q' o2 hq' hd' hn').2] at e2
        exact h.apart q q' o1 o2 l1 l2 hq hq' hne hd hd' hn hn' e1 e2
  · by_cases e : id = (C q0).next
    · exact ⟨q0, ob, hpq, (hdone q0).2 (.inl rfl), hn0, e⟩
    · rw [Places.upd_ne l e] at hn
      obtain ⟨q, ob', k1, k2, k3, k4⟩ := h.dom id hid hn
      exact ⟨q, ob', k1, (hdone q).2 (.inr k2), k3, k4⟩
/-- How many writing ones have been. -/
theorem Inv.counts : lowOf ops b j ≤ effCount ops L p ∧ effCount ops L p ≤ highOf ops b j := by
  obtain ⟨hunf, hnd, hpq, hjs⟩ := h.unlisted hst hg hc hq0 ho hun hall
  have heffs : ∀ e, e ∈ effs ops ↔ e < ops.size ∧ effAt ops e = true := fun e => by
    unfold effs effAt
    rw [List.mem_filter, List.mem_range]
    refine ⟨fun ⟨h1, h2⟩ => ⟨h1, ?_⟩, fun ⟨h1, h2⟩ => ⟨h1, ?_⟩⟩
    · simp [Array.getElem?_eq_getElem h1] at h2 ⊢; exact h2
    · simp [Array.getElem?_eq_getElem h1] at h2 ⊢; exact h2
  constructor
  · refine length_le_of_nodup _ _ ((List.nodup_range.filter _).filter _) fun e he => ?_
    rw [List.mem_filter] at he
    obtain ⟨he1, he2⟩ := he
    obtain ⟨hs, hef⟩ := (heffs e).1 he1
    have hl := (hg.anc _ _ he2).of_ready hc ho hall
    obtain ⟨q, hq⟩ := hg.all e hs
    rw [List.mem_filter]
    refine ⟨?_, hef⟩
    rcases Nat.lt_or_ge q p with h0 | h0
    · rw [List.mem_iff_getElem?]
      exact ⟨q, by rw [List.getElem?_take, if_pos h0]; exact hq⟩
    · have := h.high q e h0 ⟨e, hq, hl⟩ hq
      rw [hef] at this; cases this
  · refine length_le_of_nodup _ _ (List.Pairwise.filter _ (show (L.take p).Nodup from ?_)) fun e he => ?_
    · refine List.pairwise_iff_getElem.2 fun x y hx hy hxy he => ?_
      rw [List.length_take] at hx hy
      rw [List.getElem_take, List.getElem_take] at he
      have hyl : L[y]? = some L[y] := List.getElem?_eq_getElem (by omega)
      have hxl : L[x]? = some L[x] := List.getElem?_eq_getElem (by omega)
      rw [he] at hxl
      have := hg.nodup x y _ hxl hyl
      omega
    · rw [List.mem_filter] at he
      obtain ⟨he1, he2⟩ := he
      rw [List.mem_iff_getElem?] at he1
      obtain ⟨q, hq⟩ := he1
      rw [List.getElem?_take] at hq
      split at hq
      case isFalse => cases hq
      rename_i hqp
      have hes : e < ops.size := by
        unfold effAt at he2
        cases hx : ops[e]? with
        | none => rw [hx] at he2; cases he2
        | some _ => exact (Array.getElem?_eq_some_iff.1 hx).1
      rw [List.mem_filter]
      refine ⟨(heffs e).2 ⟨hes, he2⟩, ?_⟩
      cases hb : (b.getD e 0).testBit j with
      | false => rfl
      | true =>
        obtain ⟨i, k1, k2⟩ := h.low q hqp
        rw [hq] at k1; cases k1
        have := (hg.anc _ _ hb).of_listed hc k2
        rw [hunf] at this; cases this

/-- One operation. -/
theorem Inv.step_ (hok : okOp P o = true) {Q : Exit → Act → World → Prop} {K : Act → World → Prop} (hk : ∀ a' w' p' M' N', Inv P ops L A acts C S ds w0 M0 (listed.setIfInBounds j true) a' w' p' M' N' → K a' w') : wpOp P ops Q j K a w := by
  have hql : q0 < L.length := (List.getElem?_eq_some_iff.1 hq0).1
  obtain ⟨hunf, hnd, hpq, hjs⟩ := h.unlisted hst hg hc hq0 ho hun hall
  have hops : ∀ x ∈ o.op.operands.toList, VR (below N (C q0).next) false (aev (acts q0) x) (a.eval x) := fun x hx => h.ops_ hst hg hc hq0 ho hun hall hok hx
  unfold wpOp
  rw [ho]
  simp only
  obtain ⟨i', o', g1, g2, _, g⟩ := hst q0 hql
  rw [hq0] at g1; cases g1
  rw [ho] at g2; cases g2
  rcases g with ⟨he, _, g⟩ | ⟨he, g⟩
  · have had := h.all_done hst hg hc hq0 ho hun hall he
    obtain ⟨b1, b2, b3⟩ := h.absorb hst q0 hpq (by omega) had fun q i h1 h2 hi => h.high q i h1 (had q h2) hi
    rcases g with ⟨gd, gA, gC⟩ | ⟨gd, gR⟩
    · have hw := h.guard hst hg hc hq0 ho hun hall gd
      rw [if_neg (by rw [hw]; simp)]
      obtain ⟨p', M', N', h1⟩ := h.ran hst hg hc hq0 ho hun hall he (v' := undef) (M' := below N (C q0).next) (w' := w) (by rw [gA]; exact .gone) (by rw [gC]; exact b1) (by rw [gC]; exact Step.refl _ _ _)
      exact hk _ _ _ _ _ h1
    · have hw := h.guard hst hg hc hq0 ho hun hall gd
      rw [if_pos hw]
      refine .inl (doAct_sound0 hok hops b1 (doAct_of_res gR) fun v v' σ' M' w' hv h2 h3 h4 => ?_)
      obtain ⟨rfl, rfl⟩ := hv
      obtain ⟨p', M'', N', h5⟩ := h.ran hst hg hc hq0 ho hun hall he h2 h3 h4
      exact hk _ _ _ _ _ h5
  · rcases g with ⟨gd, gA, gC⟩ | ⟨gd, x, gx, g⟩
    · have hw := h.guard hst hg hc hq0 ho hun hall gd
      rw [if_neg (by rw [hw]; simp)]
      refine hk _ _ _ _ _ (h.quiet hst hg hc hq0 ho hun hall he (fun ob hn => ?_) (by rw [gA]; exact .gone))
      have := (hn.is hq0 ho).2.1
      rw [gd] at this; cases this
    · have hw := h.guard hst hg hc hq0 ho hun hall gd
      rw [if_pos hw]
      have hs := op_sound hok hops gx
      refine .inl ?_
      unfold Oper.wp
      rcases g with ⟨v, rfl, gA, gC⟩ | ⟨ob, mk, rfl, gA, gC⟩ | ⟨f, rfl, gC, gf⟩
      · obtain ⟨v', h1, h2⟩ := hs
        rw [h2]
        refine hk _ _ _ _ _ (h.quiet hst hg hc hq0 ho hun hall he (fun ob hn => ?_) (by rw [gA]; exact h1))
        obtain ⟨_, _, mk, e⟩ := hn.is hq0 ho
        rw [gx] at e; cases e
      · obtain ⟨v', l, w', y, h1, h2, h3, h4, h5, h6, h7, h8⟩ := hs.2 w
        rw [h1]
        refine hk _ _ _ _ _ (h.made hst hg hc hq0 ho hun hall ⟨j, o, mk, hq0, ho, he, gd, gx⟩ h2 h3 h4 (fun N i hi e => ?_) h6 h7 h8)
        rw [gA, ← e]
        exact h5 N i hi
      · obtain ⟨k1, k2⟩ := h.counts hst hg hc hq0 ho hun hall
        have k3 := effCount_mono (ops := ops) (L := L) hpq
        have k4 := effCount_mono (ops := ops) (L := L) (Nat.le_of_lt hql)
        have hf := gf (effCount ops L p) k1 k2 (by omega) (by omega)
        rw [← h.base] at hf
        have hext : ∀ i l, M i = some l → i < (C p).next := fun i l hi => by
          rcases Nat.lt_or_ge i (C p).next with h0 | h0
          · exact h0
          · rw [h.rel.dom i h0] at hi; cases hi
        have hnl := next_le hst hpq (Nat.le_of_lt hql)
        have hMl : M.le (below N (C q0).next) := fun i l hi => by
          have := hext i l hi
          rw [below_eq (by omega), h.ext i this]; exact hi
        have hrel := h.rel.more hnl hMl (fun i x hi => by
          obtain ⟨l, hl, _⟩ := h.rel.shows i x hi
          exact ⟨l, hl, hMl i l hl⟩) (fun i hi => below_none N hi)
        obtain ⟨v', h1, h2⟩ := hs _ w (A q0) hrel hf
        rw [h2]
        refine hk _ _ _ _ _ (h.quiet hst hg hc hq0 ho hun hall he (fun ob hn => ?_) h1)
        obtain ⟨_, _, mk, e⟩ := hn.is hq0 ho
        rw [gx] at e; cases e
end
end Go.Am
