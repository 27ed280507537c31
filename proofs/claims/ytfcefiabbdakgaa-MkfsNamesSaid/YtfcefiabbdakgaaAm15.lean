/- The abstract machine, part 15: a region that draws its order, continued. No program in sight. -/
import Derived.Test.YtfcefiabbdakgaaAm14
set_option linter.all false
namespace Go.Am
open Go.RowKit
variable {P : Program} {ds : List Deferred}

/-- Something that lies there already becomes an id's. -/
theorem Rel.absorb {σ : Store} {M : Places} {w : World} (h : Rel M σ w) {o : SObj} {l : Loc} (hs : Shows M w l o) (hn : ∀ i x l', σ.get i = some x → M i = some l' → l'.block ≠ l.block) : Rel (M.upd σ.next l) (σ.push o) w := by
  have hle : M.le (M.upd σ.next l) := Places.le_upd l (h.dom _ (Nat.le_refl _))
  refine ⟨fun i o' hi => ?_, fun i j a b li lj hi hj ha hne hli hlj => ?_, fun i hi => ?_⟩
  · by_cases e : i = σ.next
    · subst e
      rw [Store.get_push_same] at hi; cases hi
      exact ⟨l, Places.upd_same _ _ _, hs.mono hle⟩
    · rw [Store.get_push, if_neg e] at hi
      obtain ⟨l', hl', hs'⟩ := h.shows i o' hi
      exact ⟨l', by rw [Places.upd_ne l e]; exact hl', hs'.mono hle⟩
  · by_cases ei : i = σ.next
    · subst ei
      rw [Places.upd_same] at hli; cases hli
      have ej : j ≠ σ.next := fun e => hne e.symm
      rw [Store.get_push, if_neg ej] at hj
      rw [Places.upd_ne l ej] at hlj
      exact fun e => hn j b lj hj hlj e.symm
    · rw [Store.get_push, if_neg ei] at hi
      rw [Places.upd_ne l ei] at hli
      by_cases ej : j = σ.next
      · subst ej
        rw [Places.upd_same] at hlj; cases hlj
        exact hn i a li hi hli
      · rw [Store.get_push, if_neg ej] at hj
        rw [Places.upd_ne l ej] at hlj
        exact h.apart i j a b li lj hi hj ha hne hli hlj
  · rw [Store.next_push] at hi
    rw [Places.upd_ne l (by omega)]
    exact h.dom i (by omega)

/-- Places below a bound. -/
def below (N : Places) (k : Nat) : Places := fun i => if i < k then N i else none
theorem below_le (N : Places) {k k' : Nat} (h : k ≤ k') : (below N k).le (below N k') := fun i l hi => by
  unfold below at hi ⊢
  split at hi
  · rw [if_pos (by omega)]; exact hi
  · cases hi
theorem below_mono {N N' : Places} (h : N.le N') (k : Nat) : (below N k).le (below N' k) := fun i l hi => by
  unfold below at hi ⊢
  split at hi
  · rename_i hk; rw [if_pos hk]; exact h i l hi
  · cases hi
theorem below_none (N : Places) {k i : Nat} (h : k ≤ i) : below N k i = none := if_neg (by omega)
theorem below_some {N : Places} {k i : Nat} {l : Loc} (h : below N k i = some l) : i < k ∧ N i = some l := by
  unfold below at h
  split at h
  · rename_i hk; exact ⟨hk, h⟩
  · cases h
theorem below_eq {N : Places} {k i : Nat} (h : i < k) : below N k i = N i := if_pos h
theorem below_succ {N : Places} {k : Nat} {l : Loc} (h : N k = some l) : below N (k + 1) = (below N k).upd k l := by
  funext i
  unfold below Places.upd
  by_cases e : i = k
  · subst e; simp [h]
  · by_cases hk : i < k
    · have : i < k + 1 := by omega
      simp [e, hk, this]
    · have : ¬ i < k + 1 := by omega
      simp [e, hk, this]
/-- A store that names more ids. -/
def Store.more (σ : Store) (k : Nat) (h : σ.next ≤ k) : Store := ⟨σ.get, k, fun i hi => σ.fresh i (by omega)⟩
theorem Rel.more {σ : Store} {M : Places} {w : World} (h : Rel M σ w) {k : Nat} (hk : σ.next ≤ k) {N : Places} (hN : M.le N) (hs : ∀ i o, σ.get i = some o → ∃ l, M i = some l ∧ N i = some l) (hd : ∀ i, k ≤ i → N i = none) : Rel N (σ.more k hk) w :=
  ⟨fun i o hi => by
    obtain ⟨l, hl, hsh⟩ := h.shows i o hi
    exact ⟨l, hN _ _ hl, hsh.mono hN⟩, fun i j a b li lj hi hj ha hne hli hlj => by
    obtain ⟨l, h1, h2⟩ := hs i a hi
    obtain ⟨l', h3, h4⟩ := hs j b hj
    rw [h2] at hli; cases hli
    rw [h4] at hlj; cases hlj
    exact h.apart i j a b _ _ hi hj ha hne h1 h3, hd⟩

section
variable (P) (ops : Array Oper) (b : Array Nat) (L : List Nat) (A : Nat → Value) (acts : Nat → List Value) (C S : Nat → Store)
/-- A step that makes something new. -/
def NewAt (q : Nat) (ob : SObj) : Prop := ∃ i o mk, L[q]? = some i ∧ ops[i]? = some o ∧ isEff o.op = false ∧ guardA ops (acts q) o = some true ∧ action P o (aev (acts q)) = some (.new ob mk)
def Done (listed : Array Bool) (q : Nat) : Prop := ∃ i, L[q]? = some i ∧ listed.getD i false = true
/-- Who writes a slot. -/
def Writes (q t : Nat) : Prop := ∃ i o, L[q]? = some i ∧ ops[i]? = some o ∧ o.dst = some t
/-- What a slot holds. -/
def Holds (N : Places) (listed : Array Bool) (t : Nat) (v' : Value) : Prop :=
  (∃ q, Done L listed q ∧ Writes ops L q t ∧ (∀ q', Done L listed q' → Writes ops L q' t → q' ≤ q) ∧ VR (below N (C (q + 1)).next) false (A q) v') ∨
  ((∀ q, Done L listed q → ¬ Writes ops L q t) ∧ VR (below N (C 0).next) false (aget (acts 0) t) v')

structure Inv (ds : List Deferred) (w0 : World) (M0 : Places) (listed : Array Bool) (a : Act) (w : World) (p : Nat) (M N : Places) : Prop where
  pn : p ≤ L.length
  base : C p = S (effCount ops L p)
  low : ∀ q, q < p → Done L listed q
  high : ∀ q i, p ≤ q → Done L listed q → L[q]? = some i → effAt ops i = false
  rel : Rel M (C p) w
  ext : ∀ id, id < (C p).next → N id = M id
  flo : ∀ q ob, p ≤ q → Done L listed q → NewAt P ops L acts q ob → ∃ l, N (C q).next = some l ∧ Shows (below N (C q).next) w l ob ∧ w0.heap.size ≤ l.block ∧ ∀ i x l', (C p).get i = some x → M i = some l' → l'.block ≠ l.block
  apart : ∀ q q' ob ob' l l', p ≤ q → p ≤ q' → q ≠ q' → Done L listed q → Done L listed q' → NewAt P ops L acts q ob → NewAt P ops L acts q' ob' → N (C q).next = some l → N (C q').next = some l' → l.block ≠ l'.block
  dom : ∀ id, (C p).next ≤ id → N id ≠ none → ∃ q ob, p ≤ q ∧ Done L listed q ∧ NewAt P ops L acts q ob ∧ id = (C q).next
  tmp : ∀ t, t < (acts 0).length → ∃ v', a.tmps[t]? = some v' ∧ Holds ops L A acts C N listed t v'
  defers : a.defers = ds
  step : Step (C 0) M0 w0 (C p) M w
end

section
variable {ops : Array Oper} {b : Array Nat} {L : List Nat} {A : Nat → Value} {acts : Nat → List Value} {C S : Nat → Store}
variable (hg : Good ops b L) (hst : ∀ q, q < L.length → StepOk P ops b L A acts C S q)
include hst
theorem acts_len : ∀ q, q ≤ L.length → (acts q).length = (acts 0).length := by
  intro q
  induction q with
  | zero => intro _; rfl
  | succ q ih =>
    intro hq
    obtain ⟨i, o, _, _, h, _⟩ := hst q (by omega)
    rw [h]
    unfold aput
    cases o.dst with
    | none => exact ih (by omega)
    | some d => simp; exact ih (by omega)
theorem next_succ (q : Nat) (hq : q < L.length) : (C q).next ≤ (C (q + 1)).next := by
  obtain ⟨i, o, _, _, _, h⟩ := hst q hq
  rcases h with ⟨_, _, ⟨_, _, h⟩ | ⟨_, h⟩⟩ | ⟨_, ⟨_, _, h⟩ | ⟨_, x, _, ⟨v, _, _, h⟩ | ⟨ob, mk, _, _, h⟩ | ⟨f, _, h, _⟩⟩⟩
  · rw [h]; exact Nat.le_refl _
  · exact Res.mono h
  · rw [h]; exact Nat.le_refl _
  · rw [h]; exact Nat.le_refl _
  · rw [h]; exact Store.le_push _ _
  · rw [h]; exact Nat.le_refl _
theorem next_le {q q' : Nat} (h : q ≤ q') (hq' : q' ≤ L.length) : (C q).next ≤ (C q').next := by
  induction q' with
  | zero => have : q = 0 := by omega
            subst this; exact Nat.le_refl _
  | succ q' ih =>
    rcases Nat.lt_or_ge q (q' + 1) with h0 | h0
    · exact Nat.le_trans (ih (by omega) (by omega)) (next_succ hst q' (by omega))
    · have : q = q' + 1 := by omega
      subst this; exact Nat.le_refl _
theorem new_next {q : Nat} {ob : SObj} (hq : q < L.length) (h : NewAt P ops L acts q ob) : C (q + 1) = (C q).push ob := by
  obtain ⟨i, o, mk, h1, h2, h3, h4, h5⟩ := h
  obtain ⟨i', o', g1, g2, _, g⟩ := hst q hq
  rw [h1] at g1; cases g1
  rw [h2] at g2; cases g2
  rcases g with ⟨g, _⟩ | ⟨_, ⟨g, _⟩ | ⟨_, x, gx, g⟩⟩
  · rw [h3] at g; cases g
  · rw [h4] at g; cases g
  · rw [h5] at gx; cases gx
    rcases g with ⟨v, g, _⟩ | ⟨ob', mk', g, _, g'⟩ | ⟨f, g, _⟩
    · cases g
    · cases g; exact g'
    · cases g
omit hst in
theorem new_own {q : Nat} {ob : SObj} (h : NewAt P ops L acts q ob) : ob.own = true := by
  obtain ⟨i, o, mk, _, _, _, _, h⟩ := h
  exact action_own h
theorem quiet_next {q i : Nat} (hq : q < L.length) (hi : L[q]? = some i) (he : effAt ops i = false) : C (q + 1) = C q ∨ ∃ ob, NewAt P ops L acts q ob ∧ C (q + 1) = (C q).push ob := by
  obtain ⟨i', o, g1, g2, _, g⟩ := hst q hq
  rw [hi] at g1; cases g1
  have hef : isEff o.op = false := by simpa [effAt, g2] using he
  rcases g with ⟨g, _⟩ | ⟨_, ⟨_, _, g⟩ | ⟨hgd, x, gx, g⟩⟩
  · rw [hef] at g; cases g
  · exact .inl g
  · rcases g with ⟨v, _, _, g⟩ | ⟨ob, mk, rfl, _, g⟩ | ⟨f, _, g, _⟩
    · exact .inl g
    · exact .inr ⟨ob, ⟨i, o, mk, hi, g2, hef, hgd, gx⟩, g⟩
    · exact .inl g
/-- What a slot holds in the machine's order. -/
theorem last_writer {t : Nat} (ht : t < (acts 0).length) : ∀ p, p ≤ L.length →
    (∃ q, q < p ∧ Writes ops L q t ∧ aget (acts p) t = A q ∧ ∀ q', q' < p → Writes ops L q' t → q' ≤ q) ∨ ((∀ q, q < p → ¬ Writes ops L q t) ∧ aget (acts p) t = aget (acts 0) t) := by
  intro p
  induction p with
  | zero => intro _; exact .inr ⟨fun q hq => by omega, rfl⟩
  | succ p ih =>
    intro hp
    obtain ⟨i, o, g1, g2, g3, _⟩ := hst p (by omega)
    have hlen := acts_len hst p (by omega)
    by_cases hw : o.dst = some t
    · refine .inl ⟨p, by omega, ⟨i, o, g1, g2, hw⟩, ?_, fun q' h1 h2 => by omega⟩
      rw [g3, hw]
      simp [aput, aget, hlen, ht]
    · have hne : aget (acts (p + 1)) t = aget (acts p) t := by
        rw [g3]
        unfold aput
        cases hd : o.dst with
        | none => rfl
        | some d =>
          have : d ≠ t := fun e => hw (by rw [hd, e])
          simp [aget, List.getElem?_set_ne this]
      have hnw : ¬ Writes ops L p t := by
        rintro ⟨i', o', k1, k2, k3⟩
        rw [g1] at k1; cases k1
        rw [g2] at k2; cases k2
        exact hw k3
      rcases ih (by omega) with ⟨q, h1, h2, h3, h4⟩ | ⟨h1, h2⟩
      · refine .inl ⟨q, by omega, h2, by rw [hne, h3], fun q' k1 k2 => ?_⟩
        by_cases e : q' = p
        · subst e; exact absurd k2 hnw
        · exact h4 q' (by omega) k2
      · refine .inr ⟨fun q hq => ?_, by rw [hne, h2]⟩
        by_cases e : q = p
        · subst e; exact hnw
        · exact h1 q (by omega)
/-- What has been made ahead is taken in. -/
theorem Inv.absorb {w0 : World} {M0 : Places} {listed : Array Bool} {a : Act} {w : World} {p : Nat} {M N : Places} (h : Inv P ops L A acts C S ds w0 M0 listed a w p M N) : ∀ r, p ≤ r → r ≤ L.length → (∀ q, q < r → Done L listed q) → (∀ q i, p ≤ q → q < r → L[q]? = some i → effAt ops i = false) →
    Rel (below N (C r).next) (C r) w ∧ Step (C 0) M0 w0 (C r) (below N (C r).next) w ∧
    (∀ i x l, (C r).get i = some x → below N (C r).next i = some l → ((C p).get i = some x ∧ M i = some l) ∨ ∃ q ob, p ≤ q ∧ q < r ∧ Done L listed q ∧ NewAt P ops L acts q ob ∧ N (C q).next = some l) := by
  intro r
  induction r with
  | zero =>
    intro hp _ _ _
    have : p = 0 := by omega
    subst this
    have e : below N (C 0).next = M := by
      funext i
      unfold below
      split
      · rename_i hi; exact h.ext i hi
      · rename_i hi; exact (h.rel.dom i (by omega)).symm
    rw [e]
    exact ⟨h.rel, h.step, fun i x l hi hl => .inl ⟨hi, hl⟩⟩
  | succ r ih =>
    intro hp hr hd he
    by_cases hpr : p = r + 1
    · subst hpr
      have e : below N (C (r + 1)).next = M := by
        funext i
        unfold below
        split
        · rename_i hi; exact h.ext i hi
        · rename_i hi; exact (h.rel.dom i (by omega)).symm
      rw [e]
      exact ⟨h.rel, h.step, fun i x l hi hl => .inl ⟨hi, hl⟩⟩
    · obtain ⟨ih1, ih2, ih3⟩ := ih (by omega) (by omega) (fun q hq => hd q (by omega)) (fun q i hq1 hq2 => he q i hq1 (by omega))
      have hrl : r < L.length := by omega
      have hLr : L[r]? = some L[r] := List.getElem?_eq_getElem hrl
      rcases quiet_next hst hrl hLr (he r _ (by omega) (by omega) hLr) with hc | ⟨ob, hnew, hc⟩
      · rw [hc]
        exact ⟨ih1, ih2, fun i x l hi hl => by
          rcases ih3 i x l hi hl with h1 | ⟨q, ob, h1, h2, h3, h4, h5⟩
          · exact .inl h1
          · exact .inr ⟨q, ob, h1, by omega, h3, h4, h5⟩⟩
      · obtain ⟨l, f1, f2, f3, f4⟩ := h.flo r ob (by omega) (hd r (by omega)) hnew
        have hb : below N (C (r + 1)).next = (below N (C r).next).upd (C r).next l := by
          rw [hc, Store.next_push]; exact below_succ f1
        have hdis : ∀ i x l', (C r).get i = some x → below N (C r).next i = some l' → l'.block ≠ l.block := fun i x l' hi hl' => by
          rcases ih3 i x l' hi hl' with ⟨h1, h2⟩ | ⟨q, ob', h1, h2, h3, h4, h5⟩
          · exact f4 i x l' h1 h2
          · exact h.apart q r ob' ob l' l h1 (by omega) (by omega) h3 (hd r (by omega)) h4 hnew h5 f1
        have hrel := ih1.absorb f2 hdis
        rw [hb, hc]
        have hle : (below N (C r).next).le ((below N (C r).next).upd (C r).next l) := Places.le_upd l (below_none N (Nat.le_refl _))
        refine ⟨hrel, ⟨?_, Places.le_trans ih2.le hle, ih2.size, ih2.frame, fun bk hbk ho => ?_, fun i c hi => ?_, ih2.os, ih2.tape, ih2.output⟩, fun i x l' hi hl' => ?_⟩
        · have := ih2.next; simp; omega
        · obtain ⟨i, x, l', hi, hx, hl', rfl⟩ := ho
          by_cases e : i = (C r).next
          · subst e
            rw [Places.upd_same] at hl'; cases hl'
            omega
          · rw [Store.get_push, if_neg e] at hi
            rw [Places.upd_ne l e] at hl'
            exact ih2.owned _ hbk ⟨i, x, l', hi, hx, hl', rfl⟩
        · by_cases e : i = (C r).next
          · subst e
            rw [Store.get_push_same] at hi
            injection hi with hi
            have := new_own (P := P) hnew
            rw [hi] at this; cases this
          · rw [Store.get_push, if_neg e] at hi
            exact ih2.lent i c hi
        · by_cases e : i = (C r).next
          · subst e
            rw [Places.upd_same] at hl'; cases hl'
            exact .inr ⟨r, ob, by omega, by omega, hd r (by omega), hnew, f1⟩
          · rw [Store.get_push, if_neg e] at hi
            rw [Places.upd_ne l e] at hl'
            rcases ih3 i x l' hi hl' with h1 | ⟨q, ob, h1, h2, h3, h4, h5⟩
            · exact .inl h1
            · exact .inr ⟨q, ob, h1, by omega, h3, h4, h5⟩

include hg
/-- What an operation that is ready looks at. -/
theorem Inv.looks {w0 : World} {M0 : Places} {listed : Array Bool} {a : Act} {w : World} {p : Nat} {M N : Places} (h : Inv P ops L A acts C S ds w0 M0 listed a w p M N) (hc : Closed ops listed) {j q0 : Nat} {o : Oper} (hq0 : L[q0]? = some j) (ho : ops[j]? = some o)
    (hun : listed.getD j true = false) (hall : ∀ e ∈ o.after, Region.binds .any e = true → listed.getD e.on false = true) {t : Nat} (ht : t ∈ o.looksAt ops) (htl : t < (acts 0).length) : ∃ v', a.tmps[t]? = some v' ∧ VR (below N (C q0).next) false (aget (acts q0) t) v' := by
  have hql : q0 < L.length := (List.getElem?_eq_some_iff.1 hq0).1
  have hunf : listed.getD j false = false := by
    cases hx : listed[j]? with
    | none => simp [hx]
    | some v => simp [hx] at hun ⊢; exact hun
  -- who writes it, and is done, stands ahead; who stands ahead is done
  have key : ∀ q, Writes ops L q t → (Done L listed q → q < q0) ∧ (q < q0 → Done L listed q) := by
    rintro q ⟨i, oi, h1, h2, h3⟩
    by_cases e : i = j
    · subst e
      have : q = q0 := hg.nodup q q0 i h1 hq0
      subst this
      refine ⟨?_, fun hlt => by omega⟩
      rintro ⟨i', k1, k2⟩
      rw [h1] at k1; cases k1
      rw [hunf] at k2; cases k2
    · rcases hg.ordered e h2 ho h3 (.inl ht) with ha | ha
      · obtain ⟨q', k1, k2⟩ := hg.anc_pos ha q0 hq0
        have : q' = q := hg.nodup q' q i k2 h1
        subst this
        exact ⟨fun _ => k1, fun _ => ⟨i, h1, ha.of_ready hc ho hall⟩⟩
      · obtain ⟨q', k1, k2⟩ := hg.anc_pos ha q h1
        have : q' = q0 := hg.nodup q' q0 j k2 hq0
        subst this
        refine ⟨?_, fun hlt => by omega⟩
        rintro ⟨i', k3, k4⟩
        rw [h1] at k3; cases k3
        have := ha.of_listed hc k4
        rw [hunf] at this; cases this
  obtain ⟨v', hv', hh⟩ := h.tmp t htl
  refine ⟨v', hv', ?_⟩
  rcases hh with ⟨q, d1, d2, d3, d4⟩ | ⟨d1, d2⟩
  · have hlt := (key q d2).1 d1
    rcases last_writer hst htl q0 (by omega) with ⟨q', e1, e2, e3, e4⟩ | ⟨e1, _⟩
    · have h1 := e4 q hlt d2
      have h2 := d3 q' ((key q' e2).2 e1) e2
      have : q' = q := by omega
      subst this
      rw [e3]
      exact d4.mono (below_le N (next_le hst (by omega) (by omega)))
    · exact absurd d2 (e1 q hlt)
  · rcases last_writer hst htl q0 (by omega) with ⟨q', e1, e2, _, _⟩ | ⟨_, e2⟩
    · exact absurd e2 (d1 q' ((key q' e2).2 e1))
    · rw [e2]
      exact d2.mono (below_le N (next_le hst (by omega) (by omega)))
/-- The slots behind an operation. -/
theorem Inv.put {w0 : World} {M0 : Places} {listed : Array Bool} {a : Act} {w : World} {p : Nat} {M N N' : Places} (h : Inv P ops L A acts C S ds w0 M0 listed a w p M N) (hc : Closed ops listed) (hN : N.le N') {j q0 : Nat} {o : Oper} (hq0 : L[q0]? = some j) (ho : ops[j]? = some o)
    (hun : listed.getD j true = false) (hall : ∀ e ∈ o.after, Region.binds .any e = true → listed.getD e.on false = true) {v' : Value} (hv : VR (below N' (C (q0 + 1)).next) false (A q0) v') :
    ∀ t, t < (acts 0).length → ∃ u, (a.put o.dst v').tmps[t]? = some u ∧ Holds ops L A acts C N' (listed.setIfInBounds j true) t u := by
  intro t ht
  obtain ⟨u, hu, hh⟩ := h.tmp t ht
  have hjs : j < listed.size := by
    rcases Nat.lt_or_ge j listed.size with h0 | h0
    · exact h0
    · simp [Array.getElem?_eq_none h0] at hun
  have hunf : listed.getD j false = false := by
    simp [Array.getElem?_eq_getElem hjs] at hun ⊢; exact hun
  have hdone : ∀ q, Done L (listed.setIfInBounds j true) q ↔ q = q0 ∨ Done L listed q := fun q => by
    constructor
    · rintro ⟨i, h1, h2⟩
      by_cases e : j = i
      · subst e; exact .inl (hg.nodup q q0 _ h1 hq0)
      · rw [getD_set_ne false e] at h2
        exact .inr ⟨i, h1, h2⟩
    · rintro (rfl | ⟨i, h1, h2⟩)
      · exact ⟨j, hq0, by simp [hjs]⟩
      · exact ⟨i, h1, getD_set_true h2⟩
  by_cases hw : o.dst = some t
  · have hat : a.tmps[t]? ≠ none := by rw [hu]; simp
    have hts : t < a.tmps.size := by
      rcases Nat.lt_or_ge t a.tmps.size with h0 | h0
      · exact h0
      · exact absurd (Array.getElem?_eq_none h0) hat
    refine ⟨v', by simp [Act.put, hw, hts], .inl ⟨q0, (hdone q0).2 (.inl rfl), ⟨j, o, hq0, ho, hw⟩, fun q' h1 h2 => ?_, hv⟩⟩
    rcases (hdone q').1 h1 with rfl | h1
    · exact Nat.le_refl _
    · obtain ⟨i, oi, k1, k2, k3⟩ := h2
      by_cases e : i = j
      · subst e
        rw [hg.nodup q' q0 i k1 hq0]
        exact Nat.le_refl _
      · rcases hg.ordered e k2 ho k3 (.inr hw) with ha | ha
        · obtain ⟨q2, m1, m2⟩ := hg.anc_pos ha q0 hq0
          have : q2 = q' := hg.nodup q2 q' i m2 k1
          omega
        · obtain ⟨i', m1, m2⟩ := h1
          rw [k1] at m1; cases m1
          have := ha.of_listed hc m2
          rw [hunf] at this; cases this
  · have hne : (a.put o.dst v').tmps[t]? = a.tmps[t]? := by
      cases hd : o.dst with
      | none => rfl
      | some d =>
        have : d ≠ t := fun e => hw (by rw [hd, e])
        simp [Act.put, Array.getElem?_setIfInBounds_ne this]
    have hnw : ¬ Writes ops L q0 t := by
      rintro ⟨i', o', k1, k2, k3⟩
      rw [hq0] at k1; cases k1
      rw [ho] at k2; cases k2
      exact hw k3
    refine ⟨u, by rw [hne]; exact hu, ?_⟩
    rcases hh with ⟨q, d1, d2, d3, d4⟩ | ⟨d1, d2⟩
    · refine .inl ⟨q, (hdone q).2 (.inr d1), d2, fun q' h1 h2 => ?_, d4.mono (below_mono hN _)⟩
      rcases (hdone q').1 h1 with rfl | h1
      · exact absurd h2 hnw
      · exact d3 q' h1 h2
    · refine .inr ⟨fun q h1 => ?_, d2.mono (below_mono hN _)⟩
      rcases (hdone q).1 h1 with rfl | h1
      · exact hnw
      · exact d1 q h1
end
end Go.Am
