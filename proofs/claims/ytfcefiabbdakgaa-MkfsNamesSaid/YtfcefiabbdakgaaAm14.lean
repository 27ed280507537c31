/- The abstract machine, part 14: a region that draws its order, in whatever order, comes to what the machine's order comes to. No program in sight. -/
import Derived.Test.YtfcefiabbdakgaaAm13
set_option linter.all false
namespace Go.Am
open Go.RowKit

/-! ## edges -/
inductive Anc (ops : Array Oper) : Nat → Nat → Prop
  | edge {j : Nat} {o : Oper} {e : Edge} (hj : ops[j]? = some o) (he : e ∈ o.after) (hb : Region.binds .any e = true) : Anc ops e.on j
  | far {i j : Nat} {o : Oper} {e : Edge} (hj : ops[j]? = some o) (he : e ∈ o.after) (hb : Region.binds .any e = true) (ha : Anc ops i e.on) : Anc ops i j
def Closed (ops : Array Oper) (listed : Array Bool) : Prop := ∀ k o, listed.getD k false = true → ops[k]? = some o → ∀ e ∈ o.after, Region.binds .any e = true → listed.getD e.on false = true
theorem Anc.of_listed {ops : Array Oper} {listed : Array Bool} (hc : Closed ops listed) {i j : Nat} (h : Anc ops i j) : listed.getD j false = true → listed.getD i false = true := by
  induction h with
  | edge hj he hb => exact fun hl => hc _ _ hl hj _ he hb
  | far hj he hb _ ih => exact fun hl => ih (hc _ _ hl hj _ he hb)
theorem Anc.of_ready {ops : Array Oper} {listed : Array Bool} (hc : Closed ops listed) {i j : Nat} {oj : Oper} (h : Anc ops i j) (hoj : ops[j]? = some oj) (hall : ∀ e ∈ oj.after, Region.binds .any e = true → listed.getD e.on false = true) : listed.getD i false = true := by
  cases h with
  | edge hj he hb => rw [hoj] at hj; cases hj; exact hall _ he hb
  | far hj he hb ha => rw [hoj] at hj; cases hj; exact ha.of_listed hc (hall _ he hb)
theorem before_anc {ops : Array Oper} (j i : Nat) (h : ((Region.before ops).getD j 0).testBit i = true) : Anc ops i j := by
  have gen : ∀ (l : List Oper) (A : Array Nat), (∀ k, l[k]? = ops[A.size + k]?) → (∀ j i, (A.getD j 0).testBit i = true → Anc ops i j) →
      ∀ j i, ((l.foldl (fun acc o => acc.push (o.after.foldl (fun s e => if Region.binds .any e then s ||| 2 ^ e.on ||| acc.getD e.on 0 else s) 0)) A).getD j 0).testBit i = true → Anc ops i j := by
    intro l
    induction l with
    | nil => intro A _ hA j i hh; exact hA j i hh
    | cons o l ih =>
      intro A hl hA j i hh
      rw [List.foldl_cons] at hh
      have h0 : ops[A.size]? = some o := by simpa using (hl 0).symm
      refine ih _ (fun k => ?_) (fun j i hb => ?_) j i hh
      · have := hl (k + 1)
        simp only [List.getElem?_cons_succ] at this
        rw [this, Array.size_push]
        congr 1
        omega
      · by_cases hj : j = A.size
        · subst hj
          simp only [Array.getD_eq_getD_getElem?, Array.getElem?_push_size, Option.getD_some] at hb
          have fold : ∀ (es : List Edge) (s : Nat), (∀ e ∈ es, e ∈ o.after) → (∀ i, s.testBit i = true → Anc ops i A.size) →
              ∀ i, (es.foldl (fun s e => if Region.binds .any e then s ||| 2 ^ e.on ||| A.getD e.on 0 else s) s).testBit i = true → Anc ops i A.size := by
            intro es
            induction es with
            | nil => intro s _ hs i hi; exact hs i hi
            | cons e es ihe =>
              intro s hes hs i hi
              rw [List.foldl_cons] at hi
              refine ihe _ (fun e' he' => hes e' (List.mem_cons_of_mem _ he')) (fun i hi => ?_) i hi
              split at hi
              · rename_i hbind
                simp only [Nat.testBit_or, Bool.or_eq_true, Nat.testBit_two_pow, decide_eq_true_eq] at hi
                rcases hi with (hi | hi) | hi
                · exact hs i hi
                · subst hi; exact .edge h0 (hes e List.mem_cons_self) hbind
                · exact .far h0 (hes e List.mem_cons_self) hbind (hA _ _ hi)
              · exact hs i hi
          rw [← Array.foldl_toList] at hb
          exact fold o.after.toList 0 (fun e he => by simpa using he) (fun i hi => by simp at hi) i (by simpa [Array.getD_eq_getD_getElem?] using hb)
        · refine hA j i ?_
          rcases Nat.lt_or_ge j A.size with hlt | hge
          · simpa [Array.getElem?_push, Nat.ne_of_lt hlt] using hb
          · have : A.size < j := Nat.lt_of_le_of_ne hge (Ne.symm hj)
            simp [Array.getElem?_push, hj, Array.getElem?_eq_none hge] at hb
  have h1 : Region.before ops = ops.toList.foldl (fun acc o => acc.push (o.after.foldl (fun s e => if Region.binds .any e then s ||| 2 ^ e.on ||| acc.getD e.on 0 else s) 0)) #[] := by
    unfold Region.before
    rw [← Array.foldl_toList]
  rw [h1] at h
  exact gen ops.toList #[] (by simp) (by simp) j i h

/-! ## what is asked of a region's text -/
def topoB (ops : Array Oper) (b : Array Nat) : List Nat → List Nat → Bool
  | _, [] => true
  | done, i :: rest =>
    (match ops[i]? with
    | some o => o.after.toList.all (fun e => !Region.binds .any e || done.contains e.on) && (!isEff o.op || done.all fun j => (b.getD i 0).testBit j) && !done.contains i
    | none => false) && topoB ops b (i :: done) rest
def apartB (ops : Array Oper) (b : Array Nat) : List (Oper × Nat) → List (Oper × Nat) → Bool
  | [], _ => true
  | (oj, j) :: rest, done => (done.all fun (oi, i) => (b.getD j 0).testBit i || oi.apart ops oj) && apartB ops b rest ((oj, j) :: done)
def okDraw (P : Program) (ops : Array Oper) : Bool :=
  P.follows .mixedOrders && ops.toList.all (okOp P) && apartB ops (CheckFast.beforeF ops) ops.toList.zipIdx [] &&
  topoB ops (CheckFast.beforeF ops) [] (canon ops (CheckFast.beforeF ops)) && (List.range ops.size).all fun i => (canon ops (CheckFast.beforeF ops)).contains i

structure Good (ops : Array Oper) (b : Array Nat) (L : List Nat) : Prop where
  bound : ∀ (q i : Nat), L[q]? = some i → i < ops.size
  all : ∀ i, i < ops.size → ∃ q : Nat, L[q]? = some i
  nodup : ∀ (q q' : Nat) (i : Nat), L[q]? = some i → L[q']? = some i → q = q'
  topo : ∀ (q i : Nat) (o : Oper), L[q]? = some i → ops[i]? = some o → ∀ e ∈ o.after, Region.binds .any e = true → ∃ q', q' < q ∧ L[q']? = some e.on
  pre : ∀ (q i : Nat) (o : Oper), L[q]? = some i → ops[i]? = some o → isEff o.op = true → ∀ q' j, q' < q → L[q']? = some j → (b.getD i 0).testBit j = true
  apart : ∀ (i j : Nat) (oi oj : Oper), i < j → ops[i]? = some oi → ops[j]? = some oj → (b.getD j 0).testBit i = true ∨ oi.apart ops oj = true
  anc : ∀ j i, (b.getD j 0).testBit i = true → Anc ops i j

theorem topoB_spec {ops : Array Oper} {b : Array Nat} : ∀ (rest done : List Nat) (L : List Nat), L = done.reverse ++ rest → topoB ops b done rest = true →
    ∀ (q i : Nat), done.length ≤ q → L[q]? = some i → ∃ o, ops[i]? = some o ∧ (∀ e ∈ o.after, Region.binds .any e = true → ∃ q', q' < q ∧ L[q']? = some e.on) ∧ (isEff o.op = true → ∀ q' j, q' < q → L[q']? = some j → (b.getD i 0).testBit j = true) ∧ ∀ q', q' < q → L[q']? ≠ some i
  | [], done, L, hL, _, q, i, hq, hi => by
    have : L.length = done.length := by rw [hL]; simp
    have := (List.getElem?_eq_some_iff.1 hi).1
    omega
  | x :: rest, done, L, hL, h, q, i, hq, hi => by
    simp only [topoB, Bool.and_eq_true] at h
    have hmem : ∀ j, j ∈ done → ∃ q', q' < done.length ∧ L[q']? = some j := fun j hj => by
      have : j ∈ done.reverse := by simpa using hj
      obtain ⟨q', hq', e⟩ := List.getElem_of_mem this
      refine ⟨q', by simpa using hq', ?_⟩
      rw [hL, List.getElem?_append_left hq', ← e]
      exact List.getElem?_eq_getElem hq'
    have hmem' : ∀ q' j, q' < done.length → L[q']? = some j → j ∈ done := fun q' j hq' hj => by
      rw [hL, List.getElem?_append_left (by simpa using hq')] at hj
      have := List.mem_of_getElem? hj
      simpa using this
    rcases Nat.lt_or_ge done.length q with hlt | hge
    · exact topoB_spec rest (x :: done) L (by rw [hL]; simp) h.2 q i (by simp; omega) hi
    · have hqe : q = done.length := by omega
      subst hqe
      have hx : i = x := by
        rw [hL, List.getElem?_append_right (by simp)] at hi
        simpa using hi.symm
      subst hx
      have h1 := h.1
      split at h1
      · rename_i o ho
        simp only [Bool.and_eq_true, List.all_eq_true, Bool.or_eq_true, Bool.not_eq_true'] at h1
        obtain ⟨⟨h2, h3⟩, h4⟩ := h1
        refine ⟨o, ho, fun e he hb => ?_, fun he q' j hq' hj => ?_, fun q' hq' hj => ?_⟩
        · rcases h2 e (by simpa using he) with h5 | h5
          · rw [hb] at h5; cases h5
          · exact hmem _ (by simpa using h5)
        · rcases h3 with h5 | h5
          · rw [he] at h5; cases h5
          · exact h5 j (hmem' q' j hq' hj)
        · have := hmem' q' i hq' hj
          simp only [List.contains_eq_mem, decide_eq_false_iff_not] at h4
          exact h4 this
      · cases h1
theorem apartB_spec {ops : Array Oper} {b : Array Nat} : ∀ (l done : List (Oper × Nat)), apartB ops b l done = true →
    (∀ x ∈ done, ∀ y ∈ l, (b.getD y.2 0).testBit x.2 = true ∨ x.1.apart ops y.1 = true) ∧ l.Pairwise fun x y => (b.getD y.2 0).testBit x.2 = true ∨ x.1.apart ops y.1 = true
  | [], done, _ => ⟨fun x _ y hy => by simp at hy, List.Pairwise.nil⟩
  | (oj, j) :: rest, done, h => by
    simp only [apartB, Bool.and_eq_true, List.all_eq_true, Bool.or_eq_true] at h
    obtain ⟨h1, h2⟩ := h
    obtain ⟨h3, h4⟩ := apartB_spec rest ((oj, j) :: done) h2
    refine ⟨fun x hx y hy => ?_, List.Pairwise.cons (fun y hy => h3 (oj, j) List.mem_cons_self y hy) h4⟩
    rcases List.mem_cons.1 hy with rfl | hy
    · exact h1 x hx
    · exact h3 x (List.mem_cons_of_mem _ hx) y hy
theorem good_of_ok {P : Program} {ops : Array Oper} (h : okDraw P ops = true) : P.follows .mixedOrders = true ∧ (∀ o ∈ ops.toList, okOp P o = true) ∧ Good ops (CheckFast.beforeF ops) (canon ops (CheckFast.beforeF ops)) := by
  simp only [okDraw, Bool.and_eq_true, List.all_eq_true] at h
  obtain ⟨⟨⟨⟨h1, h2⟩, h3⟩, h4⟩, h5⟩ := h
  have ht := topoB_spec (canon ops (CheckFast.beforeF ops)) [] (canon ops (CheckFast.beforeF ops)) (by simp) h4
  refine ⟨h1, h2, ⟨fun q i hq => ?_, fun i hi => ?_, fun q q' i hq hq' => ?_, fun q i o hq ho e he hb => ?_, fun q i o hq ho he q' j hq' hj => ?_, fun i j oi oj hij hi hj => ?_, fun j i hb => ?_⟩⟩
  · obtain ⟨o, h6, _⟩ := ht q i (by simp) hq
    exact (Array.getElem?_eq_some_iff.1 h6).1
  · have := h5 i (List.mem_range.2 hi)
    simp only [List.contains_eq_mem, decide_eq_true_eq] at this
    obtain ⟨q, hq, e⟩ := List.getElem_of_mem this
    exact ⟨q, by rw [← e]; exact List.getElem?_eq_getElem hq⟩
  · rcases Nat.lt_trichotomy q q' with h6 | h6 | h6
    · obtain ⟨o, _, _, _, h7⟩ := ht q' i (by simp) hq'
      exact absurd hq (h7 q h6)
    · exact h6
    · obtain ⟨o, _, _, _, h7⟩ := ht q i (by simp) hq
      exact absurd hq' (h7 q' h6)
  · obtain ⟨o', h6, h7, _, _⟩ := ht q i (by simp) hq
    rw [ho] at h6; cases h6
    exact h7 e he hb
  · obtain ⟨o', h6, _, h7, _⟩ := ht q i (by simp) hq
    rw [ho] at h6; cases h6
    exact h7 he q' j hq' hj
  · have hp := (apartB_spec _ _ h3).2
    rw [List.pairwise_iff_getElem] at hp
    have hsz : ops.toList.zipIdx.length = ops.size := by simp
    have hi' := (Array.getElem?_eq_some_iff.1 hi)
    have hj' := (Array.getElem?_eq_some_iff.1 hj)
    obtain ⟨hi1, hi2⟩ := hi'
    obtain ⟨hj1, hj2⟩ := hj'
    have := hp i j (by omega) (by omega) hij
    simp only [List.getElem_zipIdx, Array.getElem_toList, Nat.zero_add, hi2, hj2] at this
    exact this
  · rw [CheckFast.beforeF_eq] at hb
    exact before_anc j i hb
theorem Good.anc_pos {ops : Array Oper} {b : Array Nat} {L : List Nat} (g : Good ops b L) {i j : Nat} (h : Anc ops i j) : ∀ q : Nat, L[q]? = some j → ∃ q', q' < q ∧ L[q']? = some i := by
  induction h with
  | edge hj he hb => exact fun q hq => g.topo q _ _ hq hj _ he hb
  | far hj he hb _ ih =>
    intro q hq
    obtain ⟨q1, h1, h2⟩ := g.topo q _ _ hq hj _ he hb
    obtain ⟨q2, h3, h4⟩ := ih q1 h2
    exact ⟨q2, by omega, h4⟩
/-- Who writes a slot that another one names is ordered with it. -/
theorem Good.ordered {ops : Array Oper} {b : Array Nat} {L : List Nat} (g : Good ops b L) {i j : Nat} {oi oj : Oper} (hij : i ≠ j) (hi : ops[i]? = some oi) (hj : ops[j]? = some oj) {t : Nat} (ht : oi.dst = some t) (hn : t ∈ oj.looksAt ops ∨ oj.dst = some t) : Anc ops i j ∨ Anc ops j i := by
  rcases Nat.lt_or_gt_of_ne hij with h | h
  · rcases g.apart i j oi oj h hi hj with h1 | h1
    · exact .inl (g.anc j i h1)
    · obtain ⟨a1, a2, _⟩ := Oper.apart_spec h1
      rcases hn with hn | hn
      · exact absurd hn (a1 t ht)
      · exact absurd hn (a2 t ht)
  · rcases g.apart j i oj oi h hj hi with h1 | h1
    · exact .inr (g.anc i j h1)
    · obtain ⟨_, a2, a3⟩ := Oper.apart_spec h1
      rcases hn with hn | hn
      · exact absurd hn (a3 t ht)
      · exact absurd ht (a2 t hn)
end Go.Am
