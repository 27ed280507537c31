/- Contract of mkfs.lay. -/
import Derived.Test.YtchfpepbdnjhmaaOpq
set_option linter.all false
set_option maxRecDepth 100000
set_option maxHeartbeats 400000
namespace Go.Proofs.Ytchfpepbdnjhmaa
open Go.Am
/-- How far a disk's numbers go, so many steps on. -/
structure DS.B (s : DS) (m : Nat) : Prop where
  ok : s.Ok
  made : s.made < 2 ^ 60 + m
  wait : s.wait.length < 2 ^ 28 + m
  hist : s.hist.length < 2 ^ 28 + m
theorem burnt_B {s : DS} {m : Nat} (h : s.B m) : s.burnt.B (m + 1) := by
  have hk := h.ok
  have h1 := h.made
  have h2 := h.wait
  have h3 := h.hist
  unfold DS.burnt
  split
  · exact ⟨⟨hk.n, hk.n2, hk.fuse, hk.fuse0, hk.made0, hk.reads0, hk.claims0, hk.wait, hk.hist, hk.held⟩, by simp only; omega, by simp only; omega, by simp only; omega⟩
  · have a1 := hk.fuse
    have a2 := hk.fuse0
    have a3 := hk.made0
    refine ⟨⟨hk.n, hk.n2, ?_, ?_, ?_, hk.reads0, hk.claims0, hk.wait, hk.hist, hk.held⟩, by simp only; omega, by simp only; omega, by simp only; omega⟩
    · simp only; split <;> omega
    · simp only; split <;> omega
    · simp only; omega
theorem DS.B.le {s : DS} {m n : Nat} (h : s.B m) (hm : m ≤ n) : s.B n := ⟨h.ok, by have := h.made; omega, by have := h.wait; omega, by have := h.hist; omega⟩
theorem write_B {s : DS} {m : Nat} (h : s.B m) {i : Int} {b : List Int} (hb : b.length = 1024) : (s.write i b).2.B (m + 1) := by
  have hB := burnt_B h
  have hk := hB.ok
  have h2 := h.wait
  have h3 := h.hist
  unfold DS.write
  split
  · exact h.le (by omega)
  · split
    · exact h.le (by omega)
    · split
      · exact hB
      · refine ⟨⟨hk.n, hk.n2, hk.fuse, hk.fuse0, hk.made0, hk.reads0, hk.claims0, fun p hp => ?_, fun p hp => ?_, hk.held⟩, hB.made, ?_, ?_⟩
        · rcases List.mem_append.1 hp with hp | hp
          · exact h.ok.wait p hp
          · have : p = (i, b) := by simpa using hp
            rw [this]; exact hb
        · rcases List.mem_append.1 hp with hp | hp
          · exact h.ok.hist p hp
          · have : p = (1, i, b) := by simpa using hp
            rw [this]; exact hb
        · simp only [List.length_append, List.length_singleton]; omega
        · simp only [List.length_append, List.length_singleton]; omega
theorem barrier_B {s : DS} {m : Nat} (h : s.B m) : s.barrier.2.B (m + 1) := by
  have hB := burnt_B h
  have hk := hB.ok
  have h3 := h.hist
  unfold DS.barrier
  split
  · exact h.le (by omega)
  · split
    · exact hB
    · refine ⟨⟨hk.n, hk.n2, hk.fuse, hk.fuse0, hk.made0, hk.reads0, hk.claims0, fun p hp => absurd hp List.not_mem_nil, fun p hp => ?_, barHeld_len h.ok.wait h.ok.held⟩, hB.made, ?_, ?_⟩
      · rcases List.mem_append.1 hp with hp | hp
        · exact h.ok.hist p hp
        · have : p = (2, 0, zb) := by simpa using hp
          rw [this]; exact zb_len
      · simp only [List.length_nil]; omega
      · simp only [List.length_append, List.length_singleton]; omega
/-! what lay does -/
def wRun (k : DS → Int × DS) : List (List Int) → Int → DS → Int × DS
  | [], _, s => k s
  | b :: bs, a, s => if (s.write a b).1 = 0 then wRun k bs (a + 1) (s.write a b).2 else (3, (s.write a b).2)
def layR : List (Int × List (List Int)) → DS → Int × DS
  | [], s => if s.barrier.1 = 0 then (0, s.barrier.2) else (3, s.barrier.2)
  | (a, bs) :: r, s => wRun (layR r) bs a s
def blksC : List (List Int) → List Value
  | [] => []
  | b :: bs => bc b ++ blksC bs
theorem blksC_at : ∀ {w : List (List Int)} {k : Nat} {b : List Int}, (∀ c ∈ w, c.length = 1024) → w[k]? = some b → ((blksC w).drop (k * 1024)).take 1024 = bc b
  | [], k, b, _, h => by simp at h
  | c :: w, 0, b, hl, h => by
    have hb : c = b := by simpa using h
    subst hb
    have hc : (bc c).length = 1024 := by rw [bc_len]; exact hl c List.mem_cons_self
    simp only [blksC, Nat.zero_mul, List.drop_zero]
    rw [List.take_append_of_le_length (by omega), List.take_of_length_le (by omega)]
  | c :: w, k + 1, b, hl, h => by
    have hc : (bc c).length = 1024 := by rw [bc_len]; exact hl c List.mem_cons_self
    have e : (k + 1) * 1024 = 1024 + k * 1024 := by omega
    simp only [blksC]
    rw [e, ← List.drop_drop, List.drop_left' hc]
    exact blksC_at (fun d hd => hl d (List.mem_cons_of_mem _ hd)) (by simpa using h)
def runC : List (Int × Value) → List Value
  | [] => []
  | (a, w) :: r => .int .i64 a :: w :: runC r
theorem runC_at : ∀ {w : List (Int × Value)} {k : Nat} {a : Int} {v : Value}, w[k]? = some (a, v) → ((runC w).drop (k * 2)).take 2 = [.int .i64 a, v]
  | [], k, a, v, h => by simp at h
  | (c, u) :: w, 0, a, v, h => by
    simp only [List.getElem?_cons_zero, Option.some.injEq, Prod.mk.injEq] at h
    obtain ⟨rfl, rfl⟩ := h
    rfl
  | (c, u) :: w, k + 1, a, v, h => by
    have e : (k + 1) * 2 = k * 2 + 1 + 1 := by omega
    simp only [runC]
    rw [e, List.drop_succ_cons, List.drop_succ_cons]
    exact runC_at (by simpa using h)
theorem _root_.Go.Am.SlR.same {σ σ' : Store} {sz n : Nat} {v : Value} {c : List Value} (h : SlR σ sz v n c) (hg : ∀ i ∈ idsV v, σ'.get i = σ.get i) : SlR σ' sz v n c := by
  refine ⟨h.1, ?_⟩
  rcases h.2 with h0 | ⟨i, o, g, k, obj, d, h1, h2, h3, h4, h5⟩
  · exact .inl h0
  · exact .inr ⟨i, o, g, k, obj, d, h1, h2, by rw [hg i (by rw [h1]; simp [idsV])]; exact h3, h4, h5⟩
/-- A run in a store: its blocks lie outside F. -/
structure RunAt (σ : Store) (F : List Nat) (w : Value) (bs : List (List Int)) : Prop where
  sl : SlR σ 1024 w bs.length (blksC bs)
  out : ∀ i ∈ idsV w, i ∉ F ∧ i < σ.next
  len : ∀ b ∈ bs, b.length = 1024
variable {σ : Store} {d hm lm : Nat} {pv hv : Value} {s : DS} {Q : Value → Store → Prop}
/-- One run is written. -/
theorem upd_out {F F' : List Nat} {a b : Store} (h : Upd F a b F') {j : Nat} (hj : j < a.next) (hn : j ∉ F) : j ∉ F' := fun hx => by
  rcases (h.ids j hx).2 with h1 | h1
  · exact hn h1
  · omega
def total (rs : List (Int × Value × List (List Int))) : Nat := match rs with | [] => 0 | r :: rs => r.2.2.length + total rs
def flat (rs : List (Int × Value × List (List Int))) : List (Int × List (List Int)) := rs.map fun r => (r.1, r.2.2)
theorem mlay_ {m : Nat} (h : DAt σ d s hm lm pv hv) (hB : s.B m) {rv : Value} {rs : List (Int × Value × List (List Int))}
    (hr : SlR σ 2 rv rs.length (runC (rs.map fun r => (r.1, r.2.1)))) (hro : ∀ i ∈ idsV rv, i ∉ ids d hm lm pv hv ∧ i < σ.next)
    (hrs : ∀ r ∈ rs, RunAt σ (ids d hm lm pv hv) r.2.1 r.2.2 ∧ 0 ≤ r.1 ∧ r.1 ≤ 2 ^ 40 ∧ r.2.2.length ≤ 2 ^ 20) (hM : m + total rs ≤ 2 ^ 27) (hl : rs.length < 2 ^ 20)
    (hq : ∀ σ' pv' hv', DAt σ' d (layR (flat rs) s).2 hm lm pv' hv' → (layR (flat rs) s).2.B (m + total rs + 1) → Upd (ids d hm lm pv hv) σ σ' (ids d hm lm pv' hv') → Q (.int .i64 (layR (flat rs) s).1) σ') :
    Does Try.prog 26 [.pointer (some ⟨d, 0, none⟩), rv] σ Q := by
  refine d26 ?_
  have hlt := h.lt
  simp -implicitDefEqProofs (maxSteps := 2000000) (disch := first|assumption|omega|rfl|(simp only[RD];done)|(simp only[RD];omega)) only [RN,Int.reduceBEq,Int.reduceBNe,Int.reduceLT,Int.reduceLE,Int.reduceAdd,Int.reduceSub,Int.reduceMul,Nat.reduceAdd,↓bc_flatz,↓bc_flat16,↓agg_bytez, p26, hr.len]
  refine lop1 (fun k v st => ∃ (i : Nat) (S : DS) (pv' hv' : Value) (m' : Nat), k + i = rs.length ∧ v = .int .i64 i ∧ DAt st d S hm lm pv' hv' ∧ S.B m' ∧ m' + total (rs.drop i) ≤ m + total rs ∧ Upd (ids d hm lm pv hv) σ st (ids d hm lm pv' hv') ∧ layR (flat (rs.drop i)) S = layR (flat rs) s) rs.length ⟨0, s, pv, hv, m, rfl, rfl, h, hB, Nat.le_refl _, Upd.refl hlt, rfl⟩ ?_
  rintro k v st next ⟨i, S, pv', hv', m', hi, rfl, hD, hSB, hm', hU, heq⟩ hnx
  by_cases h5 : (i : Int) < rs.length
  · have h6 : i < rs.length := by omega
    obtain ⟨r, hr1⟩ : ∃ r, rs[i]? = some r := ⟨_, List.getElem?_eq_getElem h6⟩
    have hdrop : rs.drop i = r :: rs.drop (i + 1) := by
      rw [List.drop_eq_getElem_cons h6]
      rw [List.getElem?_eq_getElem h6] at hr1
      cases hr1; rfl
    have hrm : r ∈ rs := List.mem_of_getElem? hr1
    obtain ⟨a, w, bs⟩ := r
    obtain ⟨hRun, ha0, ha1, hbl⟩ := hrs _ hrm
    simp only at hRun ha0 ha1 hbl
    have hst : SlR st 2 rv rs.length (runC (rs.map fun r => (r.1, r.2.1))) := hr.same fun x hx => hU.same x (hro x hx).2 (hro x hx).1
    obtain ⟨q, o, q1, q2, q3, q4⟩ := hst.at (by omega) h6
    rw [runC_at (a := a) (v := w) (by simp [hr1])] at q3
    have hws : SlR st 1024 w bs.length (blksC bs) := hRun.sl.same fun x hx => hU.same x (hRun.out x hx).2 (hRun.out x hx).1
    simp -implicitDefEqProofs (maxSteps := 2000000) (disch := first|assumption|omega|rfl|(simp only[RD];done)|(simp only[RD];omega)) only [RN,Int.reduceBEq,Int.reduceBNe,Int.reduceLT,Int.reduceLE,Int.reduceAdd,Int.reduceSub,Int.reduceMul,Nat.reduceAdd,↓bc_flatz,↓bc_flat16,↓agg_bytez, decide_eq_true h5, q1, q3, hws.len]
    rw [hdrop] at heq hm'
    have hstn : st.next ∉ ids d hm lm pv' hv' := fun hx => by have := (hU.ids _ hx).1; omega
    refine lop1 (fun k2 v2 st2 => ∃ (j : Nat) (S2 : DS) (pv2 hv2 : Value) (m2 : Nat), k2 + j = bs.length ∧ v2 = .int .i64 j ∧ DAt st2 d S2 hm lm pv2 hv2 ∧ S2.B m2 ∧ m2 + (bs.length - j) + total (rs.drop (i + 1)) ≤ m + total rs ∧ Upd (ids d hm lm pv hv) σ st2 (ids d hm lm pv2 hv2) ∧ st.next < st2.next ∧ st2.get st.next = some (.cells [.int .i64 a, w] none) ∧ st.next ∉ ids d hm lm pv2 hv2 ∧ wRun (layR (flat (rs.drop (i + 1)))) (bs.drop j) (a + j) S2 = layR (flat rs) s) bs.length ⟨0, S, pv', hv', m', rfl, rfl, hD.later ((Keeps.refl st).push _), hSB, ?_, upd_then hU ((Keeps.refl st).push _), by rw [Store.next_push]; omega, Store.get_push_same _ _, hstn, ?_⟩ ?_
    · simp only [total] at hm'; omega
    · rw [← heq]; simp [flat, layR]
    rintro k2 v2 st2 next2 ⟨j, S2, pv2, hv2, m2, hj, rfl, hD2, hB2, hm2, hU2, hn2, hg2, hni, heq2⟩ hnx2
    by_cases h7 : (j : Int) < bs.length
    · have h8 : j < bs.length := by omega
      obtain ⟨b, hb1⟩ : ∃ b, bs[j]? = some b := ⟨_, List.getElem?_eq_getElem h8⟩
      have hdrop2 : bs.drop j = b :: bs.drop (j + 1) := by
        rw [List.drop_eq_getElem_cons h8]
        rw [List.getElem?_eq_getElem h8] at hb1
        cases hb1; rfl
      have hbl2 : b.length = 1024 := hRun.len b (List.mem_of_getElem? hb1)
      have hws2 : SlR st2 1024 w bs.length (blksC bs) := hRun.sl.same fun x hx => hU2.same x (hRun.out x hx).2 (hRun.out x hx).1
      obtain ⟨q', o', r1, r2, r3, r4⟩ := hws2.at (by omega) h8
      rw [blksC_at hRun.len hb1] at r3
      have haj : a + (j : Int) = a + j := rfl
      simp -implicitDefEqProofs (maxSteps := 2000000) (disch := first|assumption|omega|rfl|(simp only[RD];done)|(simp only[RD];omega)) only [RN,Int.reduceBEq,Int.reduceBNe,Int.reduceLT,Int.reduceLE,Int.reduceAdd,Int.reduceSub,Int.reduceMul,Nat.reduceAdd,↓bc_flatz,↓bc_flat16,↓agg_bytez, decide_eq_true h7, r1, r3, hg2]
      refine write_ (hD2.later ((Keeps.refl st2).push _)) hB2.ok (by have := hB2.made; omega) (by have := hB2.wait; omega) (by have := hB2.hist; omega) hbl2 fun σ' pv3 hv3 hD3 hU3 => ?_
      have hU4 : Upd (ids d hm lm pv hv) σ σ' (ids d hm lm pv3 hv3) := (upd_then hU2 ((Keeps.refl st2).push _)).trans hU3
      have hB3 := write_B hB2 (i := a + j) hbl2
      rw [hdrop2] at heq2
      simp only [wRun] at heq2
      by_cases h9 : (S2.write (a + j) b).1 = 0
      · rw [if_pos h9] at heq2
        rw [h9]
        simp -implicitDefEqProofs (maxSteps := 2000000) (disch := first|assumption|omega|rfl|(simp only[RD];done)|(simp only[RD];omega)) only [RN,Int.reduceBEq,Int.reduceBNe,Int.reduceLT,Int.reduceLE,Int.reduceAdd,Int.reduceSub,Int.reduceMul,Nat.reduceAdd,↓bc_flatz,↓bc_flat16,↓agg_bytez]
        have hlt2 : st.next < (st2.push (SObj.cells (bc b) none)).next := by rw [Store.next_push]; omega
        refine hnx2 _ _ (by omega) ⟨j + 1, _, pv3, hv3, m2 + 1, by omega, by congr 1, hD3, hB3, by omega, hU4, ?_, ?_, upd_out hU3 hlt2 hni, ?_⟩
        · have := hU3.next; omega
        · rw [hU3.same _ hlt2 hni, get_push_ne hn2, hg2]
        · rw [← heq2]; congr 1; omega
      · rw [if_neg h9] at heq2
        have hne : ((S2.write (a + j) b).1 != 0) = true := by simp [h9]
        simp -implicitDefEqProofs (maxSteps := 2000000) (disch := first|assumption|omega|rfl|(simp only[RD];done)|(simp only[RD];omega)) only [RN,Int.reduceBEq,Int.reduceBNe,Int.reduceLT,Int.reduceLE,Int.reduceAdd,Int.reduceSub,Int.reduceMul,Nat.reduceAdd,↓bc_flatz,↓bc_flat16,↓agg_bytez, hne]
        have e1 : (layR (flat rs) s).1 = 3 := by rw [← heq2]
        have e2 : (layR (flat rs) s).2 = (S2.write (a + j) b).2 := by rw [← heq2]
        rw [e1, e2] at hq
        exact hq _ _ _ hD3 (hB3.le (by omega)) hU4
    · have e7 : j = bs.length := by omega
      subst e7
      simp -implicitDefEqProofs (maxSteps := 2000000) (disch := first|assumption|omega|rfl|(simp only[RD];done)|(simp only[RD];omega)) only [RN,Int.reduceBEq,Int.reduceBNe,Int.reduceLT,Int.reduceLE,Int.reduceAdd,Int.reduceSub,Int.reduceMul,Nat.reduceAdd,↓bc_flatz,↓bc_flat16,↓agg_bytez, decide_eq_false (show ¬ (bs.length : Int) < bs.length by omega)]
      refine hnx _ _ (by omega) ⟨i + 1, S2, pv2, hv2, m2, by omega, by congr 1, hD2, hB2, by omega, hU2, ?_⟩
      rw [List.drop_length] at heq2
      exact heq2
  · have e7 : i = rs.length := by omega
    subst e7
    simp -implicitDefEqProofs (maxSteps := 2000000) (disch := first|assumption|omega|rfl|(simp only[RD];done)|(simp only[RD];omega)) only [RN,Int.reduceBEq,Int.reduceBNe,Int.reduceLT,Int.reduceLE,Int.reduceAdd,Int.reduceSub,Int.reduceMul,Nat.reduceAdd,↓bc_flatz,↓bc_flat16,↓agg_bytez, decide_eq_false (show ¬ (rs.length : Int) < rs.length by omega)]
    refine barrier_ hD hSB.ok (by have := hSB.made; omega) (by have := hSB.wait; omega) (by have := hSB.hist; omega) fun σ' pv3 hv3 hD3 hU3 => ?_
    have hU4 := hU.trans hU3
    have hB3 := barrier_B hSB
    rw [List.drop_length] at heq
    simp only [flat, List.map_nil, layR] at heq
    by_cases h9 : S.barrier.1 = 0
    · rw [if_pos h9] at heq
      rw [h9]
      simp -implicitDefEqProofs (maxSteps := 2000000) (disch := first|assumption|omega|rfl|(simp only[RD];done)|(simp only[RD];omega)) only [RN,Int.reduceBEq,Int.reduceBNe,Int.reduceLT,Int.reduceLE,Int.reduceAdd,Int.reduceSub,Int.reduceMul,Nat.reduceAdd,↓bc_flatz,↓bc_flat16,↓agg_bytez]
      have e1 : (layR (flat rs) s).1 = 0 := by unfold flat; rw [← heq]
      have e2 : (layR (flat rs) s).2 = S.barrier.2 := by unfold flat; rw [← heq]
      rw [e1, e2] at hq
      exact hq _ _ _ hD3 (hB3.le (by omega)) hU4
    · rw [if_neg h9] at heq
      have hne : (S.barrier.1 != 0) = true := by simp [h9]
      simp -implicitDefEqProofs (maxSteps := 2000000) (disch := first|assumption|omega|rfl|(simp only[RD];done)|(simp only[RD];omega)) only [RN,Int.reduceBEq,Int.reduceBNe,Int.reduceLT,Int.reduceLE,Int.reduceAdd,Int.reduceSub,Int.reduceMul,Nat.reduceAdd,↓bc_flatz,↓bc_flat16,↓agg_bytez, hne]
      have e1 : (layR (flat rs) s).1 = 3 := by unfold flat; rw [← heq]
      have e2 : (layR (flat rs) s).2 = S.barrier.2 := by unfold flat; rw [← heq]
      rw [e1, e2] at hq
      exact hq _ _ _ hD3 (hB3.le (by omega)) hU4
end Go.Proofs.Ytchfpepbdnjhmaa
