/- Rings of nodes that point to each other. -/
import Derived.Test.YtiaonndafhfkmaaDsk
set_option linter.all false
set_option maxRecDepth 100000
namespace Go.Proofs.Ytiaonndafhfkmaa
open Go.Am
/-- A node: its block, its place in it, the block's cells (those two that point are written over). -/
structure Nd where
  blk : Nat
  off : Nat
  base : List Value
def Nd.p (x : Nd) : Value := .pointer (some ⟨x.blk, x.off, none⟩)
def Nd.cells (x : Nd) (p n : Value) : List Value := (x.base.set (x.off + 1026) p).set (x.off + 1027) n
structure NodeAt (σ : Store) (x : Nd) (p n : Value) : Prop where
  at_ : σ.get x.blk = some (.cells (x.cells p n) none)
  len : x.off + 1027 < x.base.length
variable {σ σ' : Store} {Q : Value → Store → Prop}
theorem Nd.cells_len (x : Nd) (p n : Value) : (x.cells p n).length = x.base.length := by simp [Nd.cells]
theorem Nd.get_prev {x : Nd} {p n : Value} (h : x.off + 1027 < x.base.length) : (x.cells p n)[x.off + 1026]? = some p := by
  unfold Nd.cells
  rw [List.getElem?_set_ne (by omega), List.getElem?_set_self (by omega)]
theorem Nd.get_next {x : Nd} {p n : Value} (h : x.off + 1027 < x.base.length) : (x.cells p n)[x.off + 1027]? = some n := by
  unfold Nd.cells
  rw [List.getElem?_set_self (by simp; omega)]
theorem Nd.get_other {x : Nd} {p n : Value} {i : Nat} (h1 : i ≠ x.off + 1026) (h2 : i ≠ x.off + 1027) : (x.cells p n)[i]? = x.base[i]? := by
  unfold Nd.cells
  rw [List.getElem?_set_ne (by omega), List.getElem?_set_ne (by omega)]
theorem Nd.set_prev {x : Nd} {p n p' : Value} : (x.cells p n).set (x.off + 1026) p' = x.cells p' n := by
  unfold Nd.cells
  rw [List.set_comm _ _ (by omega), List.set_set]
theorem Nd.set_next {x : Nd} {p n n' : Value} : (x.cells p n).set (x.off + 1027) n' = x.cells p n' := by
  unfold Nd.cells
  rw [List.set_set]
theorem Nd.set_other {x : Nd} {p n v : Value} {i : Nat} (h1 : i ≠ x.off + 1026) (h2 : i ≠ x.off + 1027) : (x.cells p n).set i v = ({ x with base := x.base.set i v } : Nd).cells p n := by
  unfold Nd.cells
  simp only
  rw [List.set_comm _ _ (by omega), List.set_comm (l := x.base) p v (by omega)]
theorem NodeAt.prev {x : Nd} {p n : Value} (h : NodeAt σ x p n) : rdOne (σ.get x.blk) (x.off + 1026) = some p := by
  rw [h.at_, rdOne_cells, Nd.get_prev h.len]
theorem NodeAt.next {x : Nd} {p n : Value} (h : NodeAt σ x p n) : rdOne (σ.get x.blk) (x.off + 1027) = some n := by
  rw [h.at_, rdOne_cells, Nd.get_next h.len]
theorem NodeAt.setp {x : Nd} {p n p' : Value} (h : NodeAt σ x p n) : wrOne (σ.get x.blk) σ x.blk (x.off + 1026) p' = some (junk, σ.put x.blk (some (.cells (x.cells p' n) none))) := by
  rw [h.at_, wrOne_cells (by rw [Nd.cells_len]; have := h.len; omega), Nd.set_prev]
theorem NodeAt.setn {x : Nd} {p n n' : Value} (h : NodeAt σ x p n) : wrOne (σ.get x.blk) σ x.blk (x.off + 1027) n' = some (junk, σ.put x.blk (some (.cells (x.cells p n') none))) := by
  rw [h.at_, wrOne_cells (by rw [Nd.cells_len]; exact h.len), Nd.set_next]
theorem NodeAt.put {x : Nd} {p n : Value} (h : x.off + 1027 < x.base.length) : NodeAt (σ.put x.blk (some (.cells (x.cells p n) none))) x p n := ⟨Store.get_put_same _ _ _, h⟩
theorem NodeAt.same {x : Nd} {p n : Value} (h : NodeAt σ x p n) (hg : σ'.get x.blk = σ.get x.blk) : NodeAt σ' x p n := ⟨by rw [hg, h.at_], h.len⟩
theorem NodeAt.lt {x : Nd} {p n : Value} (h : NodeAt σ x p n) : x.blk < σ.next := Store.lt_of_get h.at_
def pv (m i : Nat) : Nat := if i = 0 then m - 1 else i - 1
def nx (m i : Nat) : Nat := if i + 1 = m then 0 else i + 1
structure Ring (σ : Store) (m : Nat) (nd : Nat → Nd) : Prop where
  pos : 0 < m
  at_ : ∀ i, i < m → NodeAt σ (nd i) (nd (pv m i)).p (nd (nx m i)).p
  inj : ∀ i j, i < m → j < m → (nd i).blk = (nd j).blk → i = j
theorem Ring.same {m : Nat} {nd : Nat → Nd} (h : Ring σ m nd) (hg : ∀ i, i < m → σ'.get (nd i).blk = σ.get (nd i).blk) : Ring σ' m nd := ⟨h.pos, fun i hi => (h.at_ i hi).same (hg i hi), h.inj⟩
theorem pv_lt {m i : Nat} (h : i < m) : pv m i < m := by unfold pv; split <;> omega
theorem nx_lt {m i : Nat} (h : i < m) : nx m i < m := by unfold nx; split <;> omega
theorem Ring.congr {m : Nat} {nd nd' : Nat → Nd} (h : Ring σ m nd) (he : ∀ j, j < m → nd' j = nd j) : Ring σ m nd' := by
  refine ⟨h.pos, fun i hi => ?_, fun i j hi hj e => ?_⟩
  · rw [he i hi, he _ (pv_lt hi), he _ (nx_lt hi)]; exact h.at_ i hi
  · rw [he i hi, he j hj] at e; exact h.inj i j hi hj e
/-- One left out. -/
def sk (i j : Nat) : Nat := if j < i then j else j + 1
theorem sk_lt {m i j : Nat} (hi : i < m) (hj : j < m - 1) : sk i j < m ∧ sk i j ≠ i := by unfold sk; split <;> omega
theorem sk_inj {i j k : Nat} (h : sk i j = sk i k) : j = k := by unfold sk at h; split at h <;> split at h <;> omega
theorem sk_pv {m i j : Nat} (h1 : 1 ≤ i) (hi : i < m) (hj : j < m - 1) : sk i (pv (m - 1) j) = if sk i j = nx m i then pv m i else pv m (sk i j) := by
  unfold sk pv nx
  (repeat' split) <;> omega
theorem sk_nx {m i j : Nat} (h1 : 1 ≤ i) (hi : i < m) (hj : j < m - 1) : sk i (nx (m - 1) j) = if sk i j = pv m i then nx m i else nx m (sk i j) := by
  unfold sk pv nx
  (repeat' split) <;> omega
theorem pv_nx {m i : Nat} (hi : i < m) : pv m (nx m i) = i := by unfold pv nx; (repeat' split) <;> omega
theorem nx_pv {m i : Nat} (hi : i < m) : nx m (pv m i) = i := by unfold pv nx; (repeat' split) <;> omega
theorem leave_ {m i : Nat} {nd : Nat → Nd} (h : Ring σ m nd) (h1 : 1 ≤ i) (hi : i < m)
    (hq : ∀ σ', σ'.next = σ.next → Ring σ' (m - 1) (fun j => nd (sk i j)) → (∀ b, (∀ k, k < m → k ≠ i → b ≠ (nd k).blk) → σ'.get b = σ.get b) → Q (.tuple #[]) σ') :
    Does Try.prog 60 [.pointer (some ⟨(nd i).blk, (nd i).off, none⟩)] σ Q := by
  refine d60 ?_
  have hp := pv_lt hi
  have hn := nx_lt hi
  have hpi : pv m i ≠ i := by unfold pv; split <;> omega
  have hni : nx m i ≠ i := by unfold nx; split <;> omega
  have ai := h.at_ i hi
  have aP := h.at_ (pv m i) hp
  have aN := h.at_ (nx m i) hn
  rw [nx_pv hi] at aP
  rw [pv_nx hi] at aN
  have bP : (nd i).blk ≠ (nd (pv m i)).blk := fun e => hpi (h.inj _ _ hp hi e.symm)
  have bN : (nd i).blk ≠ (nd (nx m i)).blk := fun e => hni (h.inj _ _ hn hi e.symm)
  have e1 := ai.prev
  have e2 := ai.next
  have e3 := aP.setn (n' := (nd (nx m i)).p)
  obtain ⟨σ1, hσ1⟩ : ∃ σ1, σ1 = σ.put (nd (pv m i)).blk (some (.cells ((nd (pv m i)).cells (nd (pv m (pv m i))).p (nd (nx m i)).p) none)) := ⟨_, rfl⟩
  rw [← hσ1] at e3
  have g1 : ∀ b, b ≠ (nd (pv m i)).blk → σ1.get b = σ.get b := fun b hb => by rw [hσ1, get_put_ne' hb]
  have bi := ai.same (σ' := σ1) (g1 _ bP)
  have e4 := bi.prev
  have e5 := bi.next
  have n1 : σ1.next = σ.next := by rw [hσ1, next_max]; have := aP.lt; omega
  have bP1 : NodeAt σ1 (nd (pv m i)) (nd (pv m (pv m i))).p (nd (nx m i)).p := by rw [hσ1]; exact NodeAt.put aP.len
  have fin : ∀ σ2, σ2.next = σ.next → (∀ b, b ≠ (nd (pv m i)).blk → b ≠ (nd (nx m i)).blk → σ2.get b = σ.get b) →
      (∀ k, k < m → k ≠ i → NodeAt σ2 (nd k) (nd (if k = nx m i then pv m i else pv m k)).p (nd (if k = pv m i then nx m i else nx m k)).p) → Q (.tuple #[]) σ2 := fun σ2 n2 g2 hall => by
    refine hq σ2 n2 ⟨by omega, fun j hj => ?_, fun j k hj hk e => ?_⟩ fun b hb => g2 b (hb _ hp hpi) (hb _ hn hni)
    · obtain ⟨s1, s2⟩ := sk_lt hi hj
      have := hall (sk i j) s1 s2
      rw [← sk_pv h1 hi hj, ← sk_nx h1 hi hj] at this
      exact this
    · obtain ⟨s1, s2⟩ := sk_lt hi hj
      obtain ⟨t1, t2⟩ := sk_lt hi hk
      exact sk_inj (h.inj _ _ s1 t1 e)
  clear hσ1 hq
  by_cases hpn : pv m i = nx m i
  · have cN : NodeAt σ1 (nd (nx m i)) (nd (pv m (pv m i))).p (nd (nx m i)).p := by rw [← hpn] at bP1 ⊢; exact bP1
    have e6 := cN.setp (p' := (nd (pv m i)).p)
    have fin2 := fin (σ1.put (nd (nx m i)).blk (some (.cells ((nd (nx m i)).cells (nd (pv m i)).p (nd (nx m i)).p) none))) (by rw [next_max]; have := cN.lt; omega) (fun b hb1 hb2 => by rw [get_put_ne' hb2, g1 b hb1]) (fun k hk hki => by
      have hm2 : k = nx m i := by unfold pv nx at hpn; unfold nx; (repeat' split at hpn) <;> (repeat' split) <;> omega
      have hm3 : k = pv m i := by rw [hm2, hpn]
      rw [if_pos hm2, if_pos hm3]
      subst hm2
      exact NodeAt.put cN.len)
    simp only [Nd.p] at e1 e2 e3 e4 e5 e6 fin2
    simp -implicitDefEqProofs (maxSteps := 2000000) (disch := first|assumption|omega|rfl|(simp only[RD];done)|(simp only[RD];omega)) only [RN,Int.reduceBEq,Int.reduceBNe,Int.reduceLT,Int.reduceLE,Int.reduceAdd,Int.reduceSub,Int.reduceMul,Nat.reduceAdd,↓bc_flatz,↓bc_flat16,↓agg_bytez, p60, e1, e2, e3, e4, e5, e6]
    exact fin2
  · have bb : (nd (nx m i)).blk ≠ (nd (pv m i)).blk := fun e => hpn (h.inj _ _ hp hn e.symm)
    have cN := aN.same (g1 _ bb)
    have e6 := cN.setp (p' := (nd (pv m i)).p)
    have fin2 := fin (σ1.put (nd (nx m i)).blk (some (.cells ((nd (nx m i)).cells (nd (pv m i)).p (nd (nx m (nx m i))).p) none))) (by rw [next_max]; have := cN.lt; omega) (fun b hb1 hb2 => by rw [get_put_ne' hb2, g1 b hb1]) (fun k hk hki => by
      by_cases k1 : k = nx m i
      · have k2 : k ≠ pv m i := fun e => hpn (e.symm.trans k1)
        rw [if_pos k1, if_neg k2]
        subst k1
        exact NodeAt.put cN.len
      · rw [if_neg k1]
        have hb2 : (nd k).blk ≠ (nd (nx m i)).blk := fun e => k1 (h.inj _ _ hk hn e)
        by_cases k2 : k = pv m i
        · rw [if_pos k2]
          subst k2
          exact bP1.same (get_put_ne' hb2)
        · rw [if_neg k2]
          have hb1 : (nd k).blk ≠ (nd (pv m i)).blk := fun e => k2 (h.inj _ _ hk hp e)
          exact (h.at_ k hk).same (by rw [get_put_ne' hb2, g1 _ hb1]))
    simp only [Nd.p] at e1 e2 e3 e4 e5 e6 fin2
    simp -implicitDefEqProofs (maxSteps := 2000000) (disch := first|assumption|omega|rfl|(simp only[RD];done)|(simp only[RD];omega)) only [RN,Int.reduceBEq,Int.reduceBNe,Int.reduceLT,Int.reduceLE,Int.reduceAdd,Int.reduceSub,Int.reduceMul,Nat.reduceAdd,↓bc_flatz,↓bc_flat16,↓agg_bytez, p60, e1, e2, e3, e4, e5, e6]
    exact fin2
theorem pv_succ {m k : Nat} (hm : 0 < m) (hk : k < m) : pv (m + 1) k = if k = 0 then m else pv m k := by unfold pv; (repeat' split) <;> omega
theorem nx_succ {m k : Nat} (hm : 0 < m) (hk : k < m) : nx (m + 1) k = if k = m - 1 then m else nx m k := by unfold nx; (repeat' split) <;> omega
/-- A node behind all others. -/
def ext (m : Nat) (nd : Nat → Nd) (x : Nd) (j : Nat) : Nd := if j = m then x else nd j
theorem ext_lt {m : Nat} {nd : Nat → Nd} {x : Nd} {j : Nat} (h : j < m) : ext m nd x j = nd j := by unfold ext; rw [if_neg (by omega)]
theorem ext_eq {m : Nat} {nd : Nat → Nd} {x : Nd} : ext m nd x m = x := by unfold ext; rw [if_pos rfl]
theorem last_ {m c : Nat} {nd : Nat → Nd} {x : Nd} {p0 n0 : Value} (h : Ring σ m nd) (hc : (nd 0).blk = c) (ho : (nd 0).off = 3) (hx : NodeAt σ x p0 n0) (hnew : ∀ i, i < m → (nd i).blk ≠ x.blk)
    (hq : ∀ σ', σ'.next = σ.next → Ring σ' (m + 1) (ext m nd x) → (∀ b, b ≠ x.blk → (∀ k, k < m → b ≠ (nd k).blk) → σ'.get b = σ.get b) → Q (.tuple #[]) σ') :
    Does Try.prog 62 [.pointer (some ⟨c, 0, none⟩), .pointer (some ⟨x.blk, x.off, none⟩)] σ Q := by
  refine d62 ?_
  have hm := h.pos
  have a0 := h.at_ 0 hm
  have hl : pv m 0 < m := pv_lt hm
  have aL := h.at_ (pv m 0) hl
  rw [nx_pv hm] at aL
  have pm : pv m 0 = m - 1 := by unfold pv; rw [if_pos rfl]
  have e1 := a0.prev
  have e2 := hx.setp (p' := (nd (pv m 0)).p)
  have x1 : NodeAt (σ.put x.blk (some (.cells (x.cells (nd (pv m 0)).p n0) none))) x (nd (pv m 0)).p n0 := NodeAt.put hx.len
  have e3 := x1.setn (n' := (nd 0).p)
  rw [put_put] at e3
  generalize σ.put x.blk (some (.cells (x.cells (nd (pv m 0)).p n0) none)) = σa at e2 e3
  obtain ⟨σ1, hσ1⟩ : ∃ σ1, σ1 = σ.put x.blk (some (.cells (x.cells (nd (pv m 0)).p (nd 0).p) none)) := ⟨_, rfl⟩
  rw [← hσ1] at e3
  have x2 : NodeAt σ1 x (nd (pv m 0)).p (nd 0).p := by rw [hσ1]; exact NodeAt.put hx.len
  have g1 : ∀ b, b ≠ x.blk → σ1.get b = σ.get b := fun b hb => by rw [hσ1, get_put_ne' hb]
  have n1 : σ1.next = σ.next := by rw [hσ1, next_max]; have := hx.lt; omega
  clear hσ1
  have r1 : Ring σ1 m nd := h.same fun i hi => g1 _ (hnew i hi)
  have e4 := x2.prev
  have bL := aL.same (g1 _ (hnew _ hl))
  have e5 := bL.setn (n' := x.p)
  obtain ⟨σ2, hσ2⟩ : ∃ σ2, σ2 = σ1.put (nd (pv m 0)).blk (some (.cells ((nd (pv m 0)).cells (nd (pv m (pv m 0))).p x.p) none)) := ⟨_, rfl⟩
  rw [← hσ2] at e5
  have g2 : ∀ b, b ≠ (nd (pv m 0)).blk → σ2.get b = σ1.get b := fun b hb => by rw [hσ2, get_put_ne' hb]
  have n2 : σ2.next = σ.next := by rw [hσ2, next_max]; have := bL.lt; omega
  have cL : NodeAt σ2 (nd (pv m 0)) (nd (pv m (pv m 0))).p x.p := by rw [hσ2]; exact NodeAt.put aL.len
  clear hσ2
  -- the root, behind that
  have c0 : NodeAt σ2 (nd 0) (nd (pv m 0)).p (if 0 = pv m 0 then x.p else (nd (nx m 0)).p) := by
    by_cases h0 : 0 = pv m 0
    · rw [if_pos h0]
      have := cL
      rw [← h0] at this ⊢
      rw [← h0] at this
      exact this
    · rw [if_neg h0]
      have hb : (nd 0).blk ≠ (nd (pv m 0)).blk := fun e => h0 (h.inj _ _ hm hl e)
      exact ((a0.same (g1 _ (hnew 0 hm))).same (g2 _ hb))
  have e6 := c0.setp (p' := x.p)
  have fin : Q (.tuple #[]) (σ2.put (nd 0).blk (some (.cells ((nd 0).cells x.p (if 0 = pv m 0 then x.p else (nd (nx m 0)).p)) none))) := by
    have g3 : ∀ b, b ≠ (nd 0).blk → (σ2.put (nd 0).blk (some (.cells ((nd 0).cells x.p (if 0 = pv m 0 then x.p else (nd (nx m 0)).p)) none))).get b = σ2.get b := fun b hb => get_put_ne' hb
    have d0 : NodeAt (σ2.put (nd 0).blk (some (.cells ((nd 0).cells x.p (if 0 = pv m 0 then x.p else (nd (nx m 0)).p)) none))) (nd 0) x.p (if 0 = pv m 0 then x.p else (nd (nx m 0)).p) := NodeAt.put c0.len
    refine hq _ (by rw [next_max]; have := c0.lt; omega) ⟨by omega, fun k hk => ?_, fun i j hi hj e => ?_⟩ fun b hb hbk => ?_
    · by_cases hkm : k = m
      · subst hkm
        rw [ext_eq]
        have q1 : pv (k + 1) k = k - 1 := by unfold pv; rw [if_neg (by omega)]
        have q2 : nx (k + 1) k = 0 := by unfold nx; rw [if_pos rfl]
        rw [q1, q2, ext_lt (by omega), ext_lt hm, ← pm]
        exact (x2.same (g2 _ (hnew _ hl).symm)).same (g3 _ (hnew 0 hm).symm)
      · have hk' : k < m := by omega
        rw [ext_lt hk', pv_succ hm hk', nx_succ hm hk']
        by_cases k0 : k = 0
        · subst k0
          rw [if_pos rfl, ext_eq]
          by_cases h0 : 0 = m - 1
          · rw [if_pos h0, ext_eq]
            rw [if_pos (by rw [pm]; exact h0)] at d0 ⊢
            exact d0
          · rw [if_neg h0, ext_lt (nx_lt hm)]
            rw [if_neg (by rw [pm]; exact h0)] at d0 ⊢
            exact d0
        · rw [if_neg k0, ext_lt (pv_lt hk')]
          have hb0 : (nd k).blk ≠ (nd 0).blk := fun e => k0 (h.inj _ _ hk' hm e)
          by_cases k1 : k = m - 1
          · rw [if_pos k1, ext_eq]
            have e : k = pv m 0 := by rw [pm]; exact k1
            rw [← e] at cL
            exact cL.same (g3 _ hb0)
          · rw [if_neg k1, ext_lt (nx_lt hk')]
            have hbL : (nd k).blk ≠ (nd (pv m 0)).blk := fun e => k1 (by have := h.inj _ _ hk' hl e; rw [this, pm])
            exact (((h.at_ k hk').same (g1 _ (hnew k hk'))).same (g2 _ hbL)).same (g3 _ hb0)
    · by_cases hi' : i = m
      · by_cases hj' : j = m
        · omega
        · rw [hi', ext_eq, ext_lt (by omega)] at e
          exact absurd e.symm (hnew j (by omega))
      · by_cases hj' : j = m
        · rw [hj', ext_eq, ext_lt (by omega)] at e
          exact absurd e (hnew i (by omega))
        · rw [ext_lt (by omega), ext_lt (by omega)] at e
          exact h.inj _ _ (by omega) (by omega) e
    · rw [g3 _ (hbk 0 hm), g2 _ (hbk _ hl), g1 _ hb]
  clear hq
  rw [ho] at e1 e6
  simp only [Nd.p, hc, ho] at e1 e2 e3 e4 e5 e6 fin
  simp -implicitDefEqProofs (maxSteps := 2000000) (disch := first|assumption|omega|rfl|(simp only[RD];done)|(simp only[RD];omega)) only [RN,Int.reduceBEq,Int.reduceBNe,Int.reduceLT,Int.reduceLE,Int.reduceAdd,Int.reduceSub,Int.reduceMul,Nat.reduceAdd,↓bc_flatz,↓bc_flat16,↓agg_bytez, p62, e1, e2, e3, e4, e5, e6]
  exact fin
end Go.Proofs.Ytiaonndafhfkmaa
