/- Chapter 04: what is no disk; blocks of bytes. -/
import Derived.Test.YtelnpbgkgcollaaAwk
import Derived.Test.YtelnpbgkgcollaaLnd
set_option linter.all false
set_option maxRecDepth 100000
set_option maxHeartbeats 400000
namespace Go.Proofs.Ytelnpbgkgcollaa
open Go.Am
variable {σ σ' : Store} {Q : Value → Store → Prop} {v : Value}
/-- The block that begins with these bytes. -/
def blkP (p : List Int) : List Int := (p ++ zb).take 1024
theorem blkP_len (p : List Int) : (blkP p).length = 1024 := by simp [blkP, zb_len]
def arrP (p : List Int) (i : Nat) : List Int := p.take i ++ zb.drop i
theorem arrP_len {p : List Int} {i : Nat} (h : i ≤ p.length) (h2 : i ≤ 1024) : (arrP p i).length = 1024 := by simp [arrP, zb_len]; omega
theorem arrP_set {p : List Int} {i : Nat} (h : i < p.length) (h2 : i < 1024) : (arrP p i).set i p[i] = arrP p (i + 1) := by
  refine List.ext_getElem? fun j => ?_
  have hl := arrP_len (p := p) (i := i) (by omega) (by omega)
  have hz := zb_len
  rw [List.getElem?_set]
  by_cases hj : i = j
  · subst hj
    rw [if_pos rfl, if_pos (by omega)]
    unfold arrP
    rw [List.getElem?_append_left (by simp; omega), List.getElem?_take, if_pos (by omega), List.getElem?_eq_getElem h]
  · rw [if_neg hj]
    unfold arrP
    rw [List.getElem?_append, List.getElem?_append, List.length_take, List.length_take]
    by_cases h3 : j < i
    · rw [if_pos (by omega), if_pos (by omega), List.getElem?_take, List.getElem?_take, if_pos h3, if_pos (by omega)]
    · rw [if_neg (by omega), if_neg (by omega), List.getElem?_drop, List.getElem?_drop]
      congr 1
      omega
theorem arrP_end {p : List Int} {i : Nat} (h : i = min p.length 1024) : arrP p i = blkP p := by
  unfold arrP blkP
  have hz := zb_len
  rw [List.take_append]
  by_cases h1 : p.length ≤ 1024
  · have : i = p.length := by omega
    subst this
    rw [List.take_length, List.take_of_length_le h1]
    congr 1
    refine List.ext_getElem? fun j => ?_
    rw [List.getElem?_drop, List.getElem?_take]
    split
    · unfold zb
      rw [List.getElem?_replicate, List.getElem?_replicate, if_pos (by omega), if_pos (by omega)]
    · rw [List.getElem?_eq_none (by omega)]
  · have : i = 1024 := by omega
    subst this
    rw [List.drop_of_length_le (by omega), show 1024 - p.length = 0 by omega, List.take_zero]
theorem block4_ {p : List Int} (hv : ElV σ v (bc p)) (hq : Q (.agg ⟨bc (blkP p)⟩) σ) : Does Try.prog 16 [v] σ Q := by
  refine Does.pureT (r := .agg ⟨bc (blkP p)⟩) ?_ (by simp only [closedT, closed]; exact bc_scalar _) hq
  refine d16 ?_
  have l1 := hv.1
  rw [bc_len] at l1
  simp -implicitDefEqProofs (maxSteps := 2000000) (disch := first|assumption|omega|rfl|(simp only[RD];done)|(simp only[RD];omega)) only [RN,Int.reduceBEq,Int.reduceBNe,Int.reduceLT,Int.reduceLE,Int.reduceAdd,Int.reduceSub,Int.reduceMul,Nat.reduceAdd,↓bc_flatz,↓bc_flat16,↓agg_bytez, p16]
  obtain ⟨s1, hs1⟩ : ∃ s1, s1 = (σ.push (.cells (bc zb) none)).push (.cells (bc zb) none) := ⟨_, rfl⟩
  have k1 : Keeps σ s1 := by rw [hs1]; exact ((Keeps.refl _).push _).push _
  have c0 : s1.get σ.next = some (.cells (bc zb) none) := by rw [hs1]; simp -implicitDefEqProofs (maxSteps := 2000000) (disch := first|assumption|omega|rfl|(simp only[RD];done)|(simp only[RD];omega)) only [RN,Int.reduceBEq,Int.reduceBNe,Int.reduceLT,Int.reduceLE,Int.reduceAdd,Int.reduceSub,Int.reduceMul,Nat.reduceAdd,↓bc_flatz,↓bc_flat16,↓agg_bytez]
  have c1 : s1.get (σ.next + 1) = some (.cells (bc zb) none) := by rw [hs1]; simp -implicitDefEqProofs (maxSteps := 2000000) (disch := first|assumption|omega|rfl|(simp only[RD];done)|(simp only[RD];omega)) only [RN,Int.reduceBEq,Int.reduceBNe,Int.reduceLT,Int.reduceLE,Int.reduceAdd,Int.reduceSub,Int.reduceMul,Nat.reduceAdd,↓bc_flatz,↓bc_flat16,↓agg_bytez]
  have n1 : s1.next = σ.next + 2 := by rw [hs1]; simp only [Store.next_push]
  rw [← hs1]
  refine lop1 (fun k x st => ∃ i : Nat, k + i = min p.length 1024 ∧ x = .int .i64 i ∧ Keeps σ st ∧ st.get σ.next = some (.cells (bc zb) none) ∧ st.get (σ.next + 1) = some (.cells (bc (arrP p i)) none)) (min p.length 1024) ⟨0, by omega, rfl, k1, c0, by rw [c1]; rfl⟩ ?_
  rintro k x st next ⟨i, hi, rfl, hk, h0, h1⟩ hnx
  have hal := arrP_len (p := p) (i := i) (by omega) (by omega)
  have hbl : (bc (arrP p i)).length = 1024 := by rw [bc_len, hal]
  have fin : i = min p.length 1024 → (∀ st', Keeps σ st' → st'.get (σ.next) = some (.cells (bc (blkP p)) none) → True) := fun _ _ _ _ => trivial
  by_cases h5 : (i : Int) < (p.length : Nat)
  · by_cases h6 : (i : Int) < 1024
    · have h7 : i < p.length := by omega
      obtain ⟨a, o, q1, q2, q3⟩ := hv.2 i (by rw [bc_len]; exact h7)
      rw [bc_get, List.getElem?_eq_getElem h7] at q3
      have q3' : rdOne (st.get a) o = some (.int .u8 p[i]) := by rw [hk.2 a q2, q3]; rfl
      have ti : ((i : Nat) : Int).toNat = i := Int.toNat_natCast i
      simp -implicitDefEqProofs (maxSteps := 2000000) (disch := first|assumption|omega|rfl|(simp only[RD];done)|(simp only[RD];omega)) only [RN,Int.reduceBEq,Int.reduceBNe,Int.reduceLT,Int.reduceLE,Int.reduceAdd,Int.reduceSub,Int.reduceMul,Nat.reduceAdd,↓bc_flatz,↓bc_flat16,↓agg_bytez, l1, decide_eq_true h5, decide_eq_true h6, q1, q3', ti, Nat.mul_one, h1, hbl, bc_set, arrP_set h7 (show i < 1024 by omega)]
      refine hnx _ _ (by omega) ⟨i + 1, by omega, by congr 1, hk.put _ (by omega), ?_, ?_⟩
      · rw [get_put_ne' (by omega), h0]
      · rw [Store.get_put_same]
    · have hii : i = min p.length 1024 := by omega
      rw [arrP_end hii] at h1
      have hb := blkP_len p
      simp -implicitDefEqProofs (maxSteps := 2000000) (disch := first|assumption|omega|rfl|(simp only[RD];done)|(simp only[RD];omega)) only [RN,Int.reduceBEq,Int.reduceBNe,Int.reduceLT,Int.reduceLE,Int.reduceAdd,Int.reduceSub,Int.reduceMul,Nat.reduceAdd,↓bc_flatz,↓bc_flat16,↓agg_bytez, l1, decide_eq_true h5, decide_eq_false h6, h1, h0, hb]
      exact ⟨trivial, hk.put _ (Nat.le_refl _)⟩
  · have hii : i = min p.length 1024 := by omega
    rw [arrP_end hii] at h1
    have hb := blkP_len p
    simp -implicitDefEqProofs (maxSteps := 2000000) (disch := first|assumption|omega|rfl|(simp only[RD];done)|(simp only[RD];omega)) only [RN,Int.reduceBEq,Int.reduceBNe,Int.reduceLT,Int.reduceLE,Int.reduceAdd,Int.reduceSub,Int.reduceMul,Nat.reduceAdd,↓bc_flatz,↓bc_flat16,↓agg_bytez, l1, decide_eq_false h5, h1, h0, hb]
    exact ⟨trivial, hk.put _ (Nat.le_refl _)⟩
/-! ## no disk -/
def ND (σ : Store) (v : Value) : Prop := v = .pointer none ∨ ∃ i cs, v = .pointer (some ⟨i, 0, none⟩) ∧ σ.get i = some (.cells cs none) ∧ cs[0]? = some (.int .i64 0)
theorem ND.keeps (h : ND σ v) (k : Keeps σ σ') : ND σ' v := by
  rcases h with h | ⟨i, cs, h1, h2, h3⟩
  · exact .inl h
  · exact .inr ⟨i, cs, h1, k.get h2, h3⟩
theorem nd_is (h : ND σ v) (hq : Q (.bool false) σ) : Does Try.prog 43 [v] σ Q := by
  refine d43 ?_
  rcases h with rfl | ⟨i, cs, rfl, h2, h3⟩
  · simp -implicitDefEqProofs (maxSteps := 2000000) (disch := first|assumption|omega|rfl|(simp only[RD];done)|(simp only[RD];omega)) only [RN,Int.reduceBEq,Int.reduceBNe,Int.reduceLT,Int.reduceLE,Int.reduceAdd,Int.reduceSub,Int.reduceMul,Nat.reduceAdd,↓bc_flatz,↓bc_flat16,↓agg_bytez, p43]
    exact hq
  · simp -implicitDefEqProofs (maxSteps := 2000000) (disch := first|assumption|omega|rfl|(simp only[RD];done)|(simp only[RD];omega)) only [RN,Int.reduceBEq,Int.reduceBNe,Int.reduceLT,Int.reduceLE,Int.reduceAdd,Int.reduceSub,Int.reduceMul,Nat.reduceAdd,↓bc_flatz,↓bc_flat16,↓agg_bytez, p43, h2, h3]
    exact hq
theorem nd_check (h : ND σ v) (hq : Q (.int .i64 1) σ) : Does Try.prog 46 [v] σ Q := by
  refine d46 ?_
  simp -implicitDefEqProofs (maxSteps := 2000000) (disch := first|assumption|omega|rfl|(simp only[RD];done)|(simp only[RD];omega)) only [RN,Int.reduceBEq,Int.reduceBNe,Int.reduceLT,Int.reduceLE,Int.reduceAdd,Int.reduceSub,Int.reduceMul,Nat.reduceAdd,↓bc_flatz,↓bc_flat16,↓agg_bytez, p46]
  refine nd_is h ?_
  try simp -implicitDefEqProofs (maxSteps := 2000000) (disch := first|assumption|omega|rfl|(simp only[RD];done)|(simp only[RD];omega)) only [RN,Int.reduceBEq,Int.reduceBNe,Int.reduceLT,Int.reduceLE,Int.reduceAdd,Int.reduceSub,Int.reduceMul,Nat.reduceAdd,↓bc_flatz,↓bc_flat16,↓agg_bytez]
  exact hq
theorem nd_len (h : ND σ v) (hq : Q (.int .i64 0) σ) : Does Try.prog 13 [v] σ Q := by
  refine d13 ?_
  simp -implicitDefEqProofs (maxSteps := 2000000) (disch := first|assumption|omega|rfl|(simp only[RD];done)|(simp only[RD];omega)) only [RN,Int.reduceBEq,Int.reduceBNe,Int.reduceLT,Int.reduceLE,Int.reduceAdd,Int.reduceSub,Int.reduceMul,Nat.reduceAdd,↓bc_flatz,↓bc_flat16,↓agg_bytez, p13]
  refine nd_is h ?_
  try simp -implicitDefEqProofs (maxSteps := 2000000) (disch := first|assumption|omega|rfl|(simp only[RD];done)|(simp only[RD];omega)) only [RN,Int.reduceBEq,Int.reduceBNe,Int.reduceLT,Int.reduceLE,Int.reduceAdd,Int.reduceSub,Int.reduceMul,Nat.reduceAdd,↓bc_flatz,↓bc_flat16,↓agg_bytez]
  exact hq
theorem nd_made (h : ND σ v) (hq : Q (.int .i64 0) σ) : Does Try.prog 18 [v] σ Q := by
  refine d18 ?_
  simp -implicitDefEqProofs (maxSteps := 2000000) (disch := first|assumption|omega|rfl|(simp only[RD];done)|(simp only[RD];omega)) only [RN,Int.reduceBEq,Int.reduceBNe,Int.reduceLT,Int.reduceLE,Int.reduceAdd,Int.reduceSub,Int.reduceMul,Nat.reduceAdd,↓bc_flatz,↓bc_flat16,↓agg_bytez, p18]
  refine nd_is h ?_
  try simp -implicitDefEqProofs (maxSteps := 2000000) (disch := first|assumption|omega|rfl|(simp only[RD];done)|(simp only[RD];omega)) only [RN,Int.reduceBEq,Int.reduceBNe,Int.reduceLT,Int.reduceLE,Int.reduceAdd,Int.reduceSub,Int.reduceMul,Nat.reduceAdd,↓bc_flatz,↓bc_flat16,↓agg_bytez]
  exact hq
theorem nd_reads (h : ND σ v) (hq : Q (.int .i64 0) σ) : Does Try.prog 19 [v] σ Q := by
  refine d19 ?_
  simp -implicitDefEqProofs (maxSteps := 2000000) (disch := first|assumption|omega|rfl|(simp only[RD];done)|(simp only[RD];omega)) only [RN,Int.reduceBEq,Int.reduceBNe,Int.reduceLT,Int.reduceLE,Int.reduceAdd,Int.reduceSub,Int.reduceMul,Nat.reduceAdd,↓bc_flatz,↓bc_flat16,↓agg_bytez, p19]
  refine nd_is h ?_
  try simp -implicitDefEqProofs (maxSteps := 2000000) (disch := first|assumption|omega|rfl|(simp only[RD];done)|(simp only[RD];omega)) only [RN,Int.reduceBEq,Int.reduceBNe,Int.reduceLT,Int.reduceLE,Int.reduceAdd,Int.reduceSub,Int.reduceMul,Nat.reduceAdd,↓bc_flatz,↓bc_flat16,↓agg_bytez]
  exact hq
theorem nd_pending (h : ND σ v) (hq : Q (.slice none 0 0) σ) : Does Try.prog 20 [v] σ Q := by
  refine d20 ?_
  simp -implicitDefEqProofs (maxSteps := 2000000) (disch := first|assumption|omega|rfl|(simp only[RD];done)|(simp only[RD];omega)) only [RN,Int.reduceBEq,Int.reduceBNe,Int.reduceLT,Int.reduceLE,Int.reduceAdd,Int.reduceSub,Int.reduceMul,Nat.reduceAdd,↓bc_flatz,↓bc_flat16,↓agg_bytez, p20]
  refine nd_is h ?_
  try simp -implicitDefEqProofs (maxSteps := 2000000) (disch := first|assumption|omega|rfl|(simp only[RD];done)|(simp only[RD];omega)) only [RN,Int.reduceBEq,Int.reduceBNe,Int.reduceLT,Int.reduceLE,Int.reduceAdd,Int.reduceSub,Int.reduceMul,Nat.reduceAdd,↓bc_flatz,↓bc_flat16,↓agg_bytez]
  exact hq
theorem nd_history (h : ND σ v) (hq : Q (.slice none 0 0) σ) : Does Try.prog 21 [v] σ Q := by
  refine d21 ?_
  simp -implicitDefEqProofs (maxSteps := 2000000) (disch := first|assumption|omega|rfl|(simp only[RD];done)|(simp only[RD];omega)) only [RN,Int.reduceBEq,Int.reduceBNe,Int.reduceLT,Int.reduceLE,Int.reduceAdd,Int.reduceSub,Int.reduceMul,Nat.reduceAdd,↓bc_flatz,↓bc_flat16,↓agg_bytez, p21]
  refine nd_is h ?_
  try simp -implicitDefEqProofs (maxSteps := 2000000) (disch := first|assumption|omega|rfl|(simp only[RD];done)|(simp only[RD];omega)) only [RN,Int.reduceBEq,Int.reduceBNe,Int.reduceLT,Int.reduceLE,Int.reduceAdd,Int.reduceSub,Int.reduceMul,Nat.reduceAdd,↓bc_flatz,↓bc_flat16,↓agg_bytez]
  exact hq
theorem nd_stopped (h : ND σ v) (hq : Q (.bool false) σ) : Does Try.prog 29 [v] σ Q := by
  refine d29 ?_
  simp -implicitDefEqProofs (maxSteps := 2000000) (disch := first|assumption|omega|rfl|(simp only[RD];done)|(simp only[RD];omega)) only [RN,Int.reduceBEq,Int.reduceBNe,Int.reduceLT,Int.reduceLE,Int.reduceAdd,Int.reduceSub,Int.reduceMul,Nat.reduceAdd,↓bc_flatz,↓bc_flat16,↓agg_bytez, p29]
  refine nd_is h ?_
  try simp -implicitDefEqProofs (maxSteps := 2000000) (disch := first|assumption|omega|rfl|(simp only[RD];done)|(simp only[RD];omega)) only [RN,Int.reduceBEq,Int.reduceBNe,Int.reduceLT,Int.reduceLE,Int.reduceAdd,Int.reduceSub,Int.reduceMul,Nat.reduceAdd,↓bc_flatz,↓bc_flat16,↓agg_bytez]
  exact hq
theorem nd_barrier (h : ND σ v) (hq : Q (.int .i64 1) σ) : Does Try.prog 27 [v] σ Q := by
  refine d27 ?_
  simp -implicitDefEqProofs (maxSteps := 2000000) (disch := first|assumption|omega|rfl|(simp only[RD];done)|(simp only[RD];omega)) only [RN,Int.reduceBEq,Int.reduceBNe,Int.reduceLT,Int.reduceLE,Int.reduceAdd,Int.reduceSub,Int.reduceMul,Nat.reduceAdd,↓bc_flatz,↓bc_flat16,↓agg_bytez, p27]
  refine nd_check h ?_
  try simp -implicitDefEqProofs (maxSteps := 2000000) (disch := first|assumption|omega|rfl|(simp only[RD];done)|(simp only[RD];omega)) only [RN,Int.reduceBEq,Int.reduceBNe,Int.reduceLT,Int.reduceLE,Int.reduceAdd,Int.reduceSub,Int.reduceMul,Nat.reduceAdd,↓bc_flatz,↓bc_flat16,↓agg_bytez]
  exact hq
theorem nd_crash {x : Value} (h : ND σ v) (hq : Q (.int .i64 1) σ) : Does Try.prog 30 [v, x] σ Q := by
  refine d30 ?_
  simp -implicitDefEqProofs (maxSteps := 2000000) (disch := first|assumption|omega|rfl|(simp only[RD];done)|(simp only[RD];omega)) only [RN,Int.reduceBEq,Int.reduceBNe,Int.reduceLT,Int.reduceLE,Int.reduceAdd,Int.reduceSub,Int.reduceMul,Nat.reduceAdd,↓bc_flatz,↓bc_flat16,↓agg_bytez, p30]
  refine nd_is h ?_
  try simp -implicitDefEqProofs (maxSteps := 2000000) (disch := first|assumption|omega|rfl|(simp only[RD];done)|(simp only[RD];omega)) only [RN,Int.reduceBEq,Int.reduceBNe,Int.reduceLT,Int.reduceLE,Int.reduceAdd,Int.reduceSub,Int.reduceMul,Nat.reduceAdd,↓bc_flatz,↓bc_flat16,↓agg_bytez]
  exact hq
theorem nd_claim (h : ND σ v) (hq : Q (.int .i64 0) σ) : Does Try.prog 31 [v] σ Q := by
  refine d31 ?_
  simp -implicitDefEqProofs (maxSteps := 2000000) (disch := first|assumption|omega|rfl|(simp only[RD];done)|(simp only[RD];omega)) only [RN,Int.reduceBEq,Int.reduceBNe,Int.reduceLT,Int.reduceLE,Int.reduceAdd,Int.reduceSub,Int.reduceMul,Nat.reduceAdd,↓bc_flatz,↓bc_flat16,↓agg_bytez, p31]
  refine nd_check h ?_
  try simp -implicitDefEqProofs (maxSteps := 2000000) (disch := first|assumption|omega|rfl|(simp only[RD];done)|(simp only[RD];omega)) only [RN,Int.reduceBEq,Int.reduceBNe,Int.reduceLT,Int.reduceLE,Int.reduceAdd,Int.reduceSub,Int.reduceMul,Nat.reduceAdd,↓bc_flatz,↓bc_flat16,↓agg_bytez]
  exact hq
theorem nd_claimed {x : Int} (h : ND σ v) (hq : Q (.bool false) σ) : Does Try.prog 32 [v, .int .i64 x] σ Q := by
  refine d32 ?_
  simp -implicitDefEqProofs (maxSteps := 2000000) (disch := first|assumption|omega|rfl|(simp only[RD];done)|(simp only[RD];omega)) only [RN,Int.reduceBEq,Int.reduceBNe,Int.reduceLT,Int.reduceLE,Int.reduceAdd,Int.reduceSub,Int.reduceMul,Nat.reduceAdd,↓bc_flatz,↓bc_flat16,↓agg_bytez, p32]
  refine nd_check h ?_
  try simp -implicitDefEqProofs (maxSteps := 2000000) (disch := first|assumption|omega|rfl|(simp only[RD];done)|(simp only[RD];omega)) only [RN,Int.reduceBEq,Int.reduceBNe,Int.reduceLT,Int.reduceLE,Int.reduceAdd,Int.reduceSub,Int.reduceMul,Nat.reduceAdd,↓bc_flatz,↓bc_flat16,↓agg_bytez]
  exact hq
theorem nd_fuse {x : Int} (h : ND σ v) (hq : Q (.tuple #[]) σ) : Does Try.prog 25 [v, .int .i64 x] σ Q := by
  refine d25 ?_
  simp -implicitDefEqProofs (maxSteps := 2000000) (disch := first|assumption|omega|rfl|(simp only[RD];done)|(simp only[RD];omega)) only [RN,Int.reduceBEq,Int.reduceBNe,Int.reduceLT,Int.reduceLE,Int.reduceAdd,Int.reduceSub,Int.reduceMul,Nat.reduceAdd,↓bc_flatz,↓bc_flat16,↓agg_bytez, p25]
  refine nd_check h ?_
  try simp -implicitDefEqProofs (maxSteps := 2000000) (disch := first|assumption|omega|rfl|(simp only[RD];done)|(simp only[RD];omega)) only [RN,Int.reduceBEq,Int.reduceBNe,Int.reduceLT,Int.reduceLE,Int.reduceAdd,Int.reduceSub,Int.reduceMul,Nat.reduceAdd,↓bc_flatz,↓bc_flat16,↓agg_bytez]
  exact hq
theorem nd_read {x : Int} (h : ND σ v) (hq : ∀ σ', Keeps σ σ' → Q (.tuple #[.agg ⟨bc zb⟩, .int .i64 1]) σ') : Does Try.prog 15 [v, .int .i64 x] σ Q := by
  refine d15 ?_
  have k : Keeps σ (σ.push (.cells (bc zb) none)) := (Keeps.refl _).push _
  simp -implicitDefEqProofs (maxSteps := 2000000) (disch := first|assumption|omega|rfl|(simp only[RD];done)|(simp only[RD];omega)) only [RN,Int.reduceBEq,Int.reduceBNe,Int.reduceLT,Int.reduceLE,Int.reduceAdd,Int.reduceSub,Int.reduceMul,Nat.reduceAdd,↓bc_flatz,↓bc_flat16,↓agg_bytez, p15]
  refine nd_check (h.keeps k) ?_
  try simp -implicitDefEqProofs (maxSteps := 2000000) (disch := first|assumption|omega|rfl|(simp only[RD];done)|(simp only[RD];omega)) only [RN,Int.reduceBEq,Int.reduceBNe,Int.reduceLT,Int.reduceLE,Int.reduceAdd,Int.reduceSub,Int.reduceMul,Nat.reduceAdd,↓bc_flatz,↓bc_flat16,↓agg_bytez]
  exact hq _ k
theorem nd_write {x : Int} {b : List Int} (h : ND σ v) (hb : b.length = 1024) (hq : ∀ σ', Keeps σ σ' → Q (.int .i64 1) σ') : Does Try.prog 28 [v, .int .i64 x, .agg ⟨bc b⟩] σ Q := by
  refine d28 ?_
  have k : Keeps σ (σ.push (.cells (bc b) none)) := (Keeps.refl _).push _
  simp -implicitDefEqProofs (maxSteps := 2000000) (disch := first|assumption|omega|rfl|(simp only[RD];done)|(simp only[RD];omega)) only [RN,Int.reduceBEq,Int.reduceBNe,Int.reduceLT,Int.reduceLE,Int.reduceAdd,Int.reduceSub,Int.reduceMul,Nat.reduceAdd,↓bc_flatz,↓bc_flat16,↓agg_bytez, p28]
  refine nd_check (h.keeps k) ?_
  simp -implicitDefEqProofs (maxSteps := 2000000) (disch := first|assumption|omega|rfl|(simp only[RD];done)|(simp only[RD];omega)) only [RN,Int.reduceBEq,Int.reduceBNe,Int.reduceLT,Int.reduceLE,Int.reduceAdd,Int.reduceSub,Int.reduceMul,Nat.reduceAdd,↓bc_flatz,↓bc_flat16,↓agg_bytez, p28_3]
  exact hq _ k
theorem nd_image (h : ND σ v) (hq : ∀ σ', Keeps σ σ' → Q (.agg ⟨[.int .i64 0, .slice none 0 0]⟩) σ') : Does Try.prog 12 [v] σ Q := by
  have u2 : unrle [(1, Value.int .i64 0), (1, .slice none 0 0)] = [.int .i64 0, .slice none 0 0] := rfl
  have k : Keeps σ (σ.push (.cells [.int .i64 0, .slice none 0 0] none)) := (Keeps.refl _).push _
  have hD : DoesD Try.prog 12 [v] σ fun r st => r = .agg ⟨[.int .i64 0, .slice none 0 0]⟩ ∧ st = σ.push (.cells [.int .i64 0, .slice none 0 0] none) := by
    refine d12 ?_
    simp -implicitDefEqProofs (maxSteps := 2000000) (disch := first|assumption|omega|rfl|(simp only[RD];done)|(simp only[RD];omega)) only [RN,Int.reduceBEq,Int.reduceBNe,Int.reduceLT,Int.reduceLE,Int.reduceAdd,Int.reduceSub,Int.reduceMul,Nat.reduceAdd,↓bc_flatz,↓bc_flat16,↓agg_bytez, p12, u2]
    refine nd_is (h.keeps k) ?_
    have g2 : ([.int .i64 0, .slice none 0 0] : List Value).length = 2 := rfl
    simp -implicitDefEqProofs (maxSteps := 2000000) (disch := first|assumption|omega|rfl|(simp only[RD];done)|(simp only[RD];omega)) only [RN,Int.reduceBEq,Int.reduceBNe,Int.reduceLT,Int.reduceLE,Int.reduceAdd,Int.reduceSub,Int.reduceMul,Nat.reduceAdd,↓bc_flatz,↓bc_flat16,↓agg_bytez, g2]
    exact ⟨trivial, trivial⟩
  refine DoesD.does (σ' := σ.push (.cells [.int .i64 0, .slice none 0 0] none)) (r := .agg ⟨[.int .i64 0, .slice none 0 0]⟩) k.1 ?_ (hq _ k)
  intro M w cargs hr ha
  refine Calls.mono (hD M w cargs hr ha) ?_
  rintro e w' ⟨r, σ2, M', u, ⟨rfl, rfl⟩, h2⟩
  exact ⟨_, _, M', u, ⟨rfl, rfl, fun _ _ h => h⟩, h2⟩
/-- A call, as cells: its place, its bytes, its number, its bits. -/
def actC (on kd at_ : Int) (pv : Value) (n : Int) (kv : Value) : List Value := [.int .i64 on, .int .i64 kd, .int .i64 at_, pv, .int .i64 n, kv]
theorem none_ {on kd at_ n : Int} {pv kv : Value} {p : List Int} (h : ND σ v) (hp : ElV σ pv (bc p)) (hq : ∀ σ', Keeps σ σ' → Q (.bool true) σ') : Does Try.prog 33 [v, .agg ⟨actC on kd at_ pv n kv⟩] σ Q := by
  refine d33 ?_
  obtain ⟨s1, hs1⟩ : ∃ s1, s1 = σ.push (.cells (actC on kd at_ pv n kv) none) := ⟨_, rfl⟩
  have k1 : Keeps σ s1 := by rw [hs1]; exact (Keeps.refl _).push _
  have c1 : s1.get σ.next = some (.cells [.int .i64 on, .int .i64 kd, .int .i64 at_, pv, .int .i64 n, kv] none) := by rw [hs1]; exact Store.get_push_same _ _
  unfold p33
  rw [box_agg, nop_some, ← hs1]
  simp -implicitDefEqProofs (maxSteps := 2000000) (disch := first|assumption|omega|rfl|(simp only[RD];done)|(simp only[RD];omega)) only [RN,Int.reduceBEq,Int.reduceBNe,Int.reduceLT,Int.reduceLE,Int.reduceAdd,Int.reduceSub,Int.reduceMul,Nat.reduceAdd,↓bc_flatz,↓bc_flat16,↓agg_bytez, c1]
  refine nd_read (h.keeps k1) fun s2 k2 => ?_
  try simp -implicitDefEqProofs (maxSteps := 2000000) (disch := first|assumption|omega|rfl|(simp only[RD];done)|(simp only[RD];omega)) only [RN,Int.reduceBEq,Int.reduceBNe,Int.reduceLT,Int.reduceLE,Int.reduceAdd,Int.reduceSub,Int.reduceMul,Nat.reduceAdd,↓bc_flatz,↓bc_flat16,↓agg_bytez]
  obtain ⟨s3, hs3⟩ : ∃ s3, s3 = s2.push (.cells (bc zb) none) := ⟨_, rfl⟩
  have k3 : Keeps s2 s3 := by rw [hs3]; exact (Keeps.refl _).push _
  have c3 : s3.get s2.next = some (.cells (bc zb) none) := by rw [hs3]; exact Store.get_push_same _ _
  have k13 := k2.trans k3
  have kk := k1.trans k13
  have d1 := k13.get c1
  have ez := eqA_bc (n := 1024) false zb_len zb_len
  rw [decide_eq_true rfl] at ez
  simp -implicitDefEqProofs (maxSteps := 2000000) (disch := first|assumption|omega|rfl|(simp only[RD];done)|(simp only[RD];omega)) only [RN,Int.reduceBEq,Int.reduceBNe,Int.reduceLT,Int.reduceLE,Int.reduceAdd,Int.reduceSub,Int.reduceMul,Nat.reduceAdd,↓bc_flatz,↓bc_flat16,↓agg_bytez, p33_6, k2.get c1]
  rw [← hs3]
  have hp3 : ElV s3 pv (bc p) := hp.keep (fun i o h => kk.get h) kk.1
  simp -implicitDefEqProofs (maxSteps := 2000000) (disch := first|assumption|omega|rfl|(simp only[RD];done)|(simp only[RD];omega)) only [RN,Int.reduceBEq,Int.reduceBNe,Int.reduceLT,Int.reduceLE,Int.reduceAdd,Int.reduceSub,Int.reduceMul,Nat.reduceAdd,↓bc_flatz,↓bc_flat16,↓agg_bytez, d1]
  refine nd_fuse (h.keeps kk) ?_
  simp -implicitDefEqProofs (maxSteps := 2000000) (disch := first|assumption|omega|rfl|(simp only[RD];done)|(simp only[RD];omega)) only [RN,Int.reduceBEq,Int.reduceBNe,Int.reduceLT,Int.reduceLE,Int.reduceAdd,Int.reduceSub,Int.reduceMul,Nat.reduceAdd,↓bc_flatz,↓bc_flat16,↓agg_bytez, c3, ez, d1]
  refine block4_ hp3 ?_
  simp -implicitDefEqProofs (maxSteps := 2000000) (disch := first|assumption|omega|rfl|(simp only[RD];done)|(simp only[RD];omega)) only [RN,Int.reduceBEq,Int.reduceBNe,Int.reduceLT,Int.reduceLE,Int.reduceAdd,Int.reduceSub,Int.reduceMul,Nat.reduceAdd,↓bc_flatz,↓bc_flat16,↓agg_bytez, p33_5, d1]
  refine nd_write (h.keeps kk) (blkP_len p) fun s4 k4 => ?_
  have kk4 := kk.trans k4
  have d4 := k4.get d1
  try simp -implicitDefEqProofs (maxSteps := 2000000) (disch := first|assumption|omega|rfl|(simp only[RD];done)|(simp only[RD];omega)) only [RN,Int.reduceBEq,Int.reduceBNe,Int.reduceLT,Int.reduceLE,Int.reduceAdd,Int.reduceSub,Int.reduceMul,Nat.reduceAdd,↓bc_flatz,↓bc_flat16,↓agg_bytez]
  refine nd_barrier (h.keeps kk4) ?_
  simp -implicitDefEqProofs (maxSteps := 2000000) (disch := first|assumption|omega|rfl|(simp only[RD];done)|(simp only[RD];omega)) only [RN,Int.reduceBEq,Int.reduceBNe,Int.reduceLT,Int.reduceLE,Int.reduceAdd,Int.reduceSub,Int.reduceMul,Nat.reduceAdd,↓bc_flatz,↓bc_flat16,↓agg_bytez, p33_4, d4]
  refine nd_crash (h.keeps kk4) ?_
  try simp -implicitDefEqProofs (maxSteps := 2000000) (disch := first|assumption|omega|rfl|(simp only[RD];done)|(simp only[RD];omega)) only [RN,Int.reduceBEq,Int.reduceBNe,Int.reduceLT,Int.reduceLE,Int.reduceAdd,Int.reduceSub,Int.reduceMul,Nat.reduceAdd,↓bc_flatz,↓bc_flat16,↓agg_bytez]
  refine nd_len (h.keeps kk4) ?_
  try simp -implicitDefEqProofs (maxSteps := 2000000) (disch := first|assumption|omega|rfl|(simp only[RD];done)|(simp only[RD];omega)) only [RN,Int.reduceBEq,Int.reduceBNe,Int.reduceLT,Int.reduceLE,Int.reduceAdd,Int.reduceSub,Int.reduceMul,Nat.reduceAdd,↓bc_flatz,↓bc_flat16,↓agg_bytez]
  refine nd_pending (h.keeps kk4) ?_
  have z0 : ((((0 : Nat) : Int)) == 0) = true := rfl
  simp -implicitDefEqProofs (maxSteps := 2000000) (disch := first|assumption|omega|rfl|(simp only[RD];done)|(simp only[RD];omega)) only [RN,Int.reduceBEq,Int.reduceBNe,Int.reduceLT,Int.reduceLE,Int.reduceAdd,Int.reduceSub,Int.reduceMul,Nat.reduceAdd,↓bc_flatz,↓bc_flat16,↓agg_bytez, z0]
  refine nd_stopped (h.keeps kk4) ?_
  simp -implicitDefEqProofs (maxSteps := 2000000) (disch := first|assumption|omega|rfl|(simp only[RD];done)|(simp only[RD];omega)) only [RN,Int.reduceBEq,Int.reduceBNe,Int.reduceLT,Int.reduceLE,Int.reduceAdd,Int.reduceSub,Int.reduceMul,Nat.reduceAdd,↓bc_flatz,↓bc_flat16,↓agg_bytez, p33_3]
  refine nd_made (h.keeps kk4) ?_
  try simp -implicitDefEqProofs (maxSteps := 2000000) (disch := first|assumption|omega|rfl|(simp only[RD];done)|(simp only[RD];omega)) only [RN,Int.reduceBEq,Int.reduceBNe,Int.reduceLT,Int.reduceLE,Int.reduceAdd,Int.reduceSub,Int.reduceMul,Nat.reduceAdd,↓bc_flatz,↓bc_flat16,↓agg_bytez]
  refine nd_reads (h.keeps kk4) ?_
  try simp -implicitDefEqProofs (maxSteps := 2000000) (disch := first|assumption|omega|rfl|(simp only[RD];done)|(simp only[RD];omega)) only [RN,Int.reduceBEq,Int.reduceBNe,Int.reduceLT,Int.reduceLE,Int.reduceAdd,Int.reduceSub,Int.reduceMul,Nat.reduceAdd,↓bc_flatz,↓bc_flat16,↓agg_bytez]
  refine nd_history (h.keeps kk4) ?_
  have z0 : ((((0 : Nat) : Int)) == 0) = true := rfl
  simp -implicitDefEqProofs (maxSteps := 2000000) (disch := first|assumption|omega|rfl|(simp only[RD];done)|(simp only[RD];omega)) only [RN,Int.reduceBEq,Int.reduceBNe,Int.reduceLT,Int.reduceLE,Int.reduceAdd,Int.reduceSub,Int.reduceMul,Nat.reduceAdd,↓bc_flatz,↓bc_flat16,↓agg_bytez, p33_2, z0]
  refine nd_image (h.keeps kk4) fun s5 k5 => ?_
  have kk5 := kk4.trans k5
  have d5 := k5.get d4
  have u2 : unrle [(1, Value.int .i64 0), (1, .slice none 0 0)] = [.int .i64 0, .slice none 0 0] := rfl
  have g2 : ([.int .i64 0, .slice none 0 0] : List Value).length = 2 := rfl
  simp -implicitDefEqProofs (maxSteps := 2000000) (disch := first|assumption|omega|rfl|(simp only[RD];done)|(simp only[RD];omega)) only [RN,Int.reduceBEq,Int.reduceBNe,Int.reduceLT,Int.reduceLE,Int.reduceAdd,Int.reduceSub,Int.reduceMul,Nat.reduceAdd,↓bc_flatz,↓bc_flat16,↓agg_bytez, u2, g2, cond_true]
  obtain ⟨s6, hs6⟩ : ∃ s6, s6 = s5.push (.cells [.int .i64 0, .slice none 0 0] none) := ⟨_, rfl⟩
  have k6 : Keeps s5 s6 := by rw [hs6]; exact (Keeps.refl _).push _
  have c6 : s6.get s5.next = some (.cells [.int .i64 0, .slice none 0 0] none) := by rw [hs6]; exact Store.get_push_same _ _
  try rw [← hs6]
  have kk6 := kk5.trans k6
  simp -implicitDefEqProofs (maxSteps := 2000000) (disch := first|assumption|omega|rfl|(simp only[RD];done)|(simp only[RD];omega)) only [RN,Int.reduceBEq,Int.reduceBNe,Int.reduceLT,Int.reduceLE,Int.reduceAdd,Int.reduceSub,Int.reduceMul,Nat.reduceAdd,↓bc_flatz,↓bc_flat16,↓agg_bytez, c6, p33_1, z0, cond_true]
  try rw [← hs6]
  refine nd_claim (h.keeps kk6) ?_
  simp -implicitDefEqProofs (maxSteps := 2000000) (disch := first|assumption|omega|rfl|(simp only[RD];done)|(simp only[RD];omega)) only [RN,Int.reduceBEq,Int.reduceBNe,Int.reduceLT,Int.reduceLE,Int.reduceAdd,Int.reduceSub,Int.reduceMul,Nat.reduceAdd,↓bc_flatz,↓bc_flat16,↓agg_bytez, k6.get d5]
  refine nd_claimed (h.keeps kk6) ?_
  try simp -implicitDefEqProofs (maxSteps := 2000000) (disch := first|assumption|omega|rfl|(simp only[RD];done)|(simp only[RD];omega)) only [RN,Int.reduceBEq,Int.reduceBNe,Int.reduceLT,Int.reduceLE,Int.reduceAdd,Int.reduceSub,Int.reduceMul,Nat.reduceAdd,↓bc_flatz,↓bc_flat16,↓agg_bytez]
  exact hq _ kk6
/-- DiskNone. -/
theorem nonelaw_ {sv : Value} {n : Nat} {us : List Value} (hn : n < 2 ^ 63) (hs : SlR σ 6 sv n us) (hacts : ∀ i, i < n → ∃ on kd at_ nn pv kv p, (us.drop (i * 6)).take 6 = actC on kd at_ pv nn kv ∧ ElV σ pv (bc p)) (hq : ∀ σ', Q (.bool true) σ') :
    Does Try.prog 7 [sv] σ Q := by
  refine d7 ?_
  have ep : aggOf (buildL [(unrle [(1, (.int .i64 0))]), (unrle [(1, (.int .i64 0))]), (unrle [(1, (.int .i64 0))]), (unrle [(1, (.slice none 0 0))]), (unrle [(1, (.int .i64 0))]), (unrle [(1, (.slice none 0 0))])] []) = some (.agg ⟨actC 0 0 0 (.slice none 0 0) 0 (.slice none 0 0)⟩) := rfl
  have u11 : unrle [(1, Value.int .i64 0), (2, .map none), (2, .slice none 0 0), (1, .int .i64 0), (1, .bool false), (4, .int .i64 0)] = [.int .i64 0, .map none, .map none, .slice none 0 0, .slice none 0 0, .int .i64 0, .bool false, .int .i64 0, .int .i64 0, .int .i64 0, .int .i64 0] := rfl
  obtain ⟨s1, hs1⟩ : ∃ s1, s1 = σ.push (.cells [.int .i64 0, .map none, .map none, .slice none 0 0, .slice none 0 0, .int .i64 0, .bool false, .int .i64 0, .int .i64 0, .int .i64 0, .int .i64 0] none) := ⟨_, rfl⟩
  have k1 : Keeps σ s1 := by rw [hs1]; exact (Keeps.refl _).push _
  have nd0 : ND s1 (.pointer none) := .inl rfl
  have nd1 : ND s1 (.pointer (some ⟨σ.next, 0, none⟩)) := .inr ⟨σ.next, _, rfl, by rw [hs1]; exact Store.get_push_same _ _, rfl⟩
  simp -implicitDefEqProofs (maxSteps := 2000000) (disch := first|assumption|omega|rfl|(simp only[RD];done)|(simp only[RD];omega)) only [RN,Int.reduceBEq,Int.reduceBNe,Int.reduceLT,Int.reduceLE,Int.reduceAdd,Int.reduceSub,Int.reduceMul,Nat.reduceAdd,↓bc_flatz,↓bc_flat16,↓agg_bytez, p7, u11]
  rw [← hs1]
  refine awake_ fun s2 k2 => ?_
  have e0 : ElV s2 (.slice none 0 0) (bc []) := ElV.of SlR.nil
  refine lop1 (fun k x st => ∃ i : Nat, k + i = n ∧ x = .int .i64 i ∧ Keeps s2 st) n ⟨0, rfl, rfl, Keeps.refl _⟩ ?_
  rintro k x st next ⟨i, hi, rfl, hk⟩ hnx
  have kst := (k1.trans k2).trans hk
  have hs' : SlR st 6 sv n us := hs.keeps fun i o h => kst.get h
  have n0 := (nd0.keeps k2).keeps hk
  have n1 := (nd1.keeps k2).keeps hk
  by_cases h5 : (i : Int) < n
  · have h6 : i < n := by omega
    obtain ⟨on, kd, at_, nn, pv, kv, p, hc, hp⟩ := hacts i h6
    obtain ⟨a, o, q1, q2, q3, q4⟩ := hs'.at (by decide) h6
    rw [hc] at q3
    simp -implicitDefEqProofs (maxSteps := 2000000) (disch := first|assumption|omega|rfl|(simp only[RD];done)|(simp only[RD];omega)) only [RN,Int.reduceBEq,Int.reduceBNe,Int.reduceLT,Int.reduceLE,Int.reduceAdd,Int.reduceSub,Int.reduceMul,Nat.reduceAdd,↓bc_flatz,↓bc_flat16,↓agg_bytez, hs'.len, decide_eq_true h5, q1, q3]
    refine none_ n0 (hp.keep (fun i o h => kst.get h) kst.1) fun s3 k3 => ?_
    have hs3 : SlR s3 6 sv n us := hs'.keeps fun i o h => k3.get h
    obtain ⟨a', o', r1, r2, r3, r4⟩ := hs3.at (by decide) h6
    rw [hc] at r3
    have kst3 := kst.trans k3
    simp -implicitDefEqProofs (maxSteps := 2000000) (disch := first|assumption|omega|rfl|(simp only[RD];done)|(simp only[RD];omega)) only [RN,Int.reduceBEq,Int.reduceBNe,Int.reduceLT,Int.reduceLE,Int.reduceAdd,Int.reduceSub,Int.reduceMul,Nat.reduceAdd,↓bc_flatz,↓bc_flat16,↓agg_bytez, r1, r3]
    refine none_ (n1.keeps k3) (hp.keep (fun i o h => kst3.get h) kst3.1) fun s4 k4 => ?_
    try simp -implicitDefEqProofs (maxSteps := 2000000) (disch := first|assumption|omega|rfl|(simp only[RD];done)|(simp only[RD];omega)) only [RN,Int.reduceBEq,Int.reduceBNe,Int.reduceLT,Int.reduceLE,Int.reduceAdd,Int.reduceSub,Int.reduceMul,Nat.reduceAdd,↓bc_flatz,↓bc_flat16,↓agg_bytez]
    exact hnx _ _ (by omega) ⟨i + 1, by omega, by congr 1, (hk.trans k3).trans k4⟩
  · simp -implicitDefEqProofs (maxSteps := 2000000) (disch := first|assumption|omega|rfl|(simp only[RD];done)|(simp only[RD];omega)) only [RN,Int.reduceBEq,Int.reduceBNe,Int.reduceLT,Int.reduceLE,Int.reduceAdd,Int.reduceSub,Int.reduceMul,Nat.reduceAdd,↓bc_flatz,↓bc_flat16,↓agg_bytez, hs'.len, decide_eq_false h5, ↓ep]
    refine none_ n0 (e0.keep (fun i o h => hk.get h) hk.1) fun s3 k3 => ?_
    simp -implicitDefEqProofs (maxSteps := 2000000) (disch := first|assumption|omega|rfl|(simp only[RD];done)|(simp only[RD];omega)) only [RN,Int.reduceBEq,Int.reduceBNe,Int.reduceLT,Int.reduceLE,Int.reduceAdd,Int.reduceSub,Int.reduceMul,Nat.reduceAdd,↓bc_flatz,↓bc_flat16,↓agg_bytez, ↓ep]
    have hk3 := hk.trans k3
    refine none_ (n1.keeps k3) (e0.keep (fun i o h => hk3.get h) hk3.1) fun s4 k4 => ?_
    try simp -implicitDefEqProofs (maxSteps := 2000000) (disch := first|assumption|omega|rfl|(simp only[RD];done)|(simp only[RD];omega)) only [RN,Int.reduceBEq,Int.reduceBNe,Int.reduceLT,Int.reduceLE,Int.reduceAdd,Int.reduceSub,Int.reduceMul,Nat.reduceAdd,↓bc_flatz,↓bc_flat16,↓agg_bytez]
    exact hq _
end Go.Proofs.Ytelnpbgkgcollaa
