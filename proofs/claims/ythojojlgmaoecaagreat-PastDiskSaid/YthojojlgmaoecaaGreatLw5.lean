/- Contracts of the law's own functions in chapter 05. -/
import Derived.Test.YthojojlgmaoecaaGreatBk5
set_option linter.all false
set_option maxRecDepth 100000
set_option maxHeartbeats 800000
namespace Go.Proofs.YthojojlgmaoecaaGreat
open Go.Am
variable {σ : Store} {Q : Value → Store → Prop} {n at' : Int} {v u w : Value} {L A : List HB} {O : List OP} {l : List (List Int)} {b : List Int}
def ltr (v : Int) : List Int := List.replicate 1024 v
theorem ltr_len {v : Int} : (ltr v).length = 1024 := List.length_replicate ..
theorem letter_ {x : Int} (hq : ∀ st, Keeps σ st → Q (bv (ltr x)) st) : Does Tryz.prog 17 [.int .u8 x] σ Q := by
  refine d17 ?_
  have z1 := zb_len
  obtain ⟨s1, hs1⟩ : ∃ s1, s1 = σ.push (.cells (bc zb) none) := ⟨_, rfl⟩
  have k1 : Keeps σ s1 := by rw [hs1]; exact (Keeps.refl _).push _
  have c1 : s1.get σ.next = some (.cells (bc zb) none) := by rw [hs1]; exact Store.get_push_same _ _
  have n1 : s1.next = σ.next + 1 := by rw [hs1, Store.next_push]
  obtain ⟨s2, hs2⟩ : ∃ s2, s2 = s1.push (.cells (bc zb) none) := ⟨_, rfl⟩
  have k2 : Keeps s1 s2 := by rw [hs2]; exact (Keeps.refl _).push _
  have c2 : s2.get s1.next = some (.cells (bc zb) none) := by rw [hs2]; exact Store.get_push_same _ _
  have n2 : s2.next = σ.next + 2 := by rw [hs2, Store.next_push, n1]
  have k12 := k1.trans k2
  simp -implicitDefEqProofs (maxSteps := 2000000) (disch := first|assumption|omega|rfl|(simp only[RD];done)|(simp only[RD];omega)) only [RN,Int.reduceBEq,Int.reduceBNe,Int.reduceLT,Int.reduceLE,Int.reduceAdd,Int.reduceSub,Int.reduceMul,Nat.reduceAdd,↓bc_flatz,↓bc_flat16,↓agg_bytez, p17]
  rw [← hs1, ← n1, ← hs2]
  refine lop1 (fun m y t => ∃ (i : Nat) (b : List Int), m + i = 1024 ∧ y = .int .i64 i ∧ b.length = 1024 ∧ b.take i = List.replicate i x ∧ t.get s1.next = some (.cells (bc b) none) ∧ t.next = s2.next ∧ ∀ j, j ≠ s1.next → t.get j = s2.get j) 1024 ⟨0, zb, rfl, rfl, zb_len, rfl, c2, rfl, fun j _ => rfl⟩ ?_
  rintro m y t next ⟨i, b, hi, rfl, hbl, hb, t1, t2, t3⟩ hnx
  by_cases h5 : (i : Int) < 1024
  · have e1 : (bc b).set ((i : Int).toNat * 1) (.int .u8 x) = bc (b.set i x) := by
      rw [Int.toNat_natCast, Nat.mul_one]
      simp [bc, List.map_set]
    simp -implicitDefEqProofs (maxSteps := 2000000) (disch := first|assumption|omega|rfl|(simp only[RD];done)|(simp only[RD];omega)) only [RN,Int.reduceBEq,Int.reduceBNe,Int.reduceLT,Int.reduceLE,Int.reduceAdd,Int.reduceSub,Int.reduceMul,Nat.reduceAdd,↓bc_flatz,↓bc_flat16,↓agg_bytez, decide_eq_true h5, t1]
    rw [e1]
    refine hnx _ _ (by omega) ⟨i + 1, b.set i x, by omega, congrArg (Value.int .i64) (by omega), by rw [List.length_set]; exact hbl, ?_, Store.get_put_same _ _ _, by rw [next_max, t2]; omega, fun j hj => by rw [get_put_ne' hj, t3 j hj]⟩
    rw [List.take_succ, List.take_set, List.set_eq_of_length_le (by rw [List.length_take]; omega), hb, List.getElem?_set_self (by omega), List.replicate_succ']
    rfl
  · have e : i = 1024 := by omega
    subst e
    have hbx : b = ltr x := by rw [List.take_of_length_le (by omega)] at hb; exact hb
    subst hbx
    have c3 : t.get σ.next = some (.cells (bc zb) none) := by rw [t3 _ (by omega), k2.get c1]
    simp -implicitDefEqProofs (maxSteps := 2000000) (disch := first|assumption|omega|rfl|(simp only[RD];done)|(simp only[RD];omega)) only [RN,Int.reduceBEq,Int.reduceBNe,Int.reduceLT,Int.reduceLE,Int.reduceAdd,Int.reduceSub,Int.reduceMul,Nat.reduceAdd,↓bc_flatz,↓bc_flat16,↓agg_bytez, decide_eq_false h5, t1, hbl, c3]
    refine hq _ ⟨by rw [next_max, t2]; omega, fun j hj => ?_⟩
    rw [get_put_ne' (by omega), t3 j (by omega), k12.2 j hj]
theorem sameints_ {a b : List Int} (ha : SlR σ 1 v a.length (iC a)) (hb : SlR σ 1 u b.length (iC b)) (hcap : a.length < 2 ^ 62) (hq : Q (.bool (decide (a = b))) σ) : Does Tryz.prog 19 [v, u] σ Q := by
  refine d19 ?_
  by_cases h1 : a.length = b.length
  · have e1 : (((a.length : Nat) : Int) != ((b.length : Nat) : Int)) = false := by simp [h1]
    simp -implicitDefEqProofs (maxSteps := 2000000) (disch := first|assumption|omega|rfl|(simp only[RD];done)|(simp only[RD];omega)) only [RN,Int.reduceBEq,Int.reduceBNe,Int.reduceLT,Int.reduceLE,Int.reduceAdd,Int.reduceSub,Int.reduceMul,Nat.reduceAdd,↓bc_flatz,↓bc_flat16,↓agg_bytez, p19, ha.len, hb.len, e1]
    refine lop1 (fun m y t => ∃ i : Nat, m + i = a.length ∧ y = .int .i64 i ∧ t = σ ∧ a.take i = b.take i) a.length ⟨0, by omega, rfl, rfl, by simp⟩ ?_
    rintro m y t next ⟨i, hi, rfl, rfl, hs⟩ hnx
    by_cases h5 : (i : Int) < (a.length : Nat)
    · have h6 : i < a.length := by omega
      obtain ⟨x, hx⟩ : ∃ x, a[i]? = some x := ⟨_, List.getElem?_eq_getElem h6⟩
      obtain ⟨y, hy⟩ : ∃ y, b[i]? = some y := ⟨_, List.getElem?_eq_getElem (by omega)⟩
      obtain ⟨i1, o1, w1, w2⟩ := one_at ha (show (iC a)[i]? = some (.int .i64 x) by simp [iC, hx]) h6
      obtain ⟨i2, o2, w3, w4⟩ := one_at hb (show (iC b)[i]? = some (.int .i64 y) by simp [iC, hy]) (by omega)
      by_cases h7 : x = y
      · have e7 : (x != y) = false := by simp [h7]
        simp -implicitDefEqProofs (maxSteps := 2000000) (disch := first|assumption|omega|rfl|(simp only[RD];done)|(simp only[RD];omega)) only [RN,Int.reduceBEq,Int.reduceBNe,Int.reduceLT,Int.reduceLE,Int.reduceAdd,Int.reduceSub,Int.reduceMul,Nat.reduceAdd,↓bc_flatz,↓bc_flat16,↓agg_bytez, decide_eq_true h5, w1, w2, w3, w4, e7]
        refine hnx _ _ (by omega) ⟨i + 1, by omega, congrArg (Value.int .i64) (by omega), rfl, ?_⟩
        rw [List.take_succ, List.take_succ, hs, hx, hy, h7]
      · have e7 : (x != y) = true := by simp [h7]
        have e : decide (a = b) = false := decide_eq_false fun h => by
          rw [h, hy] at hx; exact h7 (Option.some.inj hx).symm
        simp -implicitDefEqProofs (maxSteps := 2000000) (disch := first|assumption|omega|rfl|(simp only[RD];done)|(simp only[RD];omega)) only [RN,Int.reduceBEq,Int.reduceBNe,Int.reduceLT,Int.reduceLE,Int.reduceAdd,Int.reduceSub,Int.reduceMul,Nat.reduceAdd,↓bc_flatz,↓bc_flat16,↓agg_bytez, decide_eq_true h5, w1, w2, w3, w4, e7]
        rw [e] at hq; exact hq
    · have e : i = a.length := by omega
      rw [e, List.take_length, h1, List.take_length] at hs
      simp -implicitDefEqProofs (maxSteps := 2000000) (disch := first|assumption|omega|rfl|(simp only[RD];done)|(simp only[RD];omega)) only [RN,Int.reduceBEq,Int.reduceBNe,Int.reduceLT,Int.reduceLE,Int.reduceAdd,Int.reduceSub,Int.reduceMul,Nat.reduceAdd,↓bc_flatz,↓bc_flat16,↓agg_bytez, decide_eq_false h5]
      rw [decide_eq_true hs] at hq; exact hq
  · have e1 : (((a.length : Nat) : Int) != ((b.length : Nat) : Int)) = true := by simp; omega
    simp -implicitDefEqProofs (maxSteps := 2000000) (disch := first|assumption|omega|rfl|(simp only[RD];done)|(simp only[RD];omega)) only [RN,Int.reduceBEq,Int.reduceBNe,Int.reduceLT,Int.reduceLE,Int.reduceAdd,Int.reduceSub,Int.reduceMul,Nat.reduceAdd,↓bc_flatz,↓bc_flat16,↓agg_bytez, p19, ha.len, hb.len, e1]
    rw [decide_eq_false fun h => h1 (by rw [h])] at hq; exact hq
/-- A block of a slice of blocks. -/
theorem blk_at (hv : SlR σ 1024 v l.length (bc l.flatten)) (hl : ∀ c ∈ l, c.length = 1024) {j : Nat} (hb : l[j]? = some b) : ∃ i o, iaddrS 1024 v (.int .i64 (j : Nat)) = some (.pointer (some ⟨i, o, none⟩)) ∧ rdPart (σ.get i) o 1024 = some (.agg ⟨bc b⟩) := by
  have hj : j < l.length := (List.getElem?_eq_some_iff.1 hb).1
  obtain ⟨i, o, q1, _, q3, _⟩ := hv.at (by omega) hj
  refine ⟨i, o, q1 .i64, ?_⟩
  rw [q3]
  have : ∀ (l : List (List Int)) (j : Nat), (∀ c ∈ l, c.length = 1024) → l[j]? = some b → ((bc l.flatten).drop (j * 1024)).take 1024 = bc b := by
    intro l
    induction l with
    | nil => intro j _ h; simp at h
    | cons c l ih =>
      intro j hl hb
      have hc := hl c (List.mem_cons_self ..)
      have e : bc (c :: l).flatten = bc c ++ bc l.flatten := by simp [bc]
      have hcl : (bc c).length = 1024 := by rw [bc_len, hc]
      cases j with
      | zero => simp at hb; subst hb; rw [e, Nat.zero_mul, List.drop_zero, List.take_left' hcl]
      | succ j =>
        rw [e, show (j + 1) * 1024 = (bc c).length + j * 1024 by rw [hcl]; omega, List.drop_append, List.drop_of_length_le (by omega), List.nil_append, show (bc c).length + j * 1024 - (bc c).length = j * 1024 by omega]
        exact ih j (fun d hd => hl d (List.mem_cons_of_mem _ hd)) (by simpa using hb)
  rw [this l j hl hb]
end Go.Proofs.YthojojlgmaoecaaGreat
