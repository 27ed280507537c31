/- Chapter 05: contracts of Whole, split, Pending, held, may. -/
import Derived.Test.YthojojlgmaoecaaGreatEls
import Derived.Test.YthojojlgmaoecaaGreatLod
set_option linter.all false
set_option maxRecDepth 100000
set_option maxHeartbeats 400000
namespace Go.Proofs.YthojojlgmaoecaaGreat
open Go.Am
abbrev OP := Int × Int × List Int
variable {σ : Store} {Q : Value → Store → Prop} {n : Int} {v u : Value} {L : List HB} {O : List OP} {f : Int → Option (List Int)}
def opC (o : OP) : List Value := .int .u8 o.1 :: .int .i64 o.2.1 :: bc o.2.2
theorem histC_cons (o : OP) (h : List OP) : histC (o :: h) = opC o ++ histC h := by
  obtain ⟨k, i, b⟩ := o; simp [histC, opC]
theorem opC_len {o : OP} (h : o.2.2.length = 1024) : (opC o).length = 1026 := by simp [opC, h]
theorem histC_at {h : List OP} (hl : ∀ o ∈ h, o.2.2.length = 1024) {j : Nat} {o : OP} (ho : h[j]? = some o) : ((histC h).drop (j * 1026)).take 1026 = opC o := by
  induction h generalizing j with
  | nil => simp at ho
  | cons p h ih =>
    have hp := opC_len (hl p (List.mem_cons_self ..))
    rw [histC_cons]
    cases j with
    | zero => simp at ho; subst ho; rw [Nat.zero_mul, List.drop_zero, List.take_left' hp]
    | succ j =>
      rw [show (j + 1) * 1026 = (opC p).length + j * 1026 by rw [hp]; omega, List.drop_append, List.drop_of_length_le (by omega), List.nil_append]
      rw [show (opC p).length + j * 1026 - (opC p).length = j * 1026 by omega]
      exact ih (fun q hq => hl q (List.mem_cons_of_mem _ hq)) (by simpa using ho)
/-- An op of a slice. -/
theorem op_at (h : SlR σ 1026 v O.length (histC O)) (hl : ∀ o ∈ O, o.2.2.length = 1024) {j : Nat} {k a : Int} {b : List Int} (e : O[j]? = some (k, a, b)) :
    ∃ i o, iaddrS 1026 v (.int .i64 (j : Nat)) = some (.pointer (some ⟨i, o, none⟩)) ∧ rdOne (σ.get i) o = some (.int .u8 k) ∧ rdOne (σ.get i) (o + 1) = some (.int .i64 a) ∧ rdPart (σ.get i) (o + 2) 1024 = some (.agg ⟨bc b⟩) ∧ rdPart (σ.get i) o 1026 = some (.agg ⟨.int .u8 k :: .int .i64 a :: bc b⟩) := by
  have hj : j < O.length := (List.getElem?_eq_some_iff.1 e).1
  have hb : b.length = 1024 := hl (k, a, b) (List.mem_of_getElem? e)
  obtain ⟨i, o, q1, _, q2, q3⟩ := el_at h (by decide) hj
  have a0 := q2 0 (by decide)
  have a1 := q2 1 (by decide)
  have a2 := q3 2 1024 (by decide)
  have a3 := q3 0 1026 (by decide)
  have hc : ((histC O).drop (j * 1026)).take 1026 = .int .u8 k :: .int .i64 a :: bc b := histC_at hl e
  rw [hc] at a0 a1 a2 a3
  refine ⟨i, o, q1 .i64, a0, a1, ?_, ?_⟩
  · rw [a2, List.drop_succ_cons, List.drop_succ_cons, List.drop_zero, List.take_of_length_le (by rw [bc_len]; omega)]
  · rw [Nat.add_zero, List.drop_zero, List.take_of_length_le (by simp [hb])] at a3
    exact a3
theorem cop_func {g : FuncId} (h : callable Tryz.prog g = true) (fs cs : Array Value) (xs : List Value) (K : Value → Store → Prop) : cop Tryz.prog (callD Tryz.prog (.func (.func g) fs cs) xs) σ K = Does Tryz.prog g (fs.toList ++ xs ++ cs.toList) σ K := by
  simp [cop, callD, h]
theorem pwhole_ (hv : SlR σ 1025 v L.length (waitC L)) (hl : ∀ p ∈ L, p.2.length = 1024) (hcap : L.length < 2 ^ 63) (hq1 : okIm n L → ∀ st', Keeps σ st' → Q (.int .i64 0) st') (hq2 : ¬ okIm n L → ∀ st', Keeps σ st' → Q (.int .i64 2) st') :
    Does Tryz.prog 5 [.agg ⟨[.int .i64 n, v]⟩] σ Q := by
  refine d5 ?_
  obtain ⟨s1, hs1⟩ : ∃ s1, s1 = σ.push (.cells [.int .i64 n, v] none) := ⟨_, rfl⟩
  have k1 : Keeps σ s1 := by rw [hs1]; exact (Keeps.refl _).push _
  have c1 : s1.get σ.next = some (.cells [.int .i64 n, v] none) := by rw [hs1]; exact Store.get_push_same _ _
  have hv1 : SlR s1 1025 v L.length (waitC L) := hv.keeps fun i o h => k1.get h
  have z1 := zb_len
  unfold p5
  rw [box_agg, nop_some, ← hs1]
  by_cases h1 : n < 1
  · simp -implicitDefEqProofs (maxSteps := 2000000) (disch := first|assumption|omega|rfl|(simp only[RD];done)|(simp only[RD];omega)) only [RN,Int.reduceBEq,Int.reduceBNe,Int.reduceLT,Int.reduceLE,Int.reduceAdd,Int.reduceSub,Int.reduceMul,Nat.reduceAdd,↓bc_flatz,↓bc_flat16,↓agg_bytez, c1, decide_eq_true h1]
    exact hq2 (fun h => by have := h.1; omega) _ k1
  by_cases h2 : 1048576 < n
  · simp -implicitDefEqProofs (maxSteps := 2000000) (disch := first|assumption|omega|rfl|(simp only[RD];done)|(simp only[RD];omega)) only [RN,Int.reduceBEq,Int.reduceBNe,Int.reduceLT,Int.reduceLE,Int.reduceAdd,Int.reduceSub,Int.reduceMul,Nat.reduceAdd,↓bc_flatz,↓bc_flat16,↓agg_bytez, c1, decide_eq_false h1, decide_eq_true h2]
    exact hq2 (fun h => by have := h.2.1; omega) _ k1
  simp -implicitDefEqProofs (maxSteps := 2000000) (disch := first|assumption|omega|rfl|(simp only[RD];done)|(simp only[RD];omega)) only [RN,Int.reduceBEq,Int.reduceBNe,Int.reduceLT,Int.reduceLE,Int.reduceAdd,Int.reduceSub,Int.reduceMul,Nat.reduceAdd,↓bc_flatz,↓bc_flat16,↓agg_bytez, c1, decide_eq_false h1, decide_eq_false h2, hv1.len]
  refine lop2 (fun k x y st => ∃ (i : Nat) (b : Int), k + i = L.length ∧ x = .int .i64 b ∧ y = .int .i64 i ∧ (rise n (-1) L ↔ rise n b (L.drop i)) ∧ Keeps s1 st) L.length ⟨0, -1, rfl, rfl, rfl, Iff.rfl, Keeps.refl _⟩ ?_
  rintro k x y st next ⟨i, b, hi, rfl, rfl, hr, hk⟩ hnx
  have kst := k1.trans hk
  have c3 := hk.get c1
  have hv3 : SlR st 1025 v L.length (waitC L) := hv.keeps fun i o h => kst.get h
  by_cases h5 : (i : Int) < L.length
  · have h6 : i < L.length := by omega
    obtain ⟨p, hp⟩ : ∃ p, L[i]? = some p := ⟨_, List.getElem?_eq_getElem h6⟩
    have hdr : L.drop i = p :: L.drop (i + 1) := by
      rw [List.drop_eq_getElem_cons h6]
      rw [List.getElem?_eq_getElem h6] at hp
      rw [Option.some.inj hp]
    obtain ⟨y, c⟩ := p
    have hb : c.length = 1024 := hl (y, c) (List.mem_of_getElem? hp)
    obtain ⟨a, o, q1, q2, q3, q4⟩ := hv3.at (by omega) h6
    rw [waitC_at hl hp] at q3
    have l25 : (Value.int .i64 y :: bc c).length = 1025 := by simp [hb]
    have e1 : rdPart (some (.cells (.int .i64 y :: bc c) none)) 1 1024 = some (.agg ⟨bc c⟩) := by
      have h1 : Nat.ble (1 + 1024) (Value.int .i64 y :: bc c).length = true := Nat.ble_eq_true_of_le (by simp [hb])
      simp only [rdPart, part?, h1, cond_true, List.drop_succ_cons, List.drop_zero]
      rw [List.take_of_length_le (by rw [bc_len]; omega)]
    have ez := eqA_bc (n := 1024) false hb zb_len
    obtain ⟨s3, hs3⟩ : ∃ s3, s3 = st.push (.cells (.int .i64 y :: bc c) none) := ⟨_, rfl⟩
    have k3 : Keeps st s3 := by rw [hs3]; exact (Keeps.refl _).push _
    have c5 : s3.get st.next = some (.cells (.int .i64 y :: bc c) none) := by rw [hs3]; exact Store.get_push_same _ _
    have c6 := k3.get c3
    have kk := kst.trans k3
    rw [hdr] at hr
    have bad : ¬ (b < y ∧ y < n ∧ c ≠ zb) → ¬ okIm n L := fun h1 h2 => by
      have := hr.1 h2.2.2
      exact h1 ⟨this.1, this.2.1, this.2.2.1⟩
    by_cases h7 : y ≤ b
    · simp -implicitDefEqProofs (maxSteps := 2000000) (disch := first|assumption|omega|rfl|(simp only[RD];done)|(simp only[RD];omega)) only [RN,Int.reduceBEq,Int.reduceBNe,Int.reduceLT,Int.reduceLE,Int.reduceAdd,Int.reduceSub,Int.reduceMul,Nat.reduceAdd,↓bc_flatz,↓bc_flat16,↓agg_bytez, decide_eq_true h5, q1, q3, l25]
      rw [← hs3]
      simp -implicitDefEqProofs (maxSteps := 2000000) (disch := first|assumption|omega|rfl|(simp only[RD];done)|(simp only[RD];omega)) only [RN,Int.reduceBEq,Int.reduceBNe,Int.reduceLT,Int.reduceLE,Int.reduceAdd,Int.reduceSub,Int.reduceMul,Nat.reduceAdd,↓bc_flatz,↓bc_flat16,↓agg_bytez, c5, decide_eq_true h7]
      exact hq2 (bad fun h => by omega) _ kk
    · by_cases h8 : n ≤ y
      · simp -implicitDefEqProofs (maxSteps := 2000000) (disch := first|assumption|omega|rfl|(simp only[RD];done)|(simp only[RD];omega)) only [RN,Int.reduceBEq,Int.reduceBNe,Int.reduceLT,Int.reduceLE,Int.reduceAdd,Int.reduceSub,Int.reduceMul,Nat.reduceAdd,↓bc_flatz,↓bc_flat16,↓agg_bytez, decide_eq_true h5, q1, q3, l25]
        rw [← hs3]
        simp -implicitDefEqProofs (maxSteps := 2000000) (disch := first|assumption|omega|rfl|(simp only[RD];done)|(simp only[RD];omega)) only [RN,Int.reduceBEq,Int.reduceBNe,Int.reduceLT,Int.reduceLE,Int.reduceAdd,Int.reduceSub,Int.reduceMul,Nat.reduceAdd,↓bc_flatz,↓bc_flat16,↓agg_bytez, c5, decide_eq_false h7, c6, decide_eq_true h8]
        exact hq2 (bad fun h => by omega) _ kk
      · by_cases h9 : c = zb
        · rw [decide_eq_true h9] at ez
          simp -implicitDefEqProofs (maxSteps := 2000000) (disch := first|assumption|omega|rfl|(simp only[RD];done)|(simp only[RD];omega)) only [RN,Int.reduceBEq,Int.reduceBNe,Int.reduceLT,Int.reduceLE,Int.reduceAdd,Int.reduceSub,Int.reduceMul,Nat.reduceAdd,↓bc_flatz,↓bc_flat16,↓agg_bytez, decide_eq_true h5, q1, q3, l25]
          rw [← hs3]
          simp -implicitDefEqProofs (maxSteps := 2000000) (disch := first|assumption|omega|rfl|(simp only[RD];done)|(simp only[RD];omega)) only [RN,Int.reduceBEq,Int.reduceBNe,Int.reduceLT,Int.reduceLE,Int.reduceAdd,Int.reduceSub,Int.reduceMul,Nat.reduceAdd,↓bc_flatz,↓bc_flat16,↓agg_bytez, c5, decide_eq_false h7, c6, decide_eq_false h8, e1, ez]
          exact hq2 (bad fun h => h.2.2 h9) _ kk
        · rw [decide_eq_false h9] at ez
          simp -implicitDefEqProofs (maxSteps := 2000000) (disch := first|assumption|omega|rfl|(simp only[RD];done)|(simp only[RD];omega)) only [RN,Int.reduceBEq,Int.reduceBNe,Int.reduceLT,Int.reduceLE,Int.reduceAdd,Int.reduceSub,Int.reduceMul,Nat.reduceAdd,↓bc_flatz,↓bc_flat16,↓agg_bytez, decide_eq_true h5, q1, q3, l25]
          rw [← hs3]
          simp -implicitDefEqProofs (maxSteps := 2000000) (disch := first|assumption|omega|rfl|(simp only[RD];done)|(simp only[RD];omega)) only [RN,Int.reduceBEq,Int.reduceBNe,Int.reduceLT,Int.reduceLE,Int.reduceAdd,Int.reduceSub,Int.reduceMul,Nat.reduceAdd,↓bc_flatz,↓bc_flat16,↓agg_bytez, c5, decide_eq_false h7, c6, decide_eq_false h8, e1, ez]
          refine hnx _ _ _ (by omega) ⟨i + 1, y, by omega, rfl, by congr 1, ?_, hk.trans k3⟩
          rw [hr]
          exact ⟨fun h => h.2.2.2, fun h => ⟨by omega, by omega, h9, h⟩⟩
  · have e : i = L.length := by omega
    simp -implicitDefEqProofs (maxSteps := 2000000) (disch := first|assumption|omega|rfl|(simp only[RD];done)|(simp only[RD];omega)) only [RN,Int.reduceBEq,Int.reduceBNe,Int.reduceLT,Int.reduceLE,Int.reduceAdd,Int.reduceSub,Int.reduceMul,Nat.reduceAdd,↓bc_flatz,↓bc_flat16,↓agg_bytez, decide_eq_false h5]
    rw [e, List.drop_length] at hr
    exact hq1 ⟨by omega, by omega, hr.2 trivial⟩ _ kst
/-- How many of the first k a barrier stands behind, or is. -/
def splitL (O : List OP) : Nat → Nat
  | 0 => 0
  | k + 1 => if (O.getD k (0, 0, [])).1 = 2 then k + 1 else splitL O k
theorem splitL_le (O : List OP) : ∀ k, splitL O k ≤ k
  | 0 => Nat.le_refl _
  | k + 1 => by
    unfold splitL
    split
    · exact Nat.le_refl _
    · have := splitL_le O k; omega
theorem split_ {k : Nat} (hv : SlR σ 1026 v O.length (histC O)) (hl : ∀ o ∈ O, o.2.2.length = 1024) (hk : k ≤ O.length) (hcap : O.length < 2 ^ 62) (hq : Q (.int .i64 (splitL O k : Nat)) σ) : Does Tryz.prog 28 [v, .int .i64 (k : Nat)] σ Q := by
  refine d28 ?_
  unfold p28
  refine lop1 (fun m x st => x = .int .i64 m ∧ st = σ ∧ m ≤ O.length ∧ splitL O m = splitL O k) k ⟨rfl, rfl, hk, rfl⟩ ?_
  rintro m x st next ⟨rfl, rfl, hm, hs⟩ hnx
  cases m with
  | zero =>
    have h0 : ¬ ((0 : Int) < ((0 : Nat) : Int)) := by omega
    simp -implicitDefEqProofs (maxSteps := 2000000) (disch := first|assumption|omega|rfl|(simp only[RD];done)|(simp only[RD];omega)) only [RN,Int.reduceBEq,Int.reduceBNe,Int.reduceLT,Int.reduceLE,Int.reduceAdd,Int.reduceSub,Int.reduceMul,Nat.reduceAdd,↓bc_flatz,↓bc_flat16,↓agg_bytez, decide_eq_false h0]
    rw [← hs] at hq
    exact hq
  | succ m =>
    have h0 : (0 : Int) < ((m + 1 : Nat) : Int) := by omega
    obtain ⟨o, ho⟩ : ∃ o, O[m]? = some o := ⟨_, List.getElem?_eq_getElem (by omega)⟩
    obtain ⟨c, a, b⟩ := o
    have hgd : O.getD m (0, 0, []) = (c, a, b) := by rw [List.getD_eq_getElem?_getD, ho]; rfl
    obtain ⟨i, o, q1, q2, _⟩ := op_at hv hl ho
    have e1 : ((m + 1 : Nat) : Int) - 1 = (m : Nat) := by omega
    have hs' : (if c = 2 then m + 1 else splitL O m) = splitL O k := by
      rw [← hs]
      show _ = if (O.getD m (0, 0, [])).1 = 2 then m + 1 else splitL O m
      rw [hgd]
    by_cases hc : c = 2
    · have e2 : (c == 2) = true := by simp [hc]
      rw [if_pos hc] at hs'
      simp -implicitDefEqProofs (maxSteps := 2000000) (disch := first|assumption|omega|rfl|(simp only[RD];done)|(simp only[RD];omega)) only [RN,Int.reduceBEq,Int.reduceBNe,Int.reduceLT,Int.reduceLE,Int.reduceAdd,Int.reduceSub,Int.reduceMul,Nat.reduceAdd,↓bc_flatz,↓bc_flat16,↓agg_bytez, decide_eq_true h0, e1, q1, q2, e2]
      rw [← hs'] at hq
      exact hq
    · have e2 : (c == 2) = false := by simp [hc]
      rw [if_neg hc] at hs'
      simp -implicitDefEqProofs (maxSteps := 2000000) (disch := first|assumption|omega|rfl|(simp only[RD];done)|(simp only[RD];omega)) only [RN,Int.reduceBEq,Int.reduceBNe,Int.reduceLT,Int.reduceLE,Int.reduceAdd,Int.reduceSub,Int.reduceMul,Nat.reduceAdd,↓bc_flatz,↓bc_flat16,↓agg_bytez, decide_eq_true h0, e1, q1, q2, e2]
      exact hnx _ _ (by omega) ⟨by congr 1, rfl, by omega, hs'⟩
/-- The places of the writes from a on, below i. -/
def pendR (O : List OP) (a i : Nat) : List Nat := (List.range' a (i - a)).filter fun j => decide ((O.getD j (0, 0, [])).1 = 1)
theorem pendR_succ (O : List OP) {a i : Nat} (h : a ≤ i) : pendR O a (i + 1) = pendR O a i ++ if (O.getD i (0, 0, [])).1 = 1 then [i] else [] := by
  unfold pendR
  rw [show i + 1 - a = (i - a) + 1 by omega, List.range'_concat, List.filter_append, Nat.one_mul, show a + (i - a) = i by omega, List.filter_cons]
  by_cases e : (O.getD i (0, 0, [])).1 = 1
  · rw [if_pos e, if_pos (decide_eq_true e)]; rfl
  · rw [if_neg e, if_neg (by simpa using e)]; rfl
def pendL (O : List OP) (k : Nat) : List Nat := pendR O (splitL O k) k
def nC (l : List Nat) : List Value := l.map fun i => .int .i64 (i : Nat)
theorem pendR_len (O : List OP) (a i : Nat) : (pendR O a i).length ≤ i - a := by
  unfold pendR
  have := List.length_filter_le (fun j => decide ((O.getD j (0, 0, [])).1 = 1)) (List.range' a (i - a))
  simpa using this
theorem pendL_lt {k j : Nat} (h : j ∈ pendL O k) : j < k := by
  unfold pendL pendR at h
  have := List.mem_range'_1.1 (List.mem_filter.1 h).1
  omega
theorem ppending_ {k : Int} (hv : SlR σ 1026 v O.length (histC O)) (hl : ∀ o ∈ O, o.2.2.length = 1024) (hcap : O.length < 2 ^ 40) (hk : 0 ≤ k ∧ k ≤ O.length)
    (hq : ∀ σ' x, Keeps σ σ' → SlG σ' 1 x (pendL O k.toNat).length (nC (pendL O k.toNat)) → (∀ i ∈ idsV x, σ.next ≤ i) → Q x σ') : Does Tryz.prog 12 [v, .int .i64 k] σ Q := by
  obtain ⟨kn, rfl⟩ : ∃ kn : Nat, k = (kn : Nat) := ⟨k.toNat, by omega⟩
  rw [Int.toNat_natCast] at hq
  refine d12 ?_
  have e1 : min (max ((kn : Nat) : Int) 0) (O.length : Nat) = (kn : Nat) := by omega
  simp -implicitDefEqProofs (maxSteps := 2000000) (disch := first|assumption|omega|rfl|(simp only[RD];done)|(simp only[RD];omega)) only [RN,Int.reduceBEq,Int.reduceBNe,Int.reduceLT,Int.reduceLE,Int.reduceAdd,Int.reduceSub,Int.reduceMul,Nat.reduceAdd,↓bc_flatz,↓bc_flat16,↓agg_bytez, p12, hv.len, e1]
  refine split_ hv hl (by omega) (by omega) ?_
  have hsp := splitL_le O kn
  refine lop2 (fun m x y st => ∃ i : Nat, m + i = kn ∧ splitL O kn ≤ i ∧ y = .int .i64 i ∧ Keeps σ st ∧ SlG st 1 x (pendR O (splitL O kn) i).length (nC (pendR O (splitL O kn) i)) ∧ ∀ j ∈ idsV x, σ.next ≤ j) (kn - splitL O kn) ⟨splitL O kn, by omega, Nat.le_refl _, rfl, Keeps.refl _, by unfold pendR; rw [Nat.sub_self]; exact SlG.nil, fun j hj => by simp [idsV] at hj⟩ ?_
  rintro m x y st next ⟨i, hi, hsi, rfl, hk', hx, hxi⟩ hnx
  by_cases h5 : (i : Int) < (kn : Nat)
  · have h6 : i < O.length := by omega
    obtain ⟨o, ho⟩ : ∃ o, O[i]? = some o := ⟨_, List.getElem?_eq_getElem h6⟩
    obtain ⟨c, a, b⟩ := o
    have hgd : O.getD i (0, 0, []) = (c, a, b) := by rw [List.getD_eq_getElem?_getD, ho]; rfl
    have hv3 : SlR st 1026 v O.length (histC O) := hv.keeps fun i o h => hk'.get h
    obtain ⟨ib, o, q1, q2, _⟩ := op_at hv3 hl ho
    have hsucc := pendR_succ O hsi
    rw [hgd] at hsucc
    have hpl := pendR_len O (splitL O kn) i
    by_cases hc : c = 1
    · have e2 : (c == 1) = true := by simp [hc]
      rw [if_pos hc] at hsucc
      have k3 : Keeps st (st.push (.cells [.int .i64 (i : Nat)] none)) := (Keeps.refl _).push _
      obtain ⟨s4, a1, a2, a3, a4⟩ := SlG.app (σ := st.push (.cells [.int .i64 (i : Nat)] none)) (sz := 1) (j := st.next) (k := 1) (gj := none) (by_ := 8) (hx.same fun j hj => k3.2 j (hx.lt j hj)) (Store.get_push_same _ _) rfl (by omega) (by omega) (by decide)
      simp -implicitDefEqProofs (maxSteps := 2000000) (disch := first|assumption|omega|rfl|(simp only[RD];done)|(simp only[RD];omega)) only [RN,Int.reduceBEq,Int.reduceBNe,Int.reduceLT,Int.reduceLE,Int.reduceAdd,Int.reduceSub,Int.reduceMul,Nat.reduceAdd,↓bc_flatz,↓bc_flat16,↓agg_bytez, decide_eq_true h5, q1, q2, e2, a1]
      have hkn := hk'.1
      refine hnx _ _ _ (by omega) ⟨i + 1, by omega, by omega, by congr 1, ⟨by rw [a3, Store.next_push]; omega, fun j hj => ?_⟩, ?_, fun j hj => ?_⟩
      · rw [a4 j (by rw [Store.next_push]; omega) (fun hjx => by have := hxi j hjx; omega), k3.2 j (by omega), hk'.2 j hj]
      · rw [hsucc]
        have e3 : nC (pendR O (splitL O kn) i ++ [i]) = nC (pendR O (splitL O kn) i) ++ [.int .i64 (i : Nat)] := by simp [nC]
        rw [e3, List.length_append]
        rw [Store.next_push] at a2
        exact a2
      · have : j = st.next + 1 := by simpa [idsV, Store.next_push] using hj
        omega
    · have e2 : (c == 1) = false := by simp [hc]
      rw [if_neg hc, List.append_nil] at hsucc
      simp -implicitDefEqProofs (maxSteps := 2000000) (disch := first|assumption|omega|rfl|(simp only[RD];done)|(simp only[RD];omega)) only [RN,Int.reduceBEq,Int.reduceBNe,Int.reduceLT,Int.reduceLE,Int.reduceAdd,Int.reduceSub,Int.reduceMul,Nat.reduceAdd,↓bc_flatz,↓bc_flat16,↓agg_bytez, decide_eq_true h5, q1, q2, e2]
      exact hnx _ _ _ (by omega) ⟨i + 1, by omega, by omega, by congr 1, hk', by rw [hsucc]; exact hx, hxi⟩
  · have hii : i = kn := by omega
    simp -implicitDefEqProofs (maxSteps := 2000000) (disch := first|assumption|omega|rfl|(simp only[RD];done)|(simp only[RD];omega)) only [RN,Int.reduceBEq,Int.reduceBNe,Int.reduceLT,Int.reduceLE,Int.reduceAdd,Int.reduceSub,Int.reduceMul,Nat.reduceAdd,↓bc_flatz,↓bc_flat16,↓agg_bytez, decide_eq_false h5]
    subst hii
    exact hq _ _ hk' hx hxi
theorem pheld_ (hv : SlR σ 1025 v L.length (waitC L)) (hl : ∀ p ∈ L, p.2.length = 1024) (hcap : L.length < 2 ^ 40)
    (hq : ∀ σ' r, Keeps σ σ' → σ.next ≤ r → MapAt σ' r (fun x => (ldF (fun _ => none) L x).map bv) → Q (.map (some r)) σ') : Does Tryz.prog 26 [.agg ⟨[.int .i64 n, v]⟩] σ Q := by
  refine d26 ?_
  obtain ⟨s1, hs1⟩ : ∃ s1, s1 = σ.push (.cells [.int .i64 n, v] none) := ⟨_, rfl⟩
  have k1 : Keeps σ s1 := by rw [hs1]; exact (Keeps.refl _).push _
  have c1 : s1.get σ.next = some (.cells [.int .i64 n, v] none) := by rw [hs1]; exact Store.get_push_same _ _
  obtain ⟨s2, hs2⟩ : ∃ s2, s2 = s1.push (.map [] 0) := ⟨_, rfl⟩
  have k2 : Keeps s1 s2 := by rw [hs2]; exact (Keeps.refl _).push _
  have m2 : s2.get s1.next = some (.map [] 0) := by rw [hs2]; exact Store.get_push_same _ _
  have n1 : s1.next = σ.next + 1 := by rw [hs1, Store.next_push]
  have k12 := k1.trans k2
  have hv2 : SlR s2 1025 v L.length (waitC L) := hv.keeps fun i o h => k12.get h
  have c2 := k2.get c1
  unfold p26
  rw [box_agg, nop_some, ← hs1, nop_some, ← hs2]
  simp -implicitDefEqProofs (maxSteps := 2000000) (disch := first|assumption|omega|rfl|(simp only[RD];done)|(simp only[RD];omega)) only [RN,Int.reduceBEq,Int.reduceBNe,Int.reduceLT,Int.reduceLE,Int.reduceAdd,Int.reduceSub,Int.reduceMul,Nat.reduceAdd,↓bc_flatz,↓bc_flat16,↓agg_bytez, c2, hv2.len]
  refine lop1 (fun k x st => ∃ i : Nat, k + i = L.length ∧ x = .int .i64 i ∧ σ.next + 2 ≤ st.next ∧ (∀ j, j < σ.next → st.get j = σ.get j) ∧ MapAt st s1.next fun x => (ldF (fun _ => none) (L.take i) x).map bv) L.length ⟨0, rfl, rfl, by rw [hs2, Store.next_push, n1]; omega, fun j hj => k12.2 j hj, MapAt.new m2⟩ ?_
  rintro k x st next ⟨i, hi, rfl, hn, hg, hm⟩ hnx
  have hv3 : SlR st 1025 v L.length (waitC L) := hv.keeps fun i o h => by rw [hg i (Store.lt_of_get h), h]
  by_cases h5 : (i : Int) < L.length
  · have h6 : i < L.length := by omega
    obtain ⟨p, hp⟩ : ∃ p, L[i]? = some p := ⟨_, List.getElem?_eq_getElem h6⟩
    have hsn := ldF_snoc (f := fun _ => none) hp
    obtain ⟨y, c⟩ := p
    have hb : c.length = 1024 := hl (y, c) (List.mem_of_getElem? hp)
    obtain ⟨a, o, q1, q2, q3, q4⟩ := hv3.at (by omega) h6
    rw [waitC_at hl hp] at q3
    have l25 : (Value.int .i64 y :: bc c).length = 1025 := by simp [hb]
    have e1 : rdPart (some (.cells (.int .i64 y :: bc c) none)) 1 1024 = some (.agg ⟨bc c⟩) := by
      have h1 : Nat.ble (1 + 1024) (Value.int .i64 y :: bc c).length = true := Nat.ble_eq_true_of_le (by simp [hb])
      simp only [rdPart, part?, h1, cond_true, List.drop_succ_cons, List.drop_zero]
      rw [List.take_of_length_le (by rw [bc_len]; omega)]
    obtain ⟨s3, hs3⟩ : ∃ s3, s3 = st.push (.cells (.int .i64 y :: bc c) none) := ⟨_, rfl⟩
    have k3 : Keeps st s3 := by rw [hs3]; exact (Keeps.refl _).push _
    have c5 : s3.get st.next = some (.cells (.int .i64 y :: bc c) none) := by rw [hs3]; exact Store.get_push_same _ _
    have n3 : s3.next = st.next + 1 := by rw [hs3, Store.next_push]
    obtain ⟨ob, u1, u2⟩ := (hm.same (k3.2 _ (by have := hm.lt; omega))).upd y (bv c)
    unfold bv at u1
    simp -implicitDefEqProofs (maxSteps := 2000000) (disch := first|assumption|omega|rfl|(simp only[RD];done)|(simp only[RD];omega)) only [RN,Int.reduceBEq,Int.reduceBNe,Int.reduceLT,Int.reduceLE,Int.reduceAdd,Int.reduceSub,Int.reduceMul,Nat.reduceAdd,↓bc_flatz,↓bc_flat16,↓agg_bytez, decide_eq_true h5, q1, q3, l25]
    rw [← hs3]
    simp -implicitDefEqProofs (maxSteps := 2000000) (disch := first|assumption|omega|rfl|(simp only[RD];done)|(simp only[RD];omega)) only [RN,Int.reduceBEq,Int.reduceBNe,Int.reduceLT,Int.reduceLE,Int.reduceAdd,Int.reduceSub,Int.reduceMul,Nat.reduceAdd,↓bc_flatz,↓bc_flat16,↓agg_bytez, c5, e1, u1]
    refine hnx _ _ (by omega) ⟨i + 1, by omega, by congr 1, by rw [next_max]; omega, fun j hj => ?_, ?_⟩
    · rw [get_put_ne' (by omega), k3.2 j (by omega), hg j hj]
    · rw [hsn]
      have e : (fun x => ((fun x => if x = y then some c else ldF (fun _ => none) (L.take i) x) x : Option (List Int)).map bv) = fun z => if z = y then some (bv c) else (ldF (fun _ => none) (L.take i) z).map bv := by
        funext z
        by_cases hz : z = y <;> simp [hz]
      show MapAt _ _ (fun x => ((fun x => if x = y then some c else ldF (fun _ => none) (L.take i) x) x : Option (List Int)).map bv)
      rw [e]; exact u2
  · have e : i = L.length := by omega
    simp -implicitDefEqProofs (maxSteps := 2000000) (disch := first|assumption|omega|rfl|(simp only[RD];done)|(simp only[RD];omega)) only [RN,Int.reduceBEq,Int.reduceBNe,Int.reduceLT,Int.reduceLE,Int.reduceAdd,Int.reduceSub,Int.reduceMul,Nat.reduceAdd,↓bc_flatz,↓bc_flat16,↓agg_bytez, decide_eq_false h5]
    rw [e, List.take_length] at hm
    exact hq _ _ ⟨by omega, hg⟩ (by omega) hm
end Go.Proofs.YthojojlgmaoecaaGreat
