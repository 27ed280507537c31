/- PastSome, walked. -/
import Derived.Test.YtncdcjebanhcpaaSam5
set_option linter.all false
set_option maxRecDepth 100000
set_option maxHeartbeats 1600000
namespace Go.Proofs.Ytncdcjebanhcpaa
open Go.Am Go.Sort
variable {σ : Store} {Q : Value → Store → Prop} {n k at' : Int} {va vo vk : Value} {L : List HB} {O : List OP} {ks : List Bool}
theorem large_ (h1 : lenSl va = some (.int .i64 (L.length : Nat))) (h2 : lenSl vo = some (.int .i64 (O.length : Nat))) (h3 : lenSl vk = some (.int .i64 (ks.length : Nat)))
    (hq1 : (120 < L.length ∨ 120 < O.length ∨ 120 < ks.length) → ∀ st, Keeps σ st → Q (.bool true) st) (hq2 : L.length ≤ 120 → O.length ≤ 120 → ks.length ≤ 120 → ∀ st, Keeps σ st → Q (.bool false) st) :
    Does Try.prog 15 [.agg ⟨[.int .i64 n, va, vo, .int .i64 k, vk, .int .i64 at']⟩] σ Q := by
  refine d15 ?_
  obtain ⟨s1, hs1⟩ : ∃ s1, s1 = σ.push (.cells [.int .i64 n, va, vo, .int .i64 k, vk, .int .i64 at'] none) := ⟨_, rfl⟩
  have k1 : Keeps σ s1 := by rw [hs1]; exact (Keeps.refl _).push _
  have c1 : s1.get σ.next = some (.cells [.int .i64 n, va, vo, .int .i64 k, vk, .int .i64 at'] none) := by rw [hs1]; exact Store.get_push_same _ _
  unfold p15
  rw [box_agg, nop_some, ← hs1]
  by_cases e1 : (120 : Int) < (L.length : Nat)
  · simp -implicitDefEqProofs (maxSteps := 2000000) (disch := first|assumption|omega|rfl|(simp only[RD];done)|(simp only[RD];omega)) only [RN,Int.reduceBEq,Int.reduceBNe,Int.reduceLT,Int.reduceLE,Int.reduceAdd,Int.reduceSub,Int.reduceMul,Nat.reduceAdd,↓bc_flatz,↓bc_flat16,↓agg_bytez, c1, h1, decide_eq_true e1]
    exact hq1 (.inl (by omega)) _ k1
  by_cases e2 : (120 : Int) < (O.length : Nat)
  · simp -implicitDefEqProofs (maxSteps := 2000000) (disch := first|assumption|omega|rfl|(simp only[RD];done)|(simp only[RD];omega)) only [RN,Int.reduceBEq,Int.reduceBNe,Int.reduceLT,Int.reduceLE,Int.reduceAdd,Int.reduceSub,Int.reduceMul,Nat.reduceAdd,↓bc_flatz,↓bc_flat16,↓agg_bytez, c1, h1, decide_eq_false e1, h2, decide_eq_true e2]
    exact hq1 (.inr (.inl (by omega))) _ k1
  by_cases e3 : (120 : Int) < (ks.length : Nat)
  · simp -implicitDefEqProofs (maxSteps := 2000000) (disch := first|assumption|omega|rfl|(simp only[RD];done)|(simp only[RD];omega)) only [RN,Int.reduceBEq,Int.reduceBNe,Int.reduceLT,Int.reduceLE,Int.reduceAdd,Int.reduceSub,Int.reduceMul,Nat.reduceAdd,↓bc_flatz,↓bc_flat16,↓agg_bytez, c1, h1, decide_eq_false e1, h2, decide_eq_false e2, h3, decide_eq_true e3]
    exact hq1 (.inr (.inr (by omega))) _ k1
  simp -implicitDefEqProofs (maxSteps := 2000000) (disch := first|assumption|omega|rfl|(simp only[RD];done)|(simp only[RD];omega)) only [RN,Int.reduceBEq,Int.reduceBNe,Int.reduceLT,Int.reduceLE,Int.reduceAdd,Int.reduceSub,Int.reduceMul,Nat.reduceAdd,↓bc_flatz,↓bc_flat16,↓agg_bytez, c1, h1, decide_eq_false e1, h2, decide_eq_false e2, h3, decide_eq_false e3]
  exact hq2 (by omega) (by omega) (by omega) _ k1
theorem make_bools {n : Nat} {k : IntKind} (h : n ≤ 10000) : makeS [.bool false] 1 (.int k (n : Nat)) (.int k (n : Nat)) = some (.cells (List.replicate n (.bool false)) none, fun i => .slice (some ⟨i, 0, none⟩) n n) := by
  have h1 : (0 : Int) ≤ (n : Nat) ∧ ((n : Nat) : Int) = (n : Nat) ∧ ((n : Nat) : Int) ≤ 9223372036854775807 ∧ ((1 : Nat) : Int) * (n : Nat) ≤ 281474976710656 := by omega
  have h2 : ∀ n : Nat, (List.replicate n [Value.bool false]).flatten = List.replicate n (.bool false) := fun n => by
    induction n with
    | zero => rfl
    | succ n ih => rw [List.replicate_succ, List.flatten_cons, ih]; rfl
  unfold makeS
  show (if (0 : Int) ≤ (n : Nat) ∧ ((n : Nat) : Int) = (n : Nat) ∧ ((n : Nat) : Int) ≤ 9223372036854775807 ∧ ((1 : Nat) : Int) * (n : Nat) ≤ 281474976710656 then _ else _) = _
  rw [if_pos h1, Int.toNat_natCast, h2]
def oneH (n k : Nat) : List Bool := (List.replicate n false).set k true
theorem oneH_len {n k : Nat} : (oneH n k).length = n := by simp [oneH]
theorem oneH_at {n k : Nat} (h : k < n) : (oneH n k).getD k false = true := by simp [oneH, h]
theorem oneH_ne {n k i : Nat} (h : i ≠ k) : (oneH n k).getD i false = false := by
  unfold oneH
  rw [List.getD_eq_getElem?_getD, List.getElem?_set_ne (Ne.symm h), List.getElem?_replicate]
  split <;> rfl
theorem oneH_c {n k : Nat} : (List.replicate n (Value.bool false)).set k (.bool true) = bC (oneH n k) := by simp [oneH, bC, List.map_set]
theorem pastsome_ (hv : SlR σ 1025 va L.length (waitC L)) (hl : ∀ p ∈ L, p.2.length = 1024) (hu : SlR σ 1026 vo O.length (histC O)) (hlo : ∀ o ∈ O, o.2.2.length = 1024) (huc : CapOk vo) (hw : SlR σ 1 vk ks.length (bC ks))
    (hq : ∀ st, Keeps σ st → Q (.bool true) st) :
    Does Try.prog 4 [.agg ⟨[.int .i64 n, va, vo, .int .i64 k, vk, .int .i64 at']⟩] σ Q := by
  refine d4 ?_
  have u2 : unrle [(1, Value.int .i64 0), (1, .slice none 0 0)] = [.int .i64 0, .slice none 0 0] := rfl
  have g2' : ∀ (n : Int) (v : Value), ([.int .i64 n, v] : List Value).length = 2 := fun _ _ => rfl
  have g6 : ([.int .i64 n, va, vo, .int .i64 k, vk, .int .i64 at'] : List Value).length = 6 := rfl
  have y0 : ∀ a b, extractV (.tuple #[a, b]) 0 = some a := fun _ _ => rfl
  have y1 : ∀ a b, extractV (.tuple #[a, b]) 1 = some b := fun _ _ => rfl
  have p02 : rdPart (some (.cells [.int .i64 n, va, vo, .int .i64 k, vk, .int .i64 at'] none)) 0 2 = some (.agg ⟨[.int .i64 n, va]⟩) := rfl
  obtain ⟨s1, hs1⟩ : ∃ s1, s1 = σ.push (.cells [.int .i64 n, va, vo, .int .i64 k, vk, .int .i64 at'] none) := ⟨_, rfl⟩
  have k1 : Keeps σ s1 := by rw [hs1]; exact (Keeps.refl _).push _
  have c1 : s1.get σ.next = some (.cells [.int .i64 n, va, vo, .int .i64 k, vk, .int .i64 at'] none) := by rw [hs1]; exact Store.get_push_same _ _
  unfold p4
  rw [box_agg, nop_some, ← hs1]
  refine lives_ fun s2 k2 => ?_
  have c2 := k2.get c1
  have k12 := k1.trans k2
  simp -implicitDefEqProofs (maxSteps := 2000000) (disch := first|assumption|omega|rfl|(simp only[RD];done)|(simp only[RD];omega)) only [RN,Int.reduceBEq,Int.reduceBNe,Int.reduceLT,Int.reduceLE,Int.reduceAdd,Int.reduceSub,Int.reduceMul,Nat.reduceAdd,↓bc_flatz,↓bc_flat16,↓agg_bytez, c2, g6]
  refine large_ hv.len hu.len hw.len (fun _ s3 k3 => ?_) fun h120 h120o h120k s3 k3 => ?_
  · simp -implicitDefEqProofs (maxSteps := 2000000) (disch := first|assumption|omega|rfl|(simp only[RD];done)|(simp only[RD];omega)) only [RN,Int.reduceBEq,Int.reduceBNe,Int.reduceLT,Int.reduceLE,Int.reduceAdd,Int.reduceSub,Int.reduceMul,Nat.reduceAdd,↓bc_flatz,↓bc_flat16,↓agg_bytez]
    exact hq _ (k12.trans k3)
  have c3 := k3.get c2
  have k13 := k12.trans k3
  have keepV : ∀ st, Keeps σ st → SlR st 1025 va L.length (waitC L) ∧ SlR st 1026 vo O.length (histC O) ∧ SlR st 1 vk ks.length (bC ks) := fun st kt => ⟨hv.keeps fun i o h => kt.get h, hu.keeps fun i o h => kt.get h, hw.keeps fun i o h => kt.get h⟩
  obtain ⟨hv3, hu3, hw3⟩ := keepV s3 k13
  simp -implicitDefEqProofs (maxSteps := 2000000) (disch := first|assumption|omega|rfl|(simp only[RD];done)|(simp only[RD];omega)) only [RN,Int.reduceBEq,Int.reduceBNe,Int.reduceLT,Int.reduceLE,Int.reduceAdd,Int.reduceSub,Int.reduceMul,Nat.reduceAdd,↓bc_flatz,↓bc_flat16,↓agg_bytez, c3, p02, p4_13]
  by_cases hgood : okIm n L ∧ (∀ o ∈ O, ¬ oddOp n o) ∧ 0 ≤ k ∧ k ≤ O.length
  rotate_left
  · -- refused
    refine after_ hv3 hl (by omega) hu3 hlo (by omega) huc hw3 (by omega) (fun a b c d => absurd ⟨a, b, c, d⟩ hgood) fun _ s4 k4 => ?_
    have c4 := k4.get c3
    obtain ⟨s5, hs5⟩ : ∃ s5, s5 = s4.push (.cells [.int .i64 0, .slice none 0 0] none) := ⟨_, rfl⟩
    have k5 : Keeps s4 s5 := by rw [hs5]; exact (Keeps.refl _).push _
    have e5 : s5.get s4.next = some (.cells [.int .i64 0, .slice none 0 0] none) := by rw [hs5]; exact Store.get_push_same _ _
    have c5 := k5.get c4
    simp -implicitDefEqProofs (maxSteps := 2000000) (disch := first|assumption|omega|rfl|(simp only[RD];done)|(simp only[RD];omega)) only [RN,Int.reduceBEq,Int.reduceBNe,Int.reduceLT,Int.reduceLE,Int.reduceAdd,Int.reduceSub,Int.reduceMul,Nat.reduceAdd,↓bc_flatz,↓bc_flat16,↓agg_bytez, y0, y1, u2, g2']
    rw [← hs5]
    simp -implicitDefEqProofs (maxSteps := 2000000) (disch := first|assumption|omega|rfl|(simp only[RD];done)|(simp only[RD];omega)) only [RN,Int.reduceBEq,Int.reduceBNe,Int.reduceLT,Int.reduceLE,Int.reduceAdd,Int.reduceSub,Int.reduceMul,Nat.reduceAdd,↓bc_flatz,↓bc_flat16,↓agg_bytez, c5, p02, p4_12]
    have k15 := k13.trans (k4.trans k5)
    obtain ⟨hv5, hu5, hw5⟩ := keepV s5 k15
    refine after_ (ks := []) hv5 hl (by omega) hu5 hlo (by omega) huc SlR.nil (by simp) (fun a b c d => absurd ⟨a, b, c, d⟩ hgood) fun _ s6 k6 => ?_
    have e6 := k6.get e5
    obtain ⟨s7, hs7⟩ : ∃ s7, s7 = s6.push (.cells [.int .i64 0, .slice none 0 0] none) := ⟨_, rfl⟩
    have k7 : Keeps s6 s7 := by rw [hs7]; exact (Keeps.refl _).push _
    have e7 := k7.get e6
    simp -implicitDefEqProofs (maxSteps := 2000000) (disch := first|assumption|omega|rfl|(simp only[RD];done)|(simp only[RD];omega)) only [RN,Int.reduceBEq,Int.reduceBNe,Int.reduceLT,Int.reduceLE,Int.reduceAdd,Int.reduceSub,Int.reduceMul,Nat.reduceAdd,↓bc_flatz,↓bc_flat16,↓agg_bytez, y0, y1, u2, g2', p4_11]
    rw [← hs7]
    simp -implicitDefEqProofs (maxSteps := 2000000) (disch := first|assumption|omega|rfl|(simp only[RD];done)|(simp only[RD];omega)) only [RN,Int.reduceBEq,Int.reduceBNe,Int.reduceLT,Int.reduceLE,Int.reduceAdd,Int.reduceSub,Int.reduceMul,Nat.reduceAdd,↓bc_flatz,↓bc_flat16,↓agg_bytez, e7]
    exact hq _ (k15.trans (k6.trans k7))
  obtain ⟨hok, hod, hk0, hkl⟩ := hgood
  obtain ⟨kn, rfl⟩ : ∃ kn : Nat, k = (kn : Nat) := ⟨k.toNat, by omega⟩
  have hn20 := hok.2.1
  have hn1 := hok.1
  have gA : ∀ ks, GoodF n (aftF L O kn ks) := fun ks => aftF_good hok hl hlo hod (by omega)
  refine after_ hv3 hl (by omega) hu3 hlo (by omega) huc hw3 (by omega) (fun _ _ _ _ A v1 s4 hA k4 hA1 _ => ?_) fun h => absurd ⟨hok, hod, hk0, hkl⟩ h
  rw [Int.toNat_natCast] at hA
  have c4 := k4.get c3
  obtain ⟨s5, hs5⟩ : ∃ s5, s5 = s4.push (.cells [.int .i64 n, v1] none) := ⟨_, rfl⟩
  have k5 : Keeps s4 s5 := by rw [hs5]; exact (Keeps.refl _).push _
  have e5 : s5.get s4.next = some (.cells [.int .i64 n, v1] none) := by rw [hs5]; exact Store.get_push_same _ _
  have c5 := k5.get c4
  simp -implicitDefEqProofs (maxSteps := 2000000) (disch := first|assumption|omega|rfl|(simp only[RD];done)|(simp only[RD];omega)) only [RN,Int.reduceBEq,Int.reduceBNe,Int.reduceLT,Int.reduceLE,Int.reduceAdd,Int.reduceSub,Int.reduceMul,Nat.reduceAdd,↓bc_flatz,↓bc_flat16,↓agg_bytez, y0, y1, u2, g2']
  rw [← hs5]
  simp -implicitDefEqProofs (maxSteps := 2000000) (disch := first|assumption|omega|rfl|(simp only[RD];done)|(simp only[RD];omega)) only [RN,Int.reduceBEq,Int.reduceBNe,Int.reduceLT,Int.reduceLE,Int.reduceAdd,Int.reduceSub,Int.reduceMul,Nat.reduceAdd,↓bc_flatz,↓bc_flat16,↓agg_bytez, c5, p02, p4_12]
  have k15 := k13.trans (k4.trans k5)
  obtain ⟨hv5, hu5, hw5⟩ := keepV s5 k15
  refine after_ (ks := []) hv5 hl (by omega) hu5 hlo (by omega) huc SlR.nil (by simp) (fun _ _ _ _ N0 v2 s6 hN k6 hN1 _ => ?_) fun h => absurd ⟨hok, hod, hk0, hkl⟩ h
  rw [Int.toNat_natCast] at hN
  have e6 := k6.get e5
  have c6 := k6.get c5
  obtain ⟨s7, hs7⟩ : ∃ s7, s7 = s6.push (.cells [.int .i64 n, v2] none) := ⟨_, rfl⟩
  have k7 : Keeps s6 s7 := by rw [hs7]; exact (Keeps.refl _).push _
  have f7 : s7.get s6.next = some (.cells [.int .i64 n, v2] none) := by rw [hs7]; exact Store.get_push_same _ _
  have e7 := k7.get e6
  have c7 := k7.get c6
  have k17 := k15.trans (k6.trans k7)
  have hA7 : SlR s7 1025 v1 A.length (waitC A) := (hA1.same fun j hj => (k5.trans (k6.trans k7)).2 j (hA1.lt j hj)).r
  have hN7 : SlR s7 1025 v2 N0.length (waitC N0) := (hN1.same fun j hj => k7.2 j (hN1.lt j hj)).r
  have lA := nb_len (gA ks) hA
  have lN := nb_len (gA []) hN
  have fA := nb_few (gA ks) (by omega) hA
  have fN := nb_few (gA []) (by omega) hN
  have okA := nb_ok (gA ks) hn1 hn20 hA
  have okN := nb_ok (gA []) hn1 hn20 hN
  have cont : ∀ st, Keeps s7 st → p4_9 (.bool false) Q st (.pointer (some ⟨σ.next, 0, none⟩)) (.pointer (some ⟨s4.next, 0, none⟩)) (.pointer (some ⟨s6.next, 0, none⟩)) := by
    intro st kt
    have ct := kt.get c7
    have et := kt.get e7
    have ft := kt.get f7
    have kst := k17.trans kt
    obtain ⟨hvt, hut, hwt⟩ := keepV st kst
    simp -implicitDefEqProofs (maxSteps := 2000000) (disch := first|assumption|omega|rfl|(simp only[RD];done)|(simp only[RD];omega)) only [RN,Int.reduceBEq,Int.reduceBNe,Int.reduceLT,Int.reduceLE,Int.reduceAdd,Int.reduceSub,Int.reduceMul,Nat.reduceAdd,↓bc_flatz,↓bc_flat16,↓agg_bytez, p4_9, ct, p02]
    by_cases hin : 0 ≤ at' ∧ at' < n
    rotate_left
    · refine block_ hvt hl (by omega) hut hlo (by omega) huc (fun _ _ _ _ h1 h2 => absurd ⟨h1, h2⟩ hin) fun _ st2 k2 => ?_
      have ct2 := k2.get ct
      by_cases h1 : at' < 0
      · simp -implicitDefEqProofs (maxSteps := 2000000) (disch := first|assumption|omega|rfl|(simp only[RD];done)|(simp only[RD];omega)) only [RN,Int.reduceBEq,Int.reduceBNe,Int.reduceLT,Int.reduceLE,Int.reduceAdd,Int.reduceSub,Int.reduceMul,Nat.reduceAdd,↓bc_flatz,↓bc_flat16,↓agg_bytez, y0, y1, p4_8, ct2, decide_eq_true h1]
        exact hq _ (kst.trans k2)
      · have h2 : n ≤ at' := by omega
        simp -implicitDefEqProofs (maxSteps := 2000000) (disch := first|assumption|omega|rfl|(simp only[RD];done)|(simp only[RD];omega)) only [RN,Int.reduceBEq,Int.reduceBNe,Int.reduceLT,Int.reduceLE,Int.reduceAdd,Int.reduceSub,Int.reduceMul,Nat.reduceAdd,↓bc_flatz,↓bc_flat16,↓agg_bytez, y0, y1, p4_8, ct2, decide_eq_false h1, decide_eq_true h2]
        exact hq _ (kst.trans k2)
    refine block_ hvt hl (by omega) hut hlo (by omega) huc (fun _ _ _ _ _ _ vl st2 k2 hvl hvll _ => ?_) fun h => absurd ⟨hok, hod, hk0, hkl, hin.1, hin.2⟩ h
    rw [Int.toNat_natCast] at hvl hvll
    obtain ⟨Bk, hBk⟩ : ∃ Bk, Bk = blkL L O kn at' := ⟨_, rfl⟩
    rw [← hBk] at hvl hvll
    obtain ⟨fst, hfst⟩ : ∃ fst, fst = (aftF L O kn [] at').getD zb := ⟨_, rfl⟩
    have lfst : fst.length = 1024 := by
      rw [hfst]
      cases hc : aftF L O kn [] at' with
      | none => exact zb_len
      | some b => exact (gA [] _ _ hc).2.2
    have aN : atL N0 at' = fst := by rw [atL_held hN, nbF_getD, hfst]
    have aA : atL A at' = (aftF L O kn ks at').getD zb := by rw [atL_held hA, nbF_getD]
    have aAl : (atL A at').length = 1024 := by
      rw [aA]
      cases hc : aftF L O kn ks at' with
      | none => exact zb_len
      | some b => exact (gA ks _ _ hc).2.2
    have base : ∀ ks, aftF L O kn ks = openF (aftF L O kn []) O (pendL O kn) ks (pendL O kn).length := fun ks => by
      unfold aftF
      rw [openF_none (ks := []) (fun i => rfl)]
    have hAin : atL A at' ∈ Bk := by
      rw [aA, base ks, hBk]
      exact blkI_in (ks := ks) (f := aftF L O kn []) (O := O) (P := pendL O kn) (at' := at') (pendL O kn).length
    have hhead : Bk[0]? = some fst := by rw [hBk, hfst]; exact blkI_head _
    have hBl : Bk.length ≤ 121 := by
      rw [hBk]
      have h1 := blkI_le (f := aftF L O kn []) (O := O) (P := pendL O kn) (at' := at') (pendL O kn).length
      have h2 := pendR_len O (splitL O kn) kn
      unfold blkL pendL at *
      omega
    have ct2 := k2.get ct
    have et2 := k2.get et
    have ft2 := k2.get ft
    have kst2 := kst.trans k2
    have kt2 := kt.trans k2
    simp -implicitDefEqProofs (maxSteps := 2000000) (disch := first|assumption|omega|rfl|(simp only[RD];done)|(simp only[RD];omega)) only [RN,Int.reduceBEq,Int.reduceBNe,Int.reduceLT,Int.reduceLE,Int.reduceAdd,Int.reduceSub,Int.reduceMul,Nat.reduceAdd,↓bc_flatz,↓bc_flat16,↓agg_bytez, y0, y1, p4_8, et2, ct2, g2', p4_7]
    refine lblock_ (hA7.keeps fun i o h => kt2.get h) lA (by omega) fun st3 k3' => ?_
    have hvl3 : SlR st3 1024 vl Bk.length (bc Bk.flatten) := hvl.r.keeps fun i o h => k3'.get h
    refine in_ hvl3 hvll aAl (by omega) fun st4 k4' => ?_
    rw [decide_eq_true hAin]
    have k24 := k3'.trans k4'
    have ct4 := k24.get ct2
    have ft4 := k24.get ft2
    have hvl4 : SlR st4 1024 vl Bk.length (bc Bk.flatten) := hvl3.keeps fun i o h => k4'.get h
    have hvllen := hvl4.len
    have hb0 : (((Bk.length : Nat) : Int) == 0) = false := by
      have := (List.getElem?_eq_some_iff.1 hhead).1
      rw [beq_eq_false_iff_ne]; omega
    simp -implicitDefEqProofs (maxSteps := 2000000) (disch := first|assumption|omega|rfl|(simp only[RD];done)|(simp only[RD];omega)) only [RN,Int.reduceBEq,Int.reduceBNe,Int.reduceLT,Int.reduceLE,Int.reduceAdd,Int.reduceSub,Int.reduceMul,Nat.reduceAdd,↓bc_flatz,↓bc_flat16,↓agg_bytez, hvllen, hb0, ft4, ct4, g2']
    refine lblock_ (hN7.keeps fun i o h => (kt2.trans k24).get h) lN (by omega) fun st5 k5' => ?_
    rw [aN]
    unfold bv
    obtain ⟨i5, o5, w1, w2, w3⟩ := blk_at2 (j := 0) hvl4 hvll hhead
    have w1 : iaddrS 1024 vl (.int .i64 0) = some (.pointer (some ⟨i5, o5, none⟩)) := w1
    have w4 : rdPart (st5.get i5) o5 1024 = some (.agg ⟨bc fst⟩) := by rw [k5'.2 i5 w2, w3]
    have eF : eqA (.ints .u8 1024) true (.agg ⟨bc fst⟩) (.agg ⟨bc fst⟩) = some (.bool false) := by rw [eqA_bc true lfst lfst]; simp
    have ct5 := k5'.get ct4
    have ft5 := k5'.get ft4
    have kst5 := (kst2.trans k24).trans k5'
    have kt5 := (kt2.trans k24).trans k5'
    simp -implicitDefEqProofs (maxSteps := 2000000) (disch := first|assumption|omega|rfl|(simp only[RD];done)|(simp only[RD];omega)) only [RN,Int.reduceBEq,Int.reduceBNe,Int.reduceLT,Int.reduceLE,Int.reduceAdd,Int.reduceSub,Int.reduceMul,Nat.reduceAdd,↓bc_flatz,↓bc_flat16,↓agg_bytez, p4_6, w1, w3, w4, eF, ct5]
    refine ppending_ (keepV st5 kst5).2.1 hlo (by omega) (by omega) fun st6 z k6' hz hzi => ?_
    rw [Int.toNat_natCast] at hz
    have hzl : lenSl z = some (.int .i64 ((pendL O kn).length : Nat)) := hz.len
    have hPl : (pendL O kn).length ≤ kn := by have := pendR_len O (splitL O kn) kn; unfold pendL; omega
    have ct6 := k6'.get ct5
    have ft6 := k6'.get ft5
    have kst6 := kst5.trans k6'
    have kt6 := kt5.trans k6'
    have hvl6 : SlR st6 1024 vl Bk.length (bc Bk.flatten) := hvl4.keeps fun i o h => (k5'.trans k6').get h
    refine lop1 (fun m y t => ∃ i : Nat, m + i = Bk.length ∧ y = .int .i64 i ∧ Keeps st6 t) Bk.length ⟨0, by omega, rfl, Keeps.refl _⟩ ?_
    rintro m y t next ⟨i, hi, rfl, ht⟩ hnx
    have hvlt : SlR t 1024 vl Bk.length (bc Bk.flatten) := hvl6.keeps fun i o h => ht.get h
    have hvltl := hvlt.len
    have ctt := ht.get ct6
    have ftt := ht.get ft6
    by_cases h5 : (i : Int) < (Bk.length : Nat)
    rotate_left
    · simp -implicitDefEqProofs (maxSteps := 2000000) (disch := first|assumption|omega|rfl|(simp only[RD];done)|(simp only[RD];omega)) only [RN,Int.reduceBEq,Int.reduceBNe,Int.reduceLT,Int.reduceLE,Int.reduceAdd,Int.reduceSub,Int.reduceMul,Nat.reduceAdd,↓bc_flatz,↓bc_flat16,↓agg_bytez, p4_5, hvltl, decide_eq_false h5]
      exact hq _ (kst6.trans ht)
    have h6 : i < Bk.length := by omega
    obtain ⟨b, hb⟩ : ∃ b, Bk[i]? = some b := ⟨_, List.getElem?_eq_getElem h6⟩
    have hbm := List.mem_of_getElem? hb
    have lb := hvll b hbm
    simp -implicitDefEqProofs (maxSteps := 2000000) (disch := first|assumption|omega|rfl|(simp only[RD];done)|(simp only[RD];omega)) only [RN,Int.reduceBEq,Int.reduceBNe,Int.reduceLT,Int.reduceLE,Int.reduceAdd,Int.reduceSub,Int.reduceMul,Nat.reduceAdd,↓bc_flatz,↓bc_flat16,↓agg_bytez, p4_5, hvltl, decide_eq_true h5, ftt, ctt, g2']
    refine lblock_ (hN7.keeps fun i o h => (kt6.trans ht).get h) lN (by omega) fun t2 kt2' => ?_
    rw [aN]
    unfold bv
    obtain ⟨i7, o7, x1, x2, x3⟩ := blk_at2 hvlt hvll hb
    have x4 : rdPart (t2.get i7) o7 1024 = some (.agg ⟨bc b⟩) := by rw [kt2'.2 i7 x2, x3]
    have eB := eqA_bc (n := 1024) false lb lfst
    have eB' : eqA (.ints .u8 1024) false (.agg ⟨bc b⟩) (.agg ⟨bc fst⟩) = some (.bool (decide (b = fst))) := by rw [eB, Bool.xor_false]
    simp -implicitDefEqProofs (maxSteps := 2000000) (disch := first|assumption|omega|rfl|(simp only[RD];done)|(simp only[RD];omega)) only [RN,Int.reduceBEq,Int.reduceBNe,Int.reduceLT,Int.reduceLE,Int.reduceAdd,Int.reduceSub,Int.reduceMul,Nat.reduceAdd,↓bc_flatz,↓bc_flat16,↓agg_bytez, x1, x3, x4, eB']
    refine lop2 (fun m y1 y2 t3 => ∃ (j : Nat) (fb : Bool), m + j = (pendL O kn).length ∧ y1 = .bool fb ∧ y2 = .int .i64 j ∧ Keeps t2 t3 ∧ (fb = false → b ≠ fst ∧ ∀ j', j' < j → ¬ ((O.getD ((pendL O kn).getD j' 0) (0, 0, [])).2.1 = at' ∧ (O.getD ((pendL O kn).getD j' 0) (0, 0, [])).2.2 = b))) (pendL O kn).length ⟨0, decide (b = fst), by omega, rfl, rfl, Keeps.refl _, fun h => ⟨of_decide_eq_false h, fun j' h => absurd h (Nat.not_lt_zero _)⟩⟩ ?_
    rintro m2 z1 z2 t3 next2 ⟨j, fb, hj, rfl, rfl, kt3, hfb⟩ hnx2
    have kall := (kst6.trans ht).trans (kt2'.trans kt3)
    have k7all := (kt6.trans ht).trans (kt2'.trans kt3)
    cases fb with
    | true =>
      by_cases h8 : (j : Int) < ((pendL O kn).length : Nat)
      · simp -implicitDefEqProofs (maxSteps := 2000000) (disch := first|assumption|omega|rfl|(simp only[RD];done)|(simp only[RD];omega)) only [RN,Int.reduceBEq,Int.reduceBNe,Int.reduceLT,Int.reduceLE,Int.reduceAdd,Int.reduceSub,Int.reduceMul,Nat.reduceAdd,↓bc_flatz,↓bc_flat16,↓agg_bytez, p4_4, hzl, decide_eq_true h8]
        exact hnx _ _ (by omega) ⟨i + 1, by omega, congrArg (Value.int .i64) (by omega), ht.trans (kt2'.trans kt3)⟩
      · simp -implicitDefEqProofs (maxSteps := 2000000) (disch := first|assumption|omega|rfl|(simp only[RD];done)|(simp only[RD];omega)) only [RN,Int.reduceBEq,Int.reduceBNe,Int.reduceLT,Int.reduceLE,Int.reduceAdd,Int.reduceSub,Int.reduceMul,Nat.reduceAdd,↓bc_flatz,↓bc_flat16,↓agg_bytez, p4_4, hzl, decide_eq_false h8]
        exact hnx _ _ (by omega) ⟨i + 1, by omega, congrArg (Value.int .i64) (by omega), ht.trans (kt2'.trans kt3)⟩
    | false =>
      have hfb := hfb rfl
      by_cases h8 : (j : Int) < ((pendL O kn).length : Nat)
      · have h9 : j < (pendL O kn).length := by omega
        have hmb := make_bools (n := (pendL O kn).length) (k := .i64) (by omega)
        have hmc : (List.replicate (pendL O kn).length (Value.bool false)).set ((j : Int).toNat * 1) (.bool true) = bC (oneH (pendL O kn).length j) := by
          rw [Int.toNat_natCast, Nat.mul_one]; exact oneH_c
        have hct3 := (kt2'.trans kt3).get ctt
        simp -implicitDefEqProofs (maxSteps := 2000000) (disch := first|assumption|omega|rfl|(simp only[RD];done)|(simp only[RD];omega)) only [RN,Int.reduceBEq,Int.reduceBNe,Int.reduceLT,Int.reduceLE,Int.reduceAdd,Int.reduceSub,Int.reduceMul,Nat.reduceAdd,↓bc_flatz,↓bc_flat16,↓agg_bytez, p4_4, hzl, decide_eq_true h8, hmb, p4_3]
        rw [hmc]
        obtain ⟨t4, ht4⟩ : ∃ t4, t4 = t3.push (.cells (bC (oneH (pendL O kn).length j)) none) := ⟨_, rfl⟩
        have kt4 : Keeps t3 t4 := by rw [ht4]; exact (Keeps.refl _).push _
        have et4 : t4.get t3.next = some (.cells (bC (oneH (pendL O kn).length j)) none) := by rw [ht4]; exact Store.get_push_same _ _
        have ct4' := kt4.get hct3
        rw [← ht4]
        simp -implicitDefEqProofs (maxSteps := 2000000) (disch := first|assumption|omega|rfl|(simp only[RD];done)|(simp only[RD];omega)) only [RN,Int.reduceBEq,Int.reduceBNe,Int.reduceLT,Int.reduceLE,Int.reduceAdd,Int.reduceSub,Int.reduceMul,Nat.reduceAdd,↓bc_flatz,↓bc_flat16,↓agg_bytez, ct4', p02]
        obtain ⟨hv4', hu4', _⟩ := keepV t4 (kall.trans kt4)
        have hone : SlR t4 1 (.slice (some ⟨t3.next, 0, none⟩) (pendL O kn).length (pendL O kn).length) (oneH (pendL O kn).length j).length (bC (oneH (pendL O kn).length j)) := by
          rw [oneH_len]
          exact SlR.new (.inl rfl) et4 (by simp [bC, oneH_len])
        refine after_ (ks := oneH (pendL O kn).length j) hv4' hl (by omega) hu4' hlo (by omega) huc hone (by rw [oneH_len]; omega) (fun _ _ _ _ C v5 t5 hC kt5' hC1 _ => ?_) fun h => absurd ⟨hok, hod, hk0, hkl⟩ h
        rw [Int.toNat_natCast] at hC
        have ct5' := kt5'.get ct4'
        obtain ⟨t6, ht6⟩ : ∃ t6, t6 = t5.push (.cells [.int .i64 n, v5] none) := ⟨_, rfl⟩
        have kt6' : Keeps t5 t6 := by rw [ht6]; exact (Keeps.refl _).push _
        have et6 : t6.get t5.next = some (.cells [.int .i64 n, v5] none) := by rw [ht6]; exact Store.get_push_same _ _
        have ct6' := kt6'.get ct5'
        have k36 := (kt4.trans kt5').trans kt6'
        have kall6 := kall.trans k36
        have hC6 : SlR t6 1025 v5 C.length (waitC C) := (hC1.same fun i hi => kt6'.2 i (hC1.lt i hi)).r
        have lC := nb_len (gA _) hC
        have fC := nb_few (gA _) (by omega) hC
        obtain ⟨p, hp⟩ : ∃ p, (pendL O kn)[j]? = some p := ⟨_, List.getElem?_eq_getElem h9⟩
        have hpm := List.mem_of_getElem? hp
        have hpl := pendL_lt hpm
        have hPg : (pendL O kn).getD j 0 = p := by rw [List.getD_eq_getElem?_getD, hp]; rfl
        obtain ⟨o, ho⟩ : ∃ o, O[p]? = some o := ⟨_, List.getElem?_eq_getElem (by omega)⟩
        have hOg : O.getD p (0, 0, []) = o := by rw [List.getD_eq_getElem?_getD, ho]; rfl
        have hw1 := pend_wr hpm
        rw [hOg] at hw1
        obtain ⟨c, a, b2⟩ := o
        have hw1 : c = 1 := hw1
        have lb2 : b2.length = 1024 := hlo (c, a, b2) (List.mem_of_getElem? ho)
        obtain ⟨_, hu6, _⟩ := keepV t6 kall6
        obtain ⟨ib, ob, o1, _, o3, _⟩ := op_at hu6 hlo ho
        have kz : Keeps st6 t6 := (ht.trans (kt2'.trans kt3)).trans k36
        have hz6 : SlG t6 1 z (pendL O kn).length (nC (pendL O kn)) := hz.same fun i hi => kz.2 i (hz.lt i hi)
        obtain ⟨iz, oz, z3, z4⟩ := one_at hz6.r (show (nC (pendL O kn))[j]? = some (.int .i64 (p : Nat)) by simp [nC, hp]) h9
        have kx : Keeps t t6 := (kt2'.trans kt3).trans k36
        have x6 : rdPart (t6.get i7) o7 1024 = some (.agg ⟨bc b⟩) := by rw [kx.2 i7 x2, x3]
        by_cases ha : a = at'
        · have ea : (a == at') = true := by simp [ha]
          have aC : atL C at' = b2 := by
            rw [atL_held hC, nbF_getD, base (oneH _ j), openF_one (oneH_at h9) (fun i hi => oneH_ne hi) _ h9, hPg, hOg]
            unfold wrF
            rw [if_pos hw1, if_pos ha.symm]; rfl
          simp -implicitDefEqProofs (maxSteps := 2000000) (disch := first|assumption|omega|rfl|(simp only[RD];done)|(simp only[RD];omega)) only [RN,Int.reduceBEq,Int.reduceBNe,Int.reduceLT,Int.reduceLE,Int.reduceAdd,Int.reduceSub,Int.reduceMul,Nat.reduceAdd,↓bc_flatz,↓bc_flat16,↓agg_bytez, y0, y1, u2, g2']
          rw [← ht6]
          simp -implicitDefEqProofs (maxSteps := 2000000) (disch := first|assumption|omega|rfl|(simp only[RD];done)|(simp only[RD];omega)) only [RN,Int.reduceBEq,Int.reduceBNe,Int.reduceLT,Int.reduceLE,Int.reduceAdd,Int.reduceSub,Int.reduceMul,Nat.reduceAdd,↓bc_flatz,↓bc_flat16,↓agg_bytez, p4_2, ct6', z3, z4, o1, o3, ea, p4_1, et6, g2']
          refine lblock_ hC6 lC (by omega) fun t7 kt7 => ?_
          rw [aC]
          unfold bv
          have x7 : rdPart (t7.get i7) o7 1024 = some (.agg ⟨bc b⟩) := by rw [kt7.2 i7 (by have := kx.1; omega), x6]
          have eb := eqA_bc (n := 1024) false lb2 lb
          have eb' : eqA (.ints .u8 1024) false (.agg ⟨bc b2⟩) (.agg ⟨bc b⟩) = some (.bool (decide (b2 = b))) := by rw [eb, Bool.xor_false]
          simp -implicitDefEqProofs (maxSteps := 2000000) (disch := first|assumption|omega|rfl|(simp only[RD];done)|(simp only[RD];omega)) only [RN,Int.reduceBEq,Int.reduceBNe,Int.reduceLT,Int.reduceLE,Int.reduceAdd,Int.reduceSub,Int.reduceMul,Nat.reduceAdd,↓bc_flatz,↓bc_flat16,↓agg_bytez, x1, x6, x7, eb']
          refine hnx2 _ _ _ (by omega) ⟨j + 1, decide (b2 = b), by omega, by first | rfl | simp, congrArg (Value.int .i64) (by omega), kt3.trans (k36.trans kt7), fun h => ⟨hfb.1, fun j' hj' => ?_⟩⟩
          by_cases hjj : j' = j
          · subst hjj
            rw [hPg, hOg]
            exact fun h' => of_decide_eq_false h h'.2
          · exact hfb.2 j' (by omega)
        · have ea : (a == at') = false := by simp [ha]
          simp -implicitDefEqProofs (maxSteps := 2000000) (disch := first|assumption|omega|rfl|(simp only[RD];done)|(simp only[RD];omega)) only [RN,Int.reduceBEq,Int.reduceBNe,Int.reduceLT,Int.reduceLE,Int.reduceAdd,Int.reduceSub,Int.reduceMul,Nat.reduceAdd,↓bc_flatz,↓bc_flat16,↓agg_bytez, y0, y1, u2, g2']
          rw [← ht6]
          simp -implicitDefEqProofs (maxSteps := 2000000) (disch := first|assumption|omega|rfl|(simp only[RD];done)|(simp only[RD];omega)) only [RN,Int.reduceBEq,Int.reduceBNe,Int.reduceLT,Int.reduceLE,Int.reduceAdd,Int.reduceSub,Int.reduceMul,Nat.reduceAdd,↓bc_flatz,↓bc_flat16,↓agg_bytez, p4_2, ct6', z3, z4, o1, o3, ea, p4_1, et6, g2']
          refine hnx2 _ _ _ (by omega) ⟨j + 1, false, by omega, rfl, congrArg (Value.int .i64) (by omega), kt3.trans k36, fun h => ⟨hfb.1, fun j' hj' => ?_⟩⟩
          by_cases hjj : j' = j
          · subst hjj
            rw [hPg, hOg]
            exact fun h' => ha h'.1
          · exact hfb.2 j' (by omega)
      · exfalso
        have hjj : j = (pendL O kn).length := by omega
        rw [hBk] at hbm
        rcases blkI_why _ hbm with h9 | ⟨j', h9, h10⟩
        · exact hfb.1 (by rw [h9, hfst])
        · exact hfb.2 j' (by omega) h10
  simp -implicitDefEqProofs (maxSteps := 2000000) (disch := first|assumption|omega|rfl|(simp only[RD];done)|(simp only[RD];omega)) only [RN,Int.reduceBEq,Int.reduceBNe,Int.reduceLT,Int.reduceLE,Int.reduceAdd,Int.reduceSub,Int.reduceMul,Nat.reduceAdd,↓bc_flatz,↓bc_flat16,↓agg_bytez, y0, y1, u2, g2', p4_11]
  rw [← hs7]
  simp -implicitDefEqProofs (maxSteps := 2000000) (disch := first|assumption|omega|rfl|(simp only[RD];done)|(simp only[RD];omega)) only [RN,Int.reduceBEq,Int.reduceBNe,Int.reduceLT,Int.reduceLE,Int.reduceAdd,Int.reduceSub,Int.reduceMul,Nat.reduceAdd,↓bc_flatz,↓bc_flat16,↓agg_bytez, e7, g2']
  refine pwhole_ hA7 lA (by omega) (fun _ s8 k8 => ?_) fun h => absurd okA h
  have c8 := k8.get c7
  have e8 := k8.get e7
  have f8 := k8.get f7
  by_cases hkp : (0 : Int) < (kn : Nat)
  · obtain ⟨j, rfl⟩ : ∃ j, kn = j + 1 := ⟨kn - 1, by omega⟩
    obtain ⟨o, ho⟩ : ∃ o, O[j]? = some o := ⟨_, List.getElem?_eq_getElem (by omega)⟩
    obtain ⟨c, a, b⟩ := o
    have hgd : O.getD j (0, 0, []) = (c, a, b) := by rw [List.getD_eq_getElem?_getD, ho]; rfl
    obtain ⟨_, hu8, _⟩ := keepV s8 (k17.trans k8)
    obtain ⟨ib, ob, o1, o2, _⟩ := op_at hu8 hlo ho
    have ej : ((j + 1 : Nat) : Int) - 1 = (j : Nat) := by omega
    by_cases hc : c = 2
    · have ec : (c == 2) = true := by simp [hc]
      have hAN : A = N0 := by
        have hpe : pendL O (j + 1) = [] := pend_bar (by rw [hgd]; exact hc)
        have : aftF L O (j + 1) ks = aftF L O (j + 1) [] := by unfold aftF; rw [hpe]; rfl
        rw [this] at hA
        exact hA.uniq hN
      simp -implicitDefEqProofs (maxSteps := 2000000) (disch := first|assumption|omega|rfl|(simp only[RD];done)|(simp only[RD];omega)) only [RN,Int.reduceBEq,Int.reduceBNe,Int.reduceLT,Int.reduceLE,Int.reduceAdd,Int.reduceSub,Int.reduceMul,Nat.reduceAdd,↓bc_flatz,↓bc_flat16,↓agg_bytez, c8, decide_eq_true hkp, p4_10, ej, o1, o2, ec, e8, f8, g2']
      refine psame_ (hA7.keeps fun i o h => k8.get h) lA (by omega) (hN7.keeps fun i o h => k8.get h) lN (by omega) (fun _ _ _ _ s9 k9 => ?_) fun h => absurd ⟨okA, okN, rfl, hAN⟩ h
      simp -implicitDefEqProofs (maxSteps := 2000000) (disch := first|assumption|omega|rfl|(simp only[RD];done)|(simp only[RD];omega)) only [RN,Int.reduceBEq,Int.reduceBNe,Int.reduceLT,Int.reduceLE,Int.reduceAdd,Int.reduceSub,Int.reduceMul,Nat.reduceAdd,↓bc_flatz,↓bc_flat16,↓agg_bytez]
      exact cont _ (k8.trans k9)
    · have ec : (c == 2) = false := by simp [hc]
      simp -implicitDefEqProofs (maxSteps := 2000000) (disch := first|assumption|omega|rfl|(simp only[RD];done)|(simp only[RD];omega)) only [RN,Int.reduceBEq,Int.reduceBNe,Int.reduceLT,Int.reduceLE,Int.reduceAdd,Int.reduceSub,Int.reduceMul,Nat.reduceAdd,↓bc_flatz,↓bc_flat16,↓agg_bytez, c8, decide_eq_true hkp, p4_10, ej, o1, o2, ec]
      exact cont _ k8
  · simp -implicitDefEqProofs (maxSteps := 2000000) (disch := first|assumption|omega|rfl|(simp only[RD];done)|(simp only[RD];omega)) only [RN,Int.reduceBEq,Int.reduceBNe,Int.reduceLT,Int.reduceLE,Int.reduceAdd,Int.reduceSub,Int.reduceMul,Nat.reduceAdd,↓bc_flatz,↓bc_flat16,↓agg_bytez, c8, decide_eq_false hkp, p4_10]
    exact cont _ k8
end Go.Proofs.Ytncdcjebanhcpaa
