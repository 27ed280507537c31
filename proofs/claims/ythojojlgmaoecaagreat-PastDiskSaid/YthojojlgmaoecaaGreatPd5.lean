/- PastDisk, walked. -/
import Derived.Test.YthojojlgmaoecaaGreatDp5
import Derived.Test.YthojojlgmaoecaaGreatIm2
import Derived.Test.YthojojlgmaoecaaGreatPck
set_option linter.all false
set_option maxRecDepth 100000
set_option maxHeartbeats 1600000
namespace Go.Proofs.YthojojlgmaoecaaGreat
open Go.Am Go.Sort
variable {σ : Store} {Q : Value → Store → Prop} {n k at' : Int} {va vo vk : Value} {L : List HB} {O : List OP} {ks : List Bool}
theorem pastdisk_ (hv : SlR σ 1025 va L.length (waitC L)) (hl : ∀ p ∈ L, p.2.length = 1024) (hcap : L.length < 2 ^ 63) (hu : SlR σ 1026 vo O.length (histC O)) (hlo : ∀ o ∈ O, o.2.2.length = 1024) (hw : SlR σ 1 vk ks.length (bC ks))
    (hq : ∀ st, σ.next ≤ st.next → Q (.bool true) st) :
    Does Tryz.prog 3 [.agg ⟨[.int .i64 n, va, vo, .int .i64 k, vk, .int .i64 at']⟩] σ Q := by
  refine d3 ?_
  have u2 : unrle [(1, Value.int .i64 0), (1, .slice none 0 0)] = [.int .i64 0, .slice none 0 0] := rfl
  have g2' : ∀ (n : Int) (v : Value), ([.int .i64 n, v] : List Value).length = 2 := fun _ _ => rfl
  have y0 : ∀ a b, extractV (.tuple #[a, b]) 0 = some a := fun _ _ => rfl
  have y1 : ∀ a b, extractV (.tuple #[a, b]) 1 = some b := fun _ _ => rfl
  have p02 : rdPart (some (.cells [.int .i64 n, va, vo, .int .i64 k, vk, .int .i64 at'] none)) 0 2 = some (.agg ⟨[.int .i64 n, va]⟩) := rfl
  obtain ⟨s1, hs1⟩ : ∃ s1, s1 = σ.push (.cells [.int .i64 n, va, vo, .int .i64 k, vk, .int .i64 at'] none) := ⟨_, rfl⟩
  have k1 : Keeps σ s1 := by rw [hs1]; exact (Keeps.refl _).push _
  have c1 : s1.get σ.next = some (.cells [.int .i64 n, va, vo, .int .i64 k, vk, .int .i64 at'] none) := by rw [hs1]; exact Store.get_push_same _ _
  have n1 : s1.next = σ.next + 1 := by rw [hs1, Store.next_push]
  unfold p3
  rw [box_agg, nop_some, ← hs1]
  refine lives_ fun s2 k2 => ?_
  have c2 := k2.get c1
  have k12 := k1.trans k2
  have n2 := k2.1
  have keepV : ∀ st, Keeps σ st → SlR st 1025 va L.length (waitC L) ∧ SlR st 1026 vo O.length (histC O) ∧ SlR st 1 vk ks.length (bC ks) := fun st kt => ⟨hv.keeps fun i o h => kt.get h, hu.keeps fun i o h => kt.get h, hw.keeps fun i o h => kt.get h⟩
  have hul := hu.len
  have hwl := hw.len
  by_cases h1 : n < 1
  · simp -implicitDefEqProofs (maxSteps := 2000000) (disch := first|assumption|omega|rfl|(simp only[RD];done)|(simp only[RD];omega)) only [RN,Int.reduceBEq,Int.reduceBNe,Int.reduceLT,Int.reduceLE,Int.reduceAdd,Int.reduceSub,Int.reduceMul,Nat.reduceAdd,↓bc_flatz,↓bc_flat16,↓agg_bytez, c2, decide_eq_true h1, p3_9, p3_8]
    exact hq _ (by omega)
  by_cases h9 : 9 < n
  · simp -implicitDefEqProofs (maxSteps := 2000000) (disch := first|assumption|omega|rfl|(simp only[RD];done)|(simp only[RD];omega)) only [RN,Int.reduceBEq,Int.reduceBNe,Int.reduceLT,Int.reduceLE,Int.reduceAdd,Int.reduceSub,Int.reduceMul,Nat.reduceAdd,↓bc_flatz,↓bc_flat16,↓agg_bytez, c2, decide_eq_false h1, decide_eq_true h9, p3_9, p3_8]
    exact hq _ (by omega)
  obtain ⟨hv2, hu2, hw2⟩ := keepV s2 k12
  simp -implicitDefEqProofs (maxSteps := 2000000) (disch := first|assumption|omega|rfl|(simp only[RD];done)|(simp only[RD];omega)) only [RN,Int.reduceBEq,Int.reduceBNe,Int.reduceLT,Int.reduceLE,Int.reduceAdd,Int.reduceSub,Int.reduceMul,Nat.reduceAdd,↓bc_flatz,↓bc_flat16,↓agg_bytez, c2, decide_eq_false h1, decide_eq_false h9, p3_9, p02]
  refine pwhole_ hv2 hl hcap (fun hok s3 k3 => ?_) fun _ s3 k3 => ?_
  rotate_left
  · simp -implicitDefEqProofs (maxSteps := 2000000) (disch := first|assumption|omega|rfl|(simp only[RD];done)|(simp only[RD];omega)) only [RN,Int.reduceBEq,Int.reduceBNe,Int.reduceLT,Int.reduceLE,Int.reduceAdd,Int.reduceSub,Int.reduceMul,Nat.reduceAdd,↓bc_flatz,↓bc_flat16,↓agg_bytez, p3_8]
    exact hq _ (by have := k3.1; omega)
  have c3 := k3.get c2
  have k13 := k12.trans k3
  have n3 := k3.1
  by_cases h60 : (60 : Int) < (O.length : Nat)
  · simp -implicitDefEqProofs (maxSteps := 2000000) (disch := first|assumption|omega|rfl|(simp only[RD];done)|(simp only[RD];omega)) only [RN,Int.reduceBEq,Int.reduceBNe,Int.reduceLT,Int.reduceLE,Int.reduceAdd,Int.reduceSub,Int.reduceMul,Nat.reduceAdd,↓bc_flatz,↓bc_flat16,↓agg_bytez, c3, hul, decide_eq_true h60, p3_8]
    exact hq _ (by omega)
  by_cases h120 : (120 : Int) < (ks.length : Nat)
  · simp -implicitDefEqProofs (maxSteps := 2000000) (disch := first|assumption|omega|rfl|(simp only[RD];done)|(simp only[RD];omega)) only [RN,Int.reduceBEq,Int.reduceBNe,Int.reduceLT,Int.reduceLE,Int.reduceAdd,Int.reduceSub,Int.reduceMul,Nat.reduceAdd,↓bc_flatz,↓bc_flat16,↓agg_bytez, c3, hul, decide_eq_false h60, hwl, decide_eq_true h120, p3_8]
    exact hq _ (by omega)
  have hLf : (L.length : Int) ≤ n := (load_held hok).few (load_W hok) (by show 0 < n; omega)
  obtain ⟨hv3, hu3, hw3⟩ := keepV s3 k13
  simp -implicitDefEqProofs (maxSteps := 2000000) (disch := first|assumption|omega|rfl|(simp only[RD];done)|(simp only[RD];omega)) only [RN,Int.reduceBEq,Int.reduceBNe,Int.reduceLT,Int.reduceLE,Int.reduceAdd,Int.reduceSub,Int.reduceMul,Nat.reduceAdd,↓bc_flatz,↓bc_flat16,↓agg_bytez, c3, hul, decide_eq_false h60, hwl, decide_eq_false h120, p3_8, p02]
  refine load_ hv3 hl hcap (fun _ s4 d F0 hD0 hU0 => ?_) fun h => absurd hok h
  have hF0 : ∀ j ∈ F0, s3.next ≤ j := fun j hj => by
    rcases (hU0.ids j hj).2 with h | h
    · cases h
    · exact h
  have hz4 : (0 != (0 : Int)) = false := rfl
  have hpn : ∀ st : Store, eqPn false (.pointer (some ⟨d, 0, none⟩)) (.pointer none) = some (.bool false) := fun _ => rfl
  simp -implicitDefEqProofs (maxSteps := 2000000) (disch := first|assumption|omega|rfl|(simp only[RD];done)|(simp only[RD];omega)) only [RN,Int.reduceBEq,Int.reduceBNe,Int.reduceLT,Int.reduceLE,Int.reduceAdd,Int.reduceSub,Int.reduceMul,Nat.reduceAdd,↓bc_flatz,↓bc_flat16,↓agg_bytez, y0, y1, p3_7, hpn s4]
  refine lop1 (fun q y t => ∃ (i : Nat) (H : List OP) (s : DS) (F : List Nat), q + i = O.length ∧ y = .int .i64 i ∧ H.length = i ∧ PD n L H s ∧ s.C i ∧ s.W ∧ (∀ o ∈ H, ¬ oddOp n o) ∧ Disk t d s F ∧ (∀ j ∈ F, s3.next ≤ j) ∧ s3.next ≤ t.next ∧ ∀ j, j < s3.next → t.get j = s3.get j) O.length
    ⟨0, [], DS.load n L, F0, by omega, rfl, rfl, PD.start hok, load_C hok hl, load_W hok, (fun o ho => by cases ho), hD0, hF0, hU0.next, fun j hj => hU0.same j hj (by simp)⟩ ?_
  rintro q y t next ⟨i, H, s, F, hi, rfl, hHl, hPD, hC, hW, hodH, hD, hF, ht1, ht2⟩ hnx
  have kt : Keeps s3 t := ⟨ht1, ht2⟩
  have k1t := k13.trans kt
  have ct := kt.get c3
  obtain ⟨hvt, hut, hwt⟩ := keepV t k1t
  by_cases h5 : (i : Int) < (O.length : Nat)
  · have h6 : i < O.length := by omega
    obtain ⟨o, ho⟩ : ∃ o, O[i]? = some o := ⟨_, List.getElem?_eq_getElem h6⟩
    obtain ⟨c, a, b⟩ := o
    have hb : b.length = 1024 := hlo (c, a, b) (List.mem_of_getElem? ho)
    obtain ⟨ib, ob, o1, o2, o3, o4, _⟩ := op_at hut hlo ho
    by_cases hc : c = 2
    · have ec : (c == 2) = true := by simp [hc]
      simp -implicitDefEqProofs (maxSteps := 2000000) (disch := first|assumption|omega|rfl|(simp only[RD];done)|(simp only[RD];omega)) only [RN,Int.reduceBEq,Int.reduceBNe,Int.reduceLT,Int.reduceLE,Int.reduceAdd,Int.reduceSub,Int.reduceMul,Nat.reduceAdd,↓bc_flatz,↓bc_flat16,↓agg_bytez, ct, hul, decide_eq_true h5, p3_6, p3_2, o1, o2, ec]
      obtain ⟨hb1, hPD'⟩ := hPD.barrier
      refine barrier_o hD hC (by omega) fun t' F' hD' hU' => ?_
      rw [hb1]
      try simp -implicitDefEqProofs (maxSteps := 2000000) (disch := first|assumption|omega|rfl|(simp only[RD];done)|(simp only[RD];omega)) only [RN,Int.reduceBEq,Int.reduceBNe,Int.reduceLT,Int.reduceLE,Int.reduceAdd,Int.reduceSub,Int.reduceMul,Nat.reduceAdd,↓bc_flatz,↓bc_flat16,↓agg_bytez]
      refine hnx _ _ (by omega) ⟨i + 1, H ++ [bar], s.barrier.2, F', by omega, congrArg (Value.int .i64) (by omega), by simp [hHl], hPD', barrier_C hC, barrier_W hW, fun o ho => ?_, hD', fun j hj => ?_, by have := hU'.next; omega, fun j hj => ?_⟩
      · rcases List.mem_append.1 ho with h | h
        · exact hodH o h
        · have : o = bar := by simpa using h
          rw [this]; exact fun h2 => h2.1 rfl
      · rcases (hU'.ids j hj).2 with h | h
        · exact hF j h
        · omega
      · rw [hU'.same j (by omega) (fun h => by have := hF j h; omega), ht2 j hj]
    · have ec : (c == 2) = false := by simp [hc]
      simp -implicitDefEqProofs (maxSteps := 2000000) (disch := first|assumption|omega|rfl|(simp only[RD];done)|(simp only[RD];omega)) only [RN,Int.reduceBEq,Int.reduceBNe,Int.reduceLT,Int.reduceLE,Int.reduceAdd,Int.reduceSub,Int.reduceMul,Nat.reduceAdd,↓bc_flatz,↓bc_flat16,↓agg_bytez, ct, hul, decide_eq_true h5, p3_6, p3_2, o1, o2, ec, o3, p3_1]
      refine pick_ (by omega) (by omega) ?_
      have ha0 : 0 ≤ a % n := Int.emod_nonneg _ (by omega)
      have ha1 : a % n < n := Int.emod_lt_of_pos _ (by omega)
      obtain ⟨hb1, hPD'⟩ := hPD.write (b := b) ha0 ha1
      simp -implicitDefEqProofs (maxSteps := 2000000) (disch := first|assumption|omega|rfl|(simp only[RD];done)|(simp only[RD];omega)) only [RN,Int.reduceBEq,Int.reduceBNe,Int.reduceLT,Int.reduceLE,Int.reduceAdd,Int.reduceSub,Int.reduceMul,Nat.reduceAdd,↓bc_flatz,↓bc_flat16,↓agg_bytez, ct, o1, o4]
      refine write_o hD hC (by omega) hb fun t' F' hD' hU' => ?_
      rw [hb1]
      try simp -implicitDefEqProofs (maxSteps := 2000000) (disch := first|assumption|omega|rfl|(simp only[RD];done)|(simp only[RD];omega)) only [RN,Int.reduceBEq,Int.reduceBNe,Int.reduceLT,Int.reduceLE,Int.reduceAdd,Int.reduceSub,Int.reduceMul,Nat.reduceAdd,↓bc_flatz,↓bc_flat16,↓agg_bytez]
      refine hnx _ _ (by omega) ⟨i + 1, H ++ [(1, a % n, b)], (s.write (a % n) b).2, F', by omega, congrArg (Value.int .i64) (by omega), by simp [hHl], hPD', write_C hC hb, write_W hW, fun o ho => ?_, hD', fun j hj => ?_, by have := hU'.next; omega, fun j hj => ?_⟩
      · rcases List.mem_append.1 ho with h | h
        · exact hodH o h
        · have : o = (1, a % n, b) := by simpa using h
          rw [this]
          rintro ⟨_, h2 | h2 | h2⟩
          · exact h2 rfl
          · have h2 : a % n < 0 := h2
            omega
          · have h2 : n ≤ a % n := h2
            omega
      · rcases (hU'.ids j hj).2 with h | h
        · exact hF j h
        · omega
      · rw [hU'.same j (by omega) (fun h => by have := hF j h; omega), ht2 j hj]
  · have hii : i = O.length := by omega
    have hHO : H.length = O.length := by omega
    simp -implicitDefEqProofs (maxSteps := 2000000) (disch := first|assumption|omega|rfl|(simp only[RD];done)|(simp only[RD];omega)) only [RN,Int.reduceBEq,Int.reduceBNe,Int.reduceLT,Int.reduceLE,Int.reduceAdd,Int.reduceSub,Int.reduceMul,Nat.reduceAdd,↓bc_flatz,↓bc_flat16,↓agg_bytez, ct, hul, decide_eq_false h5, p3_6]
    refine histlen_o hD hC (by omega) fun t1 vH kt1 hH _ => ?_
    rw [hPD.hist] at hH
    have ct1 := kt1.get ct
    have hHr := hH.r
    have hHlen := hHr.len
    have hlH : ∀ o ∈ H, o.2.2.length = 1024 := fun o ho => hC.ok.hist o (by rw [hPD.hist]; exact ho)
    obtain ⟨hv1', _, hw1'⟩ := keepV t1 (k1t.trans kt1)
    simp -implicitDefEqProofs (maxSteps := 2000000) (disch := first|assumption|omega|rfl|(simp only[RD];done)|(simp only[RD];omega)) only [RN,Int.reduceBEq,Int.reduceBNe,Int.reduceLT,Int.reduceLE,Int.reduceAdd,Int.reduceSub,Int.reduceMul,Nat.reduceAdd,↓bc_flatz,↓bc_flat16,↓agg_bytez, ct1, p02, hHlen]
    refine after_ (O := H) hv1' hl (by omega) hHr hlH (by omega) (SlG_cap hH) hw1' (by omega) (fun _ _ _ _ W v2 t2 hWl kt2 hW1 hW1i => ?_) fun h => absurd ⟨hok, hodH, by omega, Int.le_refl _⟩ h
    rw [Int.toNat_natCast] at hWl
    have gW : GoodF n (aftF L H H.length ks) := aftF_good hok hl hlH hodH (Nat.le_refl _)
    have lW := nb_len gW hWl
    have fW := nb_few gW (by omega) hWl
    have okW := nb_ok gW hok.1 hok.2.1 hWl
    obtain ⟨t3, ht3⟩ : ∃ t3, t3 = t2.push (.cells [.int .i64 n, v2] none) := ⟨_, rfl⟩
    have kt3 : Keeps t2 t3 := by rw [ht3]; exact (Keeps.refl _).push _
    have e3 : t3.get t2.next = some (.cells [.int .i64 n, v2] none) := by rw [ht3]; exact Store.get_push_same _ _
    have k13t := kt2.trans kt3
    have hHr3 : SlR t3 1026 vH H.length (histC H) := hHr.keeps fun i o h => k13t.get h
    simp -implicitDefEqProofs (maxSteps := 2000000) (disch := first|assumption|omega|rfl|(simp only[RD];done)|(simp only[RD];omega)) only [RN,Int.reduceBEq,Int.reduceBNe,Int.reduceLT,Int.reduceLE,Int.reduceAdd,Int.reduceSub,Int.reduceMul,Nat.reduceAdd,↓bc_flatz,↓bc_flat16,↓agg_bytez, y0, y1, u2, g2', p3_5]
    rw [← ht3]
    simp -implicitDefEqProofs (maxSteps := 2000000) (disch := first|assumption|omega|rfl|(simp only[RD];done)|(simp only[RD];omega)) only [RN,Int.reduceBEq,Int.reduceBNe,Int.reduceLT,Int.reduceLE,Int.reduceAdd,Int.reduceSub,Int.reduceMul,Nat.reduceAdd,↓bc_flatz,↓bc_flat16,↓agg_bytez, hHlen]
    refine ppending_ hHr3 hlH (by omega) (by omega) fun t4 z kt4 hz hzi => ?_
    rw [Int.toNat_natCast] at hz
    have hD4 := ((hD.later kt1).later k13t).later kt4
    refine pending_o hD4 hC (by omega) fun t5 z2 kt5 hz2 hz2i => ?_
    have hPl : (pendL H H.length).length ≤ H.length := by
      have := pendR_len H (splitL H H.length) H.length
      unfold pendL
      omega
    have hwle : s.wait.length = (pendL H H.length).length := by rw [hPD.wait, List.length_map]
    have k15 := (kt1.trans k13t).trans (kt4.trans kt5)
    have ct5 := k15.get ct
    have hD5 := hD4.later kt5
    have hzlen : lenSl z = some (.int .i64 ((pendL H H.length).length : Nat)) := hz.len
    have hz2len : lenSl z2 = some (.int .i64 ((pendL H H.length).length : Nat)) := by rw [← hwle]; exact hz2.len
    have e5 := (kt4.trans kt5).get e3
    have hz5 : SlG t5 1 z (pendL H H.length).length (nC (pendL H H.length)) := hz.same fun j hj => kt5.2 j (hz.lt j hj)
    have hHr5 : SlR t5 1026 vH H.length (histC H) := hHr3.keeps fun i o h => (kt4.trans kt5).get h
    have bOO : (((H.length : Nat) : Int) != ((O.length : Nat) : Int)) = false := by rw [hHO]; simp
    have bPP : ((((pendL H H.length).length : Nat) : Int) != (((pendL H H.length).length : Nat) : Int)) = false := by simp
    simp -implicitDefEqProofs (maxSteps := 2000000) (disch := first|assumption|omega|rfl|(simp only[RD];done)|(simp only[RD];omega)) only [RN,Int.reduceBEq,Int.reduceBNe,Int.reduceLT,Int.reduceLE,Int.reduceAdd,Int.reduceSub,Int.reduceMul,Nat.reduceAdd,↓bc_flatz,↓bc_flat16,↓agg_bytez, hHlen, ct5, hul, bOO, p3_4, hzlen, hz2len, bPP]
    refine lop1 (fun q2 y t6 => ∃ i : Nat, q2 + i = (pendL H H.length).length ∧ y = .int .i64 i ∧ t6 = t5) (pendL H H.length).length ⟨0, by omega, rfl, rfl⟩ ?_
    rintro q2 y t6 next2 ⟨i2, hi2, rfl, ht6⟩ hnx2
    subst ht6
    by_cases h7 : (i2 : Int) < ((pendL H H.length).length : Nat)
    · have h8 : i2 < (pendL H H.length).length := by omega
      obtain ⟨p, hp⟩ : ∃ p, (pendL H H.length)[i2]? = some p := ⟨_, List.getElem?_eq_getElem h8⟩
      have hpl := pendL_lt (List.mem_of_getElem? hp)
      obtain ⟨iz, oz, w1, w2⟩ := one_at hz5.r (show (nC (pendL H H.length))[i2]? = some (.int .i64 (p : Nat)) by simp [nC, hp]) h8
      obtain ⟨o, ho⟩ : ∃ o, H[p]? = some o := ⟨_, List.getElem?_eq_getElem hpl⟩
      have hOg : H.getD p (0, 0, []) = o := by rw [List.getD_eq_getElem?_getD, ho]; rfl
      obtain ⟨c, a, b⟩ := o
      obtain ⟨ib, ob, o1, _, o3, _⟩ := op_at hHr5 hlH ho
      obtain ⟨iy, oy, x1, x2⟩ := one_at hz2.r (show (iC (s.wait.map (·.1)))[i2]? = some (.int .i64 a) by
        have e : gd2 H p = (a, b) := by unfold gd2; rw [hOg]
        rw [hPD.wait]
        simp [iC, hp, e]) (by omega)
      have ea : (a != a) = false := by simp
      simp -implicitDefEqProofs (maxSteps := 2000000) (disch := first|assumption|omega|rfl|(simp only[RD];done)|(simp only[RD];omega)) only [RN,Int.reduceBEq,Int.reduceBNe,Int.reduceLT,Int.reduceLE,Int.reduceAdd,Int.reduceSub,Int.reduceMul,Nat.reduceAdd,↓bc_flatz,↓bc_flat16,↓agg_bytez, hzlen, decide_eq_true h7, p3_3, w1, w2, o1, o3, x1, x2, ea]
      exact hnx2 _ _ (by omega) ⟨i2 + 1, by omega, congrArg (Value.int .i64) (by omega), rfl⟩
    · simp -implicitDefEqProofs (maxSteps := 2000000) (disch := first|assumption|omega|rfl|(simp only[RD];done)|(simp only[RD];omega)) only [RN,Int.reduceBEq,Int.reduceBNe,Int.reduceLT,Int.reduceLE,Int.reduceAdd,Int.reduceSub,Int.reduceMul,Nat.reduceAdd,↓bc_flatz,↓bc_flat16,↓agg_bytez, hzlen, decide_eq_false h7, p3_3, ct5]
      have k1s := (k1t.trans k15)
      refine crash_o (ks := ks) hD5 hC (by omega) (fun st h1 h2 => hw.keeps fun i o h => by
        have hlt := Store.lt_of_get h
        have := k13.1
        rw [h2 i (by have := k1s.1; omega) (fun hf => by have := hF i hf; omega), k1s.get h]) fun t7 F7 hD7 hU7 => ?_
      have hlt5 := Store.lt_of_get e5
      try simp -implicitDefEqProofs (maxSteps := 2000000) (disch := first|assumption|omega|rfl|(simp only[RD];done)|(simp only[RD];omega)) only [RN,Int.reduceBEq,Int.reduceBNe,Int.reduceLT,Int.reduceLE,Int.reduceAdd,Int.reduceSub,Int.reduceMul,Nat.reduceAdd,↓bc_flatz,↓bc_flat16,↓agg_bytez]
      refine image_o hD7 (crash_C hC) (crash_W hW) fun B vB t8 hB kt8 hvB _ => ?_
      rw [hPD.crash] at hB
      have hBW : B = W := hB.uniq hWl
      have en : (s.crash ks).n = n := hPD.n
      rw [en]
      have m1 := kt1.1
      have m2 := kt2.1
      have m3 := kt3.1
      have m4 := kt4.1
      have m5 := kt5.1
      have m7 := hU7.next
      have m8 := kt8.1
      have e7 : t7.get t2.next = some (.cells [.int .i64 n, v2] none) := by
        rw [hU7.same t2.next hlt5 (fun hf => by have := hD.lt _ hf; omega), e5]
      have e8 := kt8.get e7
      have hW5 : SlG t6 1025 v2 W.length (waitC W) := hW1.same fun j hj => (kt3.trans (kt4.trans kt5)).2 j (hW1.lt j hj)
      have hW7 : SlG t7 1025 v2 W.length (waitC W) := hW5.same fun j hj => hU7.same j (hW5.lt j hj) (fun hf => by have := hD.lt _ hf; have := hW1i j hj; omega)
      have hW8 : SlG t8 1025 v2 W.length (waitC W) := hW7.same fun j hj => kt8.2 j (hW7.lt j hj)
      simp -implicitDefEqProofs (maxSteps := 2000000) (disch := first|assumption|omega|rfl|(simp only[RD];done)|(simp only[RD];omega)) only [RN,Int.reduceBEq,Int.reduceBNe,Int.reduceLT,Int.reduceLE,Int.reduceAdd,Int.reduceSub,Int.reduceMul,Nat.reduceAdd,↓bc_flatz,↓bc_flat16,↓agg_bytez, e8, e7, g2']
      refine psame_ hvB.r (by rw [hBW]; exact lW) (by rw [hBW]; omega) hW8.r lW (by omega) (fun _ _ _ _ t9 kt9 => ?_) fun h => absurd ⟨by rw [hBW]; exact okW, okW, rfl, hBW⟩ h
      try simp -implicitDefEqProofs (maxSteps := 2000000) (disch := first|assumption|omega|rfl|(simp only[RD];done)|(simp only[RD];omega)) only [RN,Int.reduceBEq,Int.reduceBNe,Int.reduceLT,Int.reduceLE,Int.reduceAdd,Int.reduceSub,Int.reduceMul,Nat.reduceAdd,↓bc_flatz,↓bc_flat16,↓agg_bytez]
      have m9 := kt9.1
      exact hq _ (by omega)
end Go.Proofs.YthojojlgmaoecaaGreat
