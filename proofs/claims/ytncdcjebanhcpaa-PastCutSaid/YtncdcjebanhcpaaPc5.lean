/- PastCut, walked. -/
import Derived.Test.YtncdcjebanhcpaaCt5
import Derived.Test.YtncdcjebanhcpaaPs5
import Derived.Test.YtncdcjebanhcpaaPck
set_option linter.all false
set_option maxRecDepth 100000
set_option maxHeartbeats 1600000
namespace Go.Proofs.Ytncdcjebanhcpaa
open Go.Am Go.Sort
variable {σ : Store} {Q : Value → Store → Prop} {n k at' : Int} {va vo vk vm : Value} {L : List HB} {O M : List OP} {ks : List Bool}
theorem pastcut_ (hv : SlR σ 1025 va L.length (waitC L)) (hl : ∀ p ∈ L, p.2.length = 1024) (hu : SlR σ 1026 vo O.length (histC O)) (hlo : ∀ o ∈ O, o.2.2.length = 1024) (hw : SlR σ 1 vk ks.length (bC ks)) (hm : SlR σ 1026 vm M.length (histC M)) (hlm : ∀ o ∈ M, o.2.2.length = 1024) (hmc : CapOk vm)
    (hq : ∀ st, Keeps σ st → Q (.bool true) st) :
    Does Try.prog 5 [.agg ⟨[.int .i64 n, va, vo, .int .i64 k, vk, .int .i64 at']⟩, vm] σ Q := by
  refine d5 ?_
  have u2 : unrle [(1, Value.int .i64 0), (1, .slice none 0 0)] = [.int .i64 0, .slice none 0 0] := rfl
  have g2' : ∀ (n : Int) (v : Value), ([.int .i64 n, v] : List Value).length = 2 := fun _ _ => rfl
  have g6 : ([.int .i64 n, va, vo, .int .i64 k, vk, .int .i64 at'] : List Value).length = 6 := rfl
  have y0 : ∀ a b, extractV (.tuple #[a, b]) 0 = some a := fun _ _ => rfl
  have y1 : ∀ a b, extractV (.tuple #[a, b]) 1 = some b := fun _ _ => rfl
  have z1 := zb_len
  have p02 : rdPart (some (.cells [.int .i64 n, va, vo, .int .i64 k, vk, .int .i64 at'] none)) 0 2 = some (.agg ⟨[.int .i64 n, va]⟩) := rfl
  obtain ⟨s1, hs1⟩ : ∃ s1, s1 = σ.push (.cells [.int .i64 n, va, vo, .int .i64 k, vk, .int .i64 at'] none) := ⟨_, rfl⟩
  have k1 : Keeps σ s1 := by rw [hs1]; exact (Keeps.refl _).push _
  have c1 : s1.get σ.next = some (.cells [.int .i64 n, va, vo, .int .i64 k, vk, .int .i64 at'] none) := by rw [hs1]; exact Store.get_push_same _ _
  unfold p5
  rw [box_agg, nop_some, ← hs1]
  refine lives_ fun s2 k2 => ?_
  have c2 := k2.get c1
  have k12 := k1.trans k2
  simp -implicitDefEqProofs (maxSteps := 2000000) (disch := first|assumption|omega|rfl|(simp only[RD];done)|(simp only[RD];omega)) only [RN,Int.reduceBEq,Int.reduceBNe,Int.reduceLT,Int.reduceLE,Int.reduceAdd,Int.reduceSub,Int.reduceMul,Nat.reduceAdd,↓bc_flatz,↓bc_flat16,↓agg_bytez, c2, g6]
  refine large_ hv.len hu.len hw.len (fun _ s3 k3 => ?_) fun h120 h120o h120k s3 k3 => ?_
  · simp -implicitDefEqProofs (maxSteps := 2000000) (disch := first|assumption|omega|rfl|(simp only[RD];done)|(simp only[RD];omega)) only [RN,Int.reduceBEq,Int.reduceBNe,Int.reduceLT,Int.reduceLE,Int.reduceAdd,Int.reduceSub,Int.reduceMul,Nat.reduceAdd,↓bc_flatz,↓bc_flat16,↓agg_bytez, p5_5]
    exact hq _ (k12.trans k3)
  have c3 := k3.get c2
  have k13 := k12.trans k3
  have hml := hm.len
  by_cases h120m : (120 : Int) < (M.length : Nat)
  · simp -implicitDefEqProofs (maxSteps := 2000000) (disch := first|assumption|omega|rfl|(simp only[RD];done)|(simp only[RD];omega)) only [RN,Int.reduceBEq,Int.reduceBNe,Int.reduceLT,Int.reduceLE,Int.reduceAdd,Int.reduceSub,Int.reduceMul,Nat.reduceAdd,↓bc_flatz,↓bc_flat16,↓agg_bytez, hml, decide_eq_true h120m, p5_5]
    exact hq _ k13
  have keepV : ∀ st, Keeps σ st → SlR st 1025 va L.length (waitC L) ∧ SlR st 1026 vo O.length (histC O) ∧ SlR st 1 vk ks.length (bC ks) ∧ SlR st 1026 vm M.length (histC M) := fun st kt => ⟨hv.keeps fun i o h => kt.get h, hu.keeps fun i o h => kt.get h, hw.keeps fun i o h => kt.get h, hm.keeps fun i o h => kt.get h⟩
  have hul := hu.len
  simp -implicitDefEqProofs (maxSteps := 2000000) (disch := first|assumption|omega|rfl|(simp only[RD];done)|(simp only[RD];omega)) only [RN,Int.reduceBEq,Int.reduceBNe,Int.reduceLT,Int.reduceLE,Int.reduceAdd,Int.reduceSub,Int.reduceMul,Nat.reduceAdd,↓bc_flatz,↓bc_flat16,↓agg_bytez, hml, decide_eq_false h120m, p5_5]
  refine lop2 (fun q y1 y2 t => ∃ i : Nat, q + i = O.length ∧ y2 = .int .i64 i ∧ SlG t 1026 y1 (O.take i).length (histC (O.take i)) ∧ (∀ j ∈ idsV y1, s3.next ≤ j) ∧ Keeps s3 t) O.length ⟨0, by omega, rfl, by rw [List.take_zero]; exact SlG.nil, fun j hj => by simp [idsV] at hj, Keeps.refl _⟩ ?_
  rintro q y1' y2 t next ⟨i, hi, rfl, hS, hyi, kt⟩ hnx
  have ct := kt.get c3
  have k1t := k13.trans kt
  obtain ⟨hvt, hut, hwt, hmt⟩ := keepV t k1t
  have htl : (O.take i).length = i := by rw [List.length_take]; omega
  have body : p5_4 (.bool false) (.pointer (some ⟨σ.next, 0, none⟩)) t (.int .i64 (i : Nat)) y1' next vm Q := by
    obtain ⟨P, hP⟩ : ∃ P, P = O.take i := ⟨_, rfl⟩
    rw [← hP] at hS htl
    have hlP : ∀ o ∈ P ++ [bar], o.2.2.length = 1024 := fun o ho => by
      rcases List.mem_append.1 ho with h | h
      · exact hlo o (by rw [hP] at h; exact List.mem_of_mem_take h)
      · have : o = bar := by simpa using h
        rw [this]; exact zb_len
    have hN1 : (P ++ [bar]).length = i + 1 := by simp [htl]
    obtain ⟨b4, hb4⟩ : ∃ b4, b4 = t.push (.cells (opC bar) none) := ⟨_, rfl⟩
    have kb4 : Keeps t b4 := by rw [hb4]; exact (Keeps.refl _).push _
    have n4 : b4.next = t.next + 1 := by rw [hb4, Store.next_push]
    have hS4 := hS.same fun j hj => kb4.2 j (hS.lt j hj)
    obtain ⟨s5, a1, a2, a3, a4⟩ := SlG.app (σ := b4) (sz := 1026) (j := t.next) (k := 1) (gj := none) (by_ := 1040) hS4 (by rw [hb4]; exact Store.get_push_same _ _) (opC_len zb_len) (by omega) (by omega) (by decide)
    have htn := kt.1
    have k35 : Keeps s3 s5 := ⟨by omega, fun j hj => by rw [a4 j (by omega) (fun h => by have := hyi j h; omega), kb4.2 j (by omega), kt.2 j hj]⟩
    have k15 := k13.trans k35
    have c5 := k35.get c3
    obtain ⟨v60, hv60⟩ : ∃ v60, v60 = Value.slice (some ⟨b4.next, 0, some 1026⟩) (P.length + 1) (P.length + 1) := ⟨_, rfl⟩
    rw [← hv60] at a1 a2
    have e60 : histC P ++ opC bar = histC (P ++ [bar]) := by
      rw [hist_app]
      congr 1
    have hG5 : SlG s5 1026 v60 (P ++ [bar]).length (histC (P ++ [bar])) := by
      rw [← e60, List.length_append, List.length_singleton]; exact a2
    have hc60 := SlG_cap hG5
    have hl60 := hG5.len
    have hodd : (∀ o ∈ P ++ [bar], ¬ oddOp n o) ↔ ∀ o ∈ P, ¬ oddOp n o := by
      constructor
      · exact fun h o ho => h o (List.mem_append_left _ ho)
      · intro h o ho
        rcases List.mem_append.1 ho with h1 | h1
        · exact h o h1
        · have : o = bar := by simpa using h1
          rw [this]; exact fun h2 => h2.1 rfl
    have tailL : ∀ (s7 : Store) (R : Value → Store → Prop), Keeps s5 s7 → (∀ v80 s9, Keeps s7 s9 → SlG s9 1026 v80 ((P ++ [bar]) ++ M).length (histC ((P ++ [bar]) ++ M)) → R v80 s9) → eop (appendV 1026 1040 (.slice none 0 0) v60 s7) fun v78 s79 => eop (appendV 1026 1040 v78 vm s79) R := fun s7 R k57 hR => by
      have hG7 : SlG s7 1026 v60 (P ++ [bar]).length (histC (P ++ [bar])) := hG5.same fun j hj => k57.2 j (hG5.lt j hj)
      obtain ⟨v78, s8, q1, q2, q3, q4, q5⟩ := SlG_appr (by_ := 1040) SlG.nil hG7.r (by omega) (by omega)
      have k78 : Keeps s7 s8 := ⟨q3, fun j hj => q4 j hj (by simp [idsV])⟩
      have hm8 := (keepV s8 ((k15.trans k57).trans k78)).2.2.2
      obtain ⟨v80, s9, r1, r2, r3, r4, r5⟩ := SlG_appr (by_ := 1040) q2 hm8 (by omega) (by omega)
      have k79 : Keeps s7 s9 := ⟨by omega, fun j hj => by
        rw [r4 j (by omega) (fun h => by
          rcases q5 j h with h1 | h1
          · simp [idsV] at h1
          · omega), k78.2 j hj]⟩
      rw [q1, eop_some, r1, eop_some]
      refine hR v80 s9 k79 ?_
      rw [hist_app (P ++ [bar]) M, List.length_append]
      rw [Nat.zero_add, List.nil_append] at r2
      exact r2
    have eop1 : Value.int .u8 2 :: Value.int .i64 0 :: bc zb = opC bar := rfl
    simp -implicitDefEqProofs (maxSteps := 2000000) (disch := first|assumption|omega|rfl|(simp only[RD];done)|(simp only[RD];omega)) only [RN,Int.reduceBEq,Int.reduceBNe,Int.reduceLT,Int.reduceLE,Int.reduceAdd,Int.reduceSub,Int.reduceMul,Nat.reduceAdd,↓bc_flatz,↓bc_flat16,↓agg_bytez, p5_4]
    rw [eop1, ← hb4, a1, eop_some]
    simp -implicitDefEqProofs (maxSteps := 2000000) (disch := first|assumption|omega|rfl|(simp only[RD];done)|(simp only[RD];omega)) only [RN,Int.reduceBEq,Int.reduceBNe,Int.reduceLT,Int.reduceLE,Int.reduceAdd,Int.reduceSub,Int.reduceMul,Nat.reduceAdd,↓bc_flatz,↓bc_flat16,↓agg_bytez, c5, p02, hl60]
    obtain ⟨hv5, _, hw5, hm5⟩ := keepV s5 k15
    unfold p5_3
    by_cases hgood : okIm n L ∧ ∀ o ∈ P, ¬ oddOp n o
    rotate_left
    · -- refused
      have hno : ∀ (X : List OP) (k : Int), ¬ (okIm n L ∧ (∀ o ∈ (P ++ [bar]) ++ X, ¬ oddOp n o) ∧ 0 ≤ k ∧ k ≤ ((P ++ [bar]) ++ X).length) := fun X k h => hgood ⟨h.1, fun o ho => h.2.1 o (List.mem_append_left _ (List.mem_append_left _ ho))⟩
      have hno0 : ∀ k : Int, ¬ (okIm n L ∧ (∀ o ∈ P ++ [bar], ¬ oddOp n o) ∧ 0 ≤ k ∧ k ≤ (P ++ [bar]).length) := fun k h => hgood ⟨h.1, hodd.1 h.2.1⟩
      refine after_ (O := P ++ [bar]) (ks := []) hv5 hl (by omega) hG5.r hlP (by omega) hc60 SlR.nil (by simp) (fun a b c d => absurd ⟨a, b, c, d⟩ (hno0 _)) fun _ s6 k6 => ?_
      obtain ⟨s7, hs7⟩ : ∃ s7, s7 = s6.push (.cells [.int .i64 0, .slice none 0 0] none) := ⟨_, rfl⟩
      have k7 : Keeps s6 s7 := by rw [hs7]; exact (Keeps.refl _).push _
      have k57 := k6.trans k7
      simp -implicitDefEqProofs (maxSteps := 2000000) (disch := first|assumption|omega|rfl|(simp only[RD];done)|(simp only[RD];omega)) only [RN,Int.reduceBEq,Int.reduceBNe,Int.reduceLT,Int.reduceLE,Int.reduceAdd,Int.reduceSub,Int.reduceMul,Nat.reduceAdd,↓bc_flatz,↓bc_flat16,↓agg_bytez, y0, y1, u2, g2']
      rw [← hs7]
      refine tailL _ _ k57 fun v80 s9 k79 hG9 => ?_
      have k59 := k57.trans k79
      have c9 := k59.get c5
      have hl80 := hG9.len
      obtain ⟨hv9, _, hw9, hm9⟩ := keepV s9 (k15.trans k59)
      simp -implicitDefEqProofs (maxSteps := 2000000) (disch := first|assumption|omega|rfl|(simp only[RD];done)|(simp only[RD];omega)) only [RN,Int.reduceBEq,Int.reduceBNe,Int.reduceLT,Int.reduceLE,Int.reduceAdd,Int.reduceSub,Int.reduceMul,Nat.reduceAdd,↓bc_flatz,↓bc_flat16,↓agg_bytez, c9, p02, hl80]
      refine after_ (O := (P ++ [bar]) ++ M) hv9 hl (by omega) hG9.r (fun o ho => by
        rcases List.mem_append.1 ho with h | h
        · exact hlP o h
        · exact hlm o h) (by rw [List.length_append]; omega) (SlG_cap hG9) hw9 (by omega) (fun a b c d => absurd ⟨a, b, c, d⟩ (hno M _)) fun _ s10 k10 => ?_
      obtain ⟨s11, hs11⟩ : ∃ s11, s11 = s10.push (.cells [.int .i64 0, .slice none 0 0] none) := ⟨_, rfl⟩
      have k11 : Keeps s10 s11 := by rw [hs11]; exact (Keeps.refl _).push _
      simp -implicitDefEqProofs (maxSteps := 2000000) (disch := first|assumption|omega|rfl|(simp only[RD];done)|(simp only[RD];omega)) only [RN,Int.reduceBEq,Int.reduceBNe,Int.reduceLT,Int.reduceLE,Int.reduceAdd,Int.reduceSub,Int.reduceMul,Nat.reduceAdd,↓bc_flatz,↓bc_flat16,↓agg_bytez, p5_2, y0, y1, u2, g2']
      rw [← hs11]
      try simp -implicitDefEqProofs (maxSteps := 2000000) (disch := first|assumption|omega|rfl|(simp only[RD];done)|(simp only[RD];omega)) only [RN,Int.reduceBEq,Int.reduceBNe,Int.reduceLT,Int.reduceLE,Int.reduceAdd,Int.reduceSub,Int.reduceMul,Nat.reduceAdd,↓bc_flatz,↓bc_flat16,↓agg_bytez]
      exact hq _ ((k15.trans k59).trans (k10.trans k11))
    obtain ⟨hok, hodP⟩ := hgood
    have hodB := hodd.2 hodP
    have hn1 := hok.1
    have hn20 := hok.2.1
    have hlen0 : (0 : Int) ≤ ((P ++ [bar]).length : Nat) := by omega
    refine after_ (O := P ++ [bar]) (ks := []) hv5 hl (by omega) hG5.r hlP (by omega) hc60 SlR.nil (by simp) (fun _ _ _ _ A v1 s6 hA k6 hA1 _ => ?_) fun h => absurd ⟨hok, hodB, hlen0, Int.le_refl _⟩ h
    rw [Int.toNat_natCast] at hA
    have gA : GoodF n (aftF L (P ++ [bar]) (P ++ [bar]).length []) := aftF_good hok hl hlP hodB (Nat.le_refl _)
    have lA := nb_len gA hA
    have fA := nb_few gA (by omega) hA
    have okA := nb_ok gA hn1 hn20 hA
    obtain ⟨s7, hs7⟩ : ∃ s7, s7 = s6.push (.cells [.int .i64 n, v1] none) := ⟨_, rfl⟩
    have k7 : Keeps s6 s7 := by rw [hs7]; exact (Keeps.refl _).push _
    have e7 : s7.get s6.next = some (.cells [.int .i64 n, v1] none) := by rw [hs7]; exact Store.get_push_same _ _
    have k57 := k6.trans k7
    simp -implicitDefEqProofs (maxSteps := 2000000) (disch := first|assumption|omega|rfl|(simp only[RD];done)|(simp only[RD];omega)) only [RN,Int.reduceBEq,Int.reduceBNe,Int.reduceLT,Int.reduceLE,Int.reduceAdd,Int.reduceSub,Int.reduceMul,Nat.reduceAdd,↓bc_flatz,↓bc_flat16,↓agg_bytez, y0, y1, u2, g2']
    rw [← hs7]
    refine tailL _ _ k57 fun v80 s9 k79 hG9 => ?_
    have k59 := k57.trans k79
    have c9 := k59.get c5
    have e9 := k79.get e7
    have hl80 := hG9.len
    have k19 := k15.trans k59
    obtain ⟨hv9, _, hw9, hm9⟩ := keepV s9 k19
    have hA9 : SlR s9 1025 v1 A.length (waitC A) := (hA1.same fun j hj => (k7.trans k79).2 j (hA1.lt j hj)).r
    have hlPM : ∀ o ∈ (P ++ [bar]) ++ M, o.2.2.length = 1024 := fun o ho => by
      rcases List.mem_append.1 ho with h | h
      · exact hlP o h
      · exact hlm o h
    have hcapM : ((P ++ [bar]) ++ M).length < 2 ^ 40 := by rw [List.length_append]; omega
    have hlen1 : (0 : Int) ≤ (((P ++ [bar]) ++ M).length : Nat) := by omega
    simp -implicitDefEqProofs (maxSteps := 2000000) (disch := first|assumption|omega|rfl|(simp only[RD];done)|(simp only[RD];omega)) only [RN,Int.reduceBEq,Int.reduceBNe,Int.reduceLT,Int.reduceLE,Int.reduceAdd,Int.reduceSub,Int.reduceMul,Nat.reduceAdd,↓bc_flatz,↓bc_flat16,↓agg_bytez, c9, p02, hl80]
    by_cases hodM : ∀ o ∈ M, ¬ oddOp n o
    · have hodPM : ∀ o ∈ (P ++ [bar]) ++ M, ¬ oddOp n o := fun o ho => by
        rcases List.mem_append.1 ho with h | h
        · exact hodB o h
        · exact hodM o h
      refine after_ (O := (P ++ [bar]) ++ M) hv9 hl (by omega) hG9.r hlPM hcapM (SlG_cap hG9) hw9 (by omega) (fun _ _ _ _ W v2 s10 hW k10 hW1 _ => ?_) fun h => absurd ⟨hok, hodPM, hlen1, Int.le_refl _⟩ h
      rw [Int.toNat_natCast] at hW
      have gW : GoodF n (aftF L ((P ++ [bar]) ++ M) ((P ++ [bar]) ++ M).length ks) := aftF_good hok hl hlPM hodPM (Nat.le_refl _)
      have lW := nb_len gW hW
      have fW := nb_few gW (by omega) hW
      have okW := nb_ok gW hn1 hn20 hW
      obtain ⟨s11, hs11⟩ : ∃ s11, s11 = s10.push (.cells [.int .i64 n, v2] none) := ⟨_, rfl⟩
      have k11 : Keeps s10 s11 := by rw [hs11]; exact (Keeps.refl _).push _
      have e11 : s11.get s10.next = some (.cells [.int .i64 n, v2] none) := by rw [hs11]; exact Store.get_push_same _ _
      have k911 := k10.trans k11
      have c11 := k911.get c9
      have d11 := k911.get e9
      have k111 := k19.trans k911
      obtain ⟨hv11, _, hw11, hm11⟩ := keepV s11 k111
      have hA11 := hA9.keeps fun i o h => k911.get h
      have hW11 : SlR s11 1025 v2 W.length (waitC W) := (hW1.same fun j hj => k11.2 j (hW1.lt j hj)).r
      simp -implicitDefEqProofs (maxSteps := 2000000) (disch := first|assumption|omega|rfl|(simp only[RD];done)|(simp only[RD];omega)) only [RN,Int.reduceBEq,Int.reduceBNe,Int.reduceLT,Int.reduceLE,Int.reduceAdd,Int.reduceSub,Int.reduceMul,Nat.reduceAdd,↓bc_flatz,↓bc_flat16,↓agg_bytez, p5_2, y0, y1, u2, g2']
      rw [← hs11]
      simp -implicitDefEqProofs (maxSteps := 2000000) (disch := first|assumption|omega|rfl|(simp only[RD];done)|(simp only[RD];omega)) only [RN,Int.reduceBEq,Int.reduceBNe,Int.reduceLT,Int.reduceLE,Int.reduceAdd,Int.reduceSub,Int.reduceMul,Nat.reduceAdd,↓bc_flatz,↓bc_flat16,↓agg_bytez, d11, g2', hml, c11]
      refine after_ (L := A) (O := M) hA11 lA (by omega) hm11 hlm (by omega) hmc hw11 (by omega) (fun _ _ _ _ B v3 s12 hB k12' hB1 _ => ?_) fun h => absurd ⟨okA, hodM, by omega, Int.le_refl _⟩ h
      rw [Int.toNat_natCast] at hB
      have gB : GoodF n (aftF A M M.length ks) := aftF_good okA lA hlm hodM (Nat.le_refl _)
      have lB := nb_len gB hB
      have fB := nb_few gB (by omega) hB
      have okB := nb_ok gB hn1 hn20 hB
      have hBW : B = W := by
        have e : nbF (aftF A M M.length ks) = nbF (aftF L ((P ++ [bar]) ++ M) ((P ++ [bar]) ++ M).length ks) := by
          rw [List.length_append, aft_cut]
          unfold aftF
          refine nb_open (nb_sure ?_) _
          have h1 : ldF (fun _ => none) A = nbF (aftF L (P ++ [bar]) (P ++ [bar]).length []) := funext fun x => held_ld hA x
          rw [h1, nb_nb, aft_bar]
        rw [e] at hB
        exact hB.uniq hW
      obtain ⟨s13, hs13⟩ : ∃ s13, s13 = s12.push (.cells [.int .i64 n, v3] none) := ⟨_, rfl⟩
      have k13' : Keeps s12 s13 := by rw [hs13]; exact (Keeps.refl _).push _
      have e13 : s13.get s12.next = some (.cells [.int .i64 n, v3] none) := by rw [hs13]; exact Store.get_push_same _ _
      have k1113 := k12'.trans k13'
      have f13 := k1113.get e11
      simp -implicitDefEqProofs (maxSteps := 2000000) (disch := first|assumption|omega|rfl|(simp only[RD];done)|(simp only[RD];omega)) only [RN,Int.reduceBEq,Int.reduceBNe,Int.reduceLT,Int.reduceLE,Int.reduceAdd,Int.reduceSub,Int.reduceMul,Nat.reduceAdd,↓bc_flatz,↓bc_flat16,↓agg_bytez, p5_1, y0, y1, u2, g2']
      rw [← hs13]
      simp -implicitDefEqProofs (maxSteps := 2000000) (disch := first|assumption|omega|rfl|(simp only[RD];done)|(simp only[RD];omega)) only [RN,Int.reduceBEq,Int.reduceBNe,Int.reduceLT,Int.reduceLE,Int.reduceAdd,Int.reduceSub,Int.reduceMul,Nat.reduceAdd,↓bc_flatz,↓bc_flat16,↓agg_bytez, e13, f13, g2']
      refine psame_ ((hB1.same fun j hj => k13'.2 j (hB1.lt j hj)).r) lB (by omega) (hW11.keeps fun i o h => k1113.get h) lW (by omega) (fun _ _ _ _ s14 k14 => ?_) fun h => absurd ⟨okB, okW, rfl, hBW⟩ h
      try simp -implicitDefEqProofs (maxSteps := 2000000) (disch := first|assumption|omega|rfl|(simp only[RD];done)|(simp only[RD];omega)) only [RN,Int.reduceBEq,Int.reduceBNe,Int.reduceLT,Int.reduceLE,Int.reduceAdd,Int.reduceSub,Int.reduceMul,Nat.reduceAdd,↓bc_flatz,↓bc_flat16,↓agg_bytez]
      exact hq _ ((k111.trans k1113).trans k14)
    · refine after_ (O := (P ++ [bar]) ++ M) hv9 hl (by omega) hG9.r hlPM hcapM (SlG_cap hG9) hw9 (by omega) (fun _ b _ _ => absurd (fun o ho => b o (List.mem_append_right _ ho)) hodM) fun _ s10 k10 => ?_
      obtain ⟨s11, hs11⟩ : ∃ s11, s11 = s10.push (.cells [.int .i64 0, .slice none 0 0] none) := ⟨_, rfl⟩
      have k11 : Keeps s10 s11 := by rw [hs11]; exact (Keeps.refl _).push _
      have k911 := k10.trans k11
      have c11 := k911.get c9
      have d11 := k911.get e9
      have k111 := k19.trans k911
      obtain ⟨hv11, _, hw11, hm11⟩ := keepV s11 k111
      have hA11 := hA9.keeps fun i o h => k911.get h
      simp -implicitDefEqProofs (maxSteps := 2000000) (disch := first|assumption|omega|rfl|(simp only[RD];done)|(simp only[RD];omega)) only [RN,Int.reduceBEq,Int.reduceBNe,Int.reduceLT,Int.reduceLE,Int.reduceAdd,Int.reduceSub,Int.reduceMul,Nat.reduceAdd,↓bc_flatz,↓bc_flat16,↓agg_bytez, p5_2, y0, y1, u2, g2']
      rw [← hs11]
      simp -implicitDefEqProofs (maxSteps := 2000000) (disch := first|assumption|omega|rfl|(simp only[RD];done)|(simp only[RD];omega)) only [RN,Int.reduceBEq,Int.reduceBNe,Int.reduceLT,Int.reduceLE,Int.reduceAdd,Int.reduceSub,Int.reduceMul,Nat.reduceAdd,↓bc_flatz,↓bc_flat16,↓agg_bytez, d11, g2', hml, c11]
      refine after_ (L := A) (O := M) hA11 lA (by omega) hm11 hlm (by omega) hmc hw11 (by omega) (fun _ b _ _ => absurd b hodM) fun _ s12 k12' => ?_
      obtain ⟨s13, hs13⟩ : ∃ s13, s13 = s12.push (.cells [.int .i64 0, .slice none 0 0] none) := ⟨_, rfl⟩
      have k13' : Keeps s12 s13 := by rw [hs13]; exact (Keeps.refl _).push _
      simp -implicitDefEqProofs (maxSteps := 2000000) (disch := first|assumption|omega|rfl|(simp only[RD];done)|(simp only[RD];omega)) only [RN,Int.reduceBEq,Int.reduceBNe,Int.reduceLT,Int.reduceLE,Int.reduceAdd,Int.reduceSub,Int.reduceMul,Nat.reduceAdd,↓bc_flatz,↓bc_flat16,↓agg_bytez, p5_1, y0, y1, u2, g2']
      rw [← hs13]
      try simp -implicitDefEqProofs (maxSteps := 2000000) (disch := first|assumption|omega|rfl|(simp only[RD];done)|(simp only[RD];omega)) only [RN,Int.reduceBEq,Int.reduceBNe,Int.reduceLT,Int.reduceLE,Int.reduceAdd,Int.reduceSub,Int.reduceMul,Nat.reduceAdd,↓bc_flatz,↓bc_flat16,↓agg_bytez]
      exact hq _ (k111.trans (k12'.trans k13'))
  by_cases h5 : (i : Int) < (O.length : Nat)
  · simp -implicitDefEqProofs (maxSteps := 2000000) (disch := first|assumption|omega|rfl|(simp only[RD];done)|(simp only[RD];omega)) only [RN,Int.reduceBEq,Int.reduceBNe,Int.reduceLT,Int.reduceLE,Int.reduceAdd,Int.reduceSub,Int.reduceMul,Nat.reduceAdd,↓bc_flatz,↓bc_flat16,↓agg_bytez, ct, hul, decide_eq_true h5]
    refine pick_ (by decide) (by decide) ?_
    by_cases h6 : (i : Int) < k % 121
    · have h7 : i < O.length := by omega
      obtain ⟨o, ho⟩ : ∃ o, O[i]? = some o := ⟨_, List.getElem?_eq_getElem h7⟩
      obtain ⟨c, a, b⟩ := o
      have hb : b.length = 1024 := hlo (c, a, b) (List.mem_of_getElem? ho)
      obtain ⟨ib, ob, o1, _, _, _, o2⟩ := op_at hut hlo ho
      obtain ⟨s4, hs4⟩ : ∃ s4, s4 = t.push (.cells (opC (c, a, b)) none) := ⟨_, rfl⟩
      have k4 : Keeps t s4 := by rw [hs4]; exact (Keeps.refl _).push _
      have n4 : s4.next = t.next + 1 := by rw [hs4, Store.next_push]
      have hS4 := hS.same fun j hj => k4.2 j (hS.lt j hj)
      obtain ⟨s5, a1, a2, a3, a4⟩ := SlG.app (σ := s4) (sz := 1026) (j := t.next) (k := 1) (gj := none) (by_ := 1040) hS4 (by rw [hs4]; exact Store.get_push_same _ _) (opC_len hb) (by omega) (by omega) (by decide)
      have l26 : (Value.int .u8 c :: Value.int .i64 a :: bc b).length = 1026 := by simp [hb]
      have eop : Value.int .u8 c :: Value.int .i64 a :: bc b = opC (c, a, b) := rfl
      simp -implicitDefEqProofs (maxSteps := 2000000) (disch := first|assumption|omega|rfl|(simp only[RD];done)|(simp only[RD];omega)) only [RN,Int.reduceBEq,Int.reduceBNe,Int.reduceLT,Int.reduceLE,Int.reduceAdd,Int.reduceSub,Int.reduceMul,Nat.reduceAdd,↓bc_flatz,↓bc_flat16,↓agg_bytez, decide_eq_true h6, p5_4, ct, o1, o2, l26]
      rw [eop, ← hs4, a1, eop_some]
      try simp -implicitDefEqProofs (maxSteps := 2000000) (disch := first|assumption|omega|rfl|(simp only[RD];done)|(simp only[RD];omega)) only [RN,Int.reduceBEq,Int.reduceBNe,Int.reduceLT,Int.reduceLE,Int.reduceAdd,Int.reduceSub,Int.reduceMul,Nat.reduceAdd,↓bc_flatz,↓bc_flat16,↓agg_bytez]
      have ht1 : O.take (i + 1) = O.take i ++ [(c, a, b)] := by rw [List.take_succ, ho]; rfl
      refine hnx _ _ _ (by omega) ⟨i + 1, by omega, congrArg (Value.int .i64) (by omega), ?_, fun j hj => ?_, ⟨by have := kt.1; omega, fun j hj => ?_⟩⟩
      · rw [ht1, hist_app, List.length_append, List.length_singleton]
        have : histC [(c, a, b)] = opC (c, a, b) := by rw [histC_cons]; simp [histC]
        rw [this]; exact a2
      · have : j = s4.next := by simpa [idsV] using hj
        have := kt.1; omega
      · have := kt.1
        rw [a4 j (by omega) (fun h => by have := hyi j h; omega), k4.2 j (by omega), kt.2 j hj]
    · simp -implicitDefEqProofs (maxSteps := 2000000) (disch := first|assumption|omega|rfl|(simp only[RD];done)|(simp only[RD];omega)) only [RN,Int.reduceBEq,Int.reduceBNe,Int.reduceLT,Int.reduceLE,Int.reduceAdd,Int.reduceSub,Int.reduceMul,Nat.reduceAdd,↓bc_flatz,↓bc_flat16,↓agg_bytez, decide_eq_false h6]
      exact body
  · simp -implicitDefEqProofs (maxSteps := 2000000) (disch := first|assumption|omega|rfl|(simp only[RD];done)|(simp only[RD];omega)) only [RN,Int.reduceBEq,Int.reduceBNe,Int.reduceLT,Int.reduceLE,Int.reduceAdd,Int.reduceSub,Int.reduceMul,Nat.reduceAdd,↓bc_flatz,↓bc_flat16,↓agg_bytez, ct, hul, decide_eq_false h5]
    exact body
end Go.Proofs.Ytncdcjebanhcpaa
