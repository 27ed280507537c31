/- The law's examples: lives. -/
import Derived.Test.YthojojlgmaoecaaGreatLp5
set_option linter.all false
set_option maxRecDepth 100000
set_option maxHeartbeats 1600000
namespace Go.Proofs.YthojojlgmaoecaaGreat
open Go.Am
variable {σ : Store} {Q : Value → Store → Prop}
theorem flatO5 (A B C : List Int) : (Value.int .u8 1 :: Value.int .i64 1 :: (bc A ++ Value.int .u8 2 :: Value.int .i64 0 :: (bc zb ++ Value.int .u8 1 :: Value.int .i64 1 :: (bc B ++ Value.int .u8 1 :: Value.int .i64 2 :: (bc C ++ Value.int .u8 1 :: Value.int .i64 1 :: bc A))))) = histC (O5 A B C) := by
  simp [histC, O5]
theorem hist_len {O : List OP} (h : ∀ o ∈ O, o.2.2.length = 1024) : (histC O).length = O.length * 1026 := by
  induction O with
  | nil => simp [histC]
  | cons o O ih =>
    rw [histC_cons, List.length_append, opC_len (h o (List.mem_cons_self ..)), ih fun p hp => h p (List.mem_cons_of_mem _ hp), List.length_cons]
    omega
theorem eqH {x y : Int} {b c : List Int} (hb : b.length = 1024) (hc : c.length = 1024) : eqA keyD false (.agg ⟨.int .i64 x :: bc b⟩) (.agg ⟨.int .i64 y :: bc c⟩) = some (.bool (decide (x = y ∧ b = c))) := by
  have e1 : (bc b).take 1024 = bc b := List.take_of_length_le (by rw [bc_len]; omega)
  have e2 : (bc c).take 1024 = bc c := List.take_of_length_le (by rw [bc_len]; omega)
  have e3 := eqInts_bc 1024 b c hb hc
  have e4 : (x == y && decide (b = c)) = decide (x = y ∧ b = c) := by
    by_cases h : x = y <;> simp [h]
  simp [eqA, eqD, eqDs, eqLeaf, eq1, e1, e2, e3, e4]
theorem held_whole {L : List HB} {v : Value} {x : Int} {b : List Int} {j : Nat} (hv : SlR σ 1025 v L.length (waitC L)) (hl : ∀ p ∈ L, p.2.length = 1024) (hp : L[j]? = some (x, b)) : ∃ i o, iaddrS 1025 v (.int .i64 (j : Nat)) = some (.pointer (some ⟨i, o, none⟩)) ∧ i < σ.next ∧ rdPart (σ.get i) o 1025 = some (.agg ⟨.int .i64 x :: bc b⟩) := by
  obtain ⟨i, o, q1, q2, q3, _⟩ := hv.at (by omega) (List.getElem?_eq_some_iff.1 hp).1
  rw [waitC_at hl hp] at q3
  exact ⟨i, o, q1 .i64, q2, q3⟩
/-- A block of a slice of blocks, where it lies. -/
theorem blk_at2 {v : Value} {l : List (List Int)} {b : List Int} (hv : SlR σ 1024 v l.length (bc l.flatten)) (hl : ∀ c ∈ l, c.length = 1024) {j : Nat} (hb : l[j]? = some b) : ∃ i o, iaddrS 1024 v (.int .i64 (j : Nat)) = some (.pointer (some ⟨i, o, none⟩)) ∧ i < σ.next ∧ rdPart (σ.get i) o 1024 = some (.agg ⟨bc b⟩) := by
  obtain ⟨i, o, h1, h2⟩ := blk_at hv hl hb
  refine ⟨i, o, h1, ?_, h2⟩
  cases hg : σ.get i with
  | none => rw [hg] at h2; cases h2
  | some x => exact Store.lt_of_get hg
theorem lives_ (hq : ∀ st, Keeps σ st → Q (.bool true) st) : Does Tryz.prog 4 [] σ Q := by
  refine d4 ?_
  have z1 := zb_len
  have u2 : unrle [(1, Value.int .i64 0), (1, .slice none 0 0)] = [.int .i64 0, .slice none 0 0] := rfl
  have u3 : aggOf (buildL [unrle [(1, Value.int .i64 0)], unrle [(1, Value.slice none 0 0)]] [(0, Value.int .i64 4)]) = some (.agg ⟨[.int .i64 4, .slice none 0 0]⟩) := rfl
  have u4 : aggOf (buildL [unrle [(1, Value.int .i64 0)], unrle [(1, Value.slice none 0 0)]] []) = some (.agg ⟨[.int .i64 0, .slice none 0 0]⟩) := rfl
  have g2' : ∀ (n : Int) (v : Value), ([.int .i64 n, v] : List Value).length = 2 := fun _ _ => rfl
  have y0 : ∀ a b, extractV (.tuple #[a, b]) 0 = some a := fun _ _ => rfl
  have y1 : ∀ a b, extractV (.tuple #[a, b]) 1 = some b := fun _ _ => rfl
  obtain ⟨s1, hs1⟩ : ∃ s1, s1 = σ.push (.cells [.int .i64 4, .slice none 0 0] none) := ⟨_, rfl⟩
  have k1 : Keeps σ s1 := by rw [hs1]; exact (Keeps.refl _).push _
  have c1 : s1.get σ.next = some (.cells [.int .i64 4, .slice none 0 0] none) := by rw [hs1]; exact Store.get_push_same _ _
  simp -implicitDefEqProofs (maxSteps := 2000000) (disch := first|assumption|omega|rfl|(simp only[RD];done)|(simp only[RD];omega)) only [RN,Int.reduceBEq,Int.reduceBNe,Int.reduceLT,Int.reduceLE,Int.reduceAdd,Int.reduceSub,Int.reduceMul,Nat.reduceAdd,↓bc_flatz,↓bc_flat16,↓agg_bytez, p4, u2, ↓u3, g2']
  rw [← hs1]
  obtain ⟨A, hA⟩ : ∃ A, A = ltr 1 := ⟨_, rfl⟩
  obtain ⟨B, hB⟩ : ∃ B, B = ltr 2 := ⟨_, rfl⟩
  obtain ⟨C, hC⟩ : ∃ C, C = ltr 3 := ⟨_, rfl⟩
  have lA : A.length = 1024 := by rw [hA]; exact ltr_len
  have lB : B.length = 1024 := by rw [hB]; exact ltr_len
  have lC : C.length = 1024 := by rw [hC]; exact ltr_len
  refine letter_ fun s2 k2 => ?_
  rw [← hA]
  unfold bv
  simp -implicitDefEqProofs (maxSteps := 2000000) (disch := first|assumption|omega|rfl|(simp only[RD];done)|(simp only[RD];omega)) only [RN,Int.reduceBEq,Int.reduceBNe,Int.reduceLT,Int.reduceLE,Int.reduceAdd,Int.reduceSub,Int.reduceMul,Nat.reduceAdd,↓bc_flatz,↓bc_flat16,↓agg_bytez, lA]
  refine letter_ fun s3 k3 => ?_
  rw [← hB]
  unfold bv
  simp -implicitDefEqProofs (maxSteps := 2000000) (disch := first|assumption|omega|rfl|(simp only[RD];done)|(simp only[RD];omega)) only [RN,Int.reduceBEq,Int.reduceBNe,Int.reduceLT,Int.reduceLE,Int.reduceAdd,Int.reduceSub,Int.reduceMul,Nat.reduceAdd,↓bc_flatz,↓bc_flat16,↓agg_bytez, lB]
  refine letter_ fun s4 k4 => ?_
  rw [← hC]
  unfold bv
  simp -implicitDefEqProofs (maxSteps := 2000000) (disch := first|assumption|omega|rfl|(simp only[RD];done)|(simp only[RD];omega)) only [RN,Int.reduceBEq,Int.reduceBNe,Int.reduceLT,Int.reduceLE,Int.reduceAdd,Int.reduceSub,Int.reduceMul,Nat.reduceAdd,↓bc_flatz,↓bc_flat16,↓agg_bytez, p4_5, lC]
  refine letter_ fun s5 k5 => ?_
  rw [← hA]
  unfold bv
  have c5 := k5.get (k4.get (k3.get (k2.get c1)))
  have eO := flatO5 A B C
  obtain ⟨s6, hs6⟩ : ∃ s6, s6 = s5.push (.cells (histC (O5 A B C)) none) := ⟨_, rfl⟩
  have k6 : Keeps s5 s6 := by rw [hs6]; exact (Keeps.refl _).push _
  have b6 : s6.get s5.next = some (.cells (histC (O5 A B C)) none) := by rw [hs6]; exact Store.get_push_same _ _
  have c6 := k6.get c5
  obtain ⟨s7, hs7⟩ : ∃ s7, s7 = s6.push (.cells [.bool true] none) := ⟨_, rfl⟩
  have k7 : Keeps s6 s7 := by rw [hs7]; exact (Keeps.refl _).push _
  have b7 : s7.get s6.next = some (.cells [.bool true] none) := by rw [hs7]; exact Store.get_push_same _ _
  have c7 := k7.get c6
  have k07 : Keeps s1 s7 := ((((k2.trans k3).trans k4).trans k5).trans k6).trans k7
  have hol := ol5 lA lB lC
  have hu7 : SlR s7 1026 (.slice (some ⟨s5.next, 0, none⟩) 5 5) (O5 A B C).length (histC (O5 A B C)) := SlR.new (.inl rfl) (k7.get b6) (by rw [hist_len hol]; rfl)
  have huc : CapOk (.slice (some ⟨s5.next, 0, none⟩) 5 5) := fun p n k h => by cases h; exact Nat.le_refl _
  have hw7 : SlR s7 1 (.slice (some ⟨s6.next, 0, none⟩) 1 1) ([true] : List Bool).length (bC [true]) := SlR.new (.inl rfl) b7 rfl
  simp -implicitDefEqProofs (maxSteps := 2000000) (disch := first|assumption|omega|rfl|(simp only[RD];done)|(simp only[RD];omega)) only [RN,Int.reduceBEq,Int.reduceBNe,Int.reduceLT,Int.reduceLE,Int.reduceAdd,Int.reduceSub,Int.reduceMul,Nat.reduceAdd,↓bc_flatz,↓bc_flat16,↓agg_bytez, lA, lB, lC]
  rw [eO, ← hs6]
  simp -implicitDefEqProofs (maxSteps := 2000000) (disch := first|assumption|omega|rfl|(simp only[RD];done)|(simp only[RD];omega)) only [RN,Int.reduceBEq,Int.reduceBNe,Int.reduceLT,Int.reduceLE,Int.reduceAdd,Int.reduceSub,Int.reduceMul,Nat.reduceAdd,↓bc_flatz,↓bc_flat16,↓agg_bytez, c6, g2']
  rw [← hs7]
  refine after_ (L := []) (ks := [true]) (n := 4) (O := O5 A B C) SlR.nil (fun p hp => by cases hp) (by simp) hu7 hol (by simp [O5]) huc hw7 (by simp) (fun _ _ _ _ D va st hD k8 hva hvi => ?_) fun h => absurd ⟨ok4, od4, by decide, by simp [O5]⟩ h
  obtain rfl := hD.uniq (nb5 (by rw [hB]; exact ltr_nz (by decide)))
  have c8 := k8.get c7
  obtain ⟨s9, hs9⟩ : ∃ s9, s9 = st.push (.cells [.int .i64 4, va] none) := ⟨_, rfl⟩
  have k9 : Keeps st s9 := by rw [hs9]; exact (Keeps.refl _).push _
  have e9 : s9.get st.next = some (.cells [.int .i64 4, va] none) := by rw [hs9]; exact Store.get_push_same _ _
  have c9 := k9.get c8
  have k79 := k8.trans k9
  simp -implicitDefEqProofs (maxSteps := 2000000) (disch := first|assumption|omega|rfl|(simp only[RD];done)|(simp only[RD];omega)) only [RN,Int.reduceBEq,Int.reduceBNe,Int.reduceLT,Int.reduceLE,Int.reduceAdd,Int.reduceSub,Int.reduceMul,Nat.reduceAdd,↓bc_flatz,↓bc_flat16,↓agg_bytez, y0, y1, u2, g2', p4_4]
  rw [← hs9]
  simp -implicitDefEqProofs (maxSteps := 2000000) (disch := first|assumption|omega|rfl|(simp only[RD];done)|(simp only[RD];omega)) only [RN,Int.reduceBEq,Int.reduceBNe,Int.reduceLT,Int.reduceLE,Int.reduceAdd,Int.reduceSub,Int.reduceMul,Nat.reduceAdd,↓bc_flatz,↓bc_flat16,↓agg_bytez, c9, g2']
  refine block_ (L := []) (n := 4) (O := O5 A B C) SlR.nil (fun p hp => by cases hp) (by simp) (hu7.keeps fun i o h => k79.get h) hol (by simp [O5]) huc (fun _ _ _ _ _ _ vl s10 k10 hvl hvll hvli => ?_) fun h => absurd ⟨ok4, od4, by decide, by simp [O5], by decide, by decide⟩ h
  have nAB : A ≠ B := by rw [hA, hB]; exact ltr_ne (by decide)
  rw [show ((5 : Int).toNat) = 5 from rfl, bk51 nAB] at hvl
  have k710 := k79.trans k10
  simp -implicitDefEqProofs (maxSteps := 2000000) (disch := first|assumption|omega|rfl|(simp only[RD];done)|(simp only[RD];omega)) only [RN,Int.reduceBEq,Int.reduceBNe,Int.reduceLT,Int.reduceLE,Int.reduceAdd,Int.reduceSub,Int.reduceMul,Nat.reduceAdd,↓bc_flatz,↓bc_flat16,↓agg_bytez, y0, y1]
  refine ppending_ (O := O5 A B C) (hu7.keeps fun i o h => k710.get h) hol (by simp [O5]) (by simp [O5]) fun s11 z k11 hz hzi => ?_
  rw [show ((5 : Int).toNat) = 5 from rfl, pe5] at hz
  have k911 := k10.trans k11
  have e11 := k911.get e9
  have c11 := k911.get c9
  have hva11 : SlG s11 1025 va ([(1, B)] : List HB).length (waitC [(1, B)]) := (hva.same fun j hj => k9.2 j (hva.lt j hj)).same fun j hj => k911.2 j (by have := hva.lt j hj; have := k9.1; omega)
  have hvl11 : SlG s11 1024 vl [A, B].length (bc [A, B].flatten) := hvl.same fun j hj => k11.2 j (hvl.lt j hj)
  have hval : lenSl va = some (.int .i64 1) := hva11.len
  have hvll : lenSl vl = some (.int .i64 2) := hvl11.len
  have l1 : ∀ p ∈ ([(1, B)] : List HB), p.2.length = 1024 := fun p hp => by
    have : p = (1, B) := by simpa using hp
    rw [this]; exact lB
  have l2 : ∀ c ∈ [A, B], c.length = 1024 := fun c hc => by
    rcases List.mem_cons.1 hc with rfl | hc
    · exact lA
    · have : c = B := by simpa using hc
      rw [this]; exact lB
  simp -implicitDefEqProofs (maxSteps := 2000000) (disch := first|assumption|omega|rfl|(simp only[RD];done)|(simp only[RD];omega)) only [RN,Int.reduceBEq,Int.reduceBNe,Int.reduceLT,Int.reduceLE,Int.reduceAdd,Int.reduceSub,Int.reduceMul,Nat.reduceAdd,↓bc_flatz,↓bc_flat16,↓agg_bytez, e11, hval]
  refine letter_ fun s12 k12 => ?_
  rw [← hB]
  unfold bv
  have e12 := k12.get e11
  obtain ⟨i1, o1, w1, w2, w3⟩ := held_whole (j := 0) hva11.r l1 rfl
  have w1 : iaddrS 1025 va (.int .i64 0) = some (.pointer (some ⟨i1, o1, none⟩)) := w1
  have w4 : rdPart (s12.get i1) o1 1025 = some (.agg ⟨.int .i64 1 :: bc B⟩) := by rw [k12.2 i1 w2, w3]
  have eB : eqA keyD false (.agg ⟨.int .i64 1 :: bc B⟩) (.agg ⟨.int .i64 1 :: bc B⟩) = some (.bool true) := by rw [eqH lB lB]; simp
  simp -implicitDefEqProofs (maxSteps := 2000000) (disch := first|assumption|omega|rfl|(simp only[RD];done)|(simp only[RD];omega)) only [RN,Int.reduceBEq,Int.reduceBNe,Int.reduceLT,Int.reduceLE,Int.reduceAdd,Int.reduceSub,Int.reduceMul,Nat.reduceAdd,↓bc_flatz,↓bc_flat16,↓agg_bytez, p4_3, e12, e11, w1, w3, w4, eB, hvll, p4_2]
  refine letter_ fun s13 k13 => ?_
  rw [← hA]
  unfold bv
  obtain ⟨i2, o2, v1, v2, v3⟩ := blk_at2 (j := 0) hvl11.r l2 rfl
  have v1 : iaddrS 1024 vl (.int .i64 0) = some (.pointer (some ⟨i2, o2, none⟩)) := v1
  have v4 : rdPart (s12.get i2) o2 1024 = some (.agg ⟨bc A⟩) := by rw [k12.2 i2 v2, v3]
  have n12 := k12.1
  have v5 : rdPart (s13.get i2) o2 1024 = some (.agg ⟨bc A⟩) := by rw [k13.2 i2 (by omega), v4]
  have eA : eqA (.ints .u8 1024) false (.agg ⟨bc A⟩) (.agg ⟨bc A⟩) = some (.bool true) := by rw [eqA_bc false lA lA]; simp
  have eB2 : eqA (.ints .u8 1024) false (.agg ⟨bc B⟩) (.agg ⟨bc B⟩) = some (.bool true) := by rw [eqA_bc false lB lB]; simp
  simp -implicitDefEqProofs (maxSteps := 2000000) (disch := first|assumption|omega|rfl|(simp only[RD];done)|(simp only[RD];omega)) only [RN,Int.reduceBEq,Int.reduceBNe,Int.reduceLT,Int.reduceLE,Int.reduceAdd,Int.reduceSub,Int.reduceMul,Nat.reduceAdd,↓bc_flatz,↓bc_flat16,↓agg_bytez, v1, v4, v5, eA]
  refine letter_ fun s14 k14 => ?_
  rw [← hB]
  unfold bv
  obtain ⟨i3, o3, u1, u2', u3'⟩ := blk_at2 (j := 1) hvl11.r l2 rfl
  have u1 : iaddrS 1024 vl (.int .i64 1) = some (.pointer (some ⟨i3, o3, none⟩)) := u1
  have n13 := k13.1
  have u5 : rdPart (s13.get i3) o3 1024 = some (.agg ⟨bc B⟩) := by rw [k13.2 i3 (by omega), k12.2 i3 u2', u3']
  have u6 : rdPart (s14.get i3) o3 1024 = some (.agg ⟨bc B⟩) := by rw [k14.2 i3 (by omega), u5]
  obtain ⟨s15, hs15⟩ : ∃ s15, s15 = s14.push (.cells [.int .i64 2, .int .i64 3, .int .i64 4] none) := ⟨_, rfl⟩
  have k15 : Keeps s14 s15 := by rw [hs15]; exact (Keeps.refl _).push _
  have e15 : s15.get s14.next = some (.cells [.int .i64 2, .int .i64 3, .int .i64 4] none) := by rw [hs15]; exact Store.get_push_same _ _
  simp -implicitDefEqProofs (maxSteps := 2000000) (disch := first|assumption|omega|rfl|(simp only[RD];done)|(simp only[RD];omega)) only [RN,Int.reduceBEq,Int.reduceBNe,Int.reduceLT,Int.reduceLE,Int.reduceAdd,Int.reduceSub,Int.reduceMul,Nat.reduceAdd,↓bc_flatz,↓bc_flat16,↓agg_bytez, u1, u5, u6, eB2, p4_1]
  rw [← hs15]
  have k1115 := ((k12.trans k13).trans k14).trans k15
  have hz15 : SlR s15 1 z ([2, 3, 4] : List Int).length (iC [2, 3, 4]) := (hz.same fun j hj => k1115.2 j (hz.lt j hj)).r
  have h15 : SlR s15 1 (.slice (some ⟨s14.next, 0, none⟩) 3 3) ([2, 3, 4] : List Int).length (iC [2, 3, 4]) := SlR.new (.inl rfl) e15 rfl
  refine sameints_ hz15 h15 (by simp) ?_
  have c15 := k1115.get c11
  simp -implicitDefEqProofs (maxSteps := 2000000) (disch := first|assumption|omega|rfl|(simp only[RD];done)|(simp only[RD];omega)) only [RN,Int.reduceBEq,Int.reduceBNe,Int.reduceLT,Int.reduceLE,Int.reduceAdd,Int.reduceSub,Int.reduceMul,Nat.reduceAdd,↓bc_flatz,↓bc_flat16,↓agg_bytez, c15, g2']
  refine pwhole_ (n := 4) (L := []) SlR.nil (fun p hp => by cases hp) (by simp) (fun _ s16 k16 => ?_) fun h => absurd ok4 h
  simp -implicitDefEqProofs (maxSteps := 2000000) (disch := first|assumption|omega|rfl|(simp only[RD];done)|(simp only[RD];omega)) only [RN,Int.reduceBEq,Int.reduceBNe,Int.reduceLT,Int.reduceLE,Int.reduceAdd,Int.reduceSub,Int.reduceMul,Nat.reduceAdd,↓bc_flatz,↓bc_flat16,↓agg_bytez, ↓u4]
  refine pwhole_ (n := 0) (L := []) SlR.nil (fun p hp => by cases hp) (by simp) (fun h => absurd h.1 (by decide)) fun _ s17 k17 => ?_
  simp -implicitDefEqProofs (maxSteps := 2000000) (disch := first|assumption|omega|rfl|(simp only[RD];done)|(simp only[RD];omega)) only [RN,Int.reduceBEq,Int.reduceBNe,Int.reduceLT,Int.reduceLE,Int.reduceAdd,Int.reduceSub,Int.reduceMul,Nat.reduceAdd,↓bc_flatz,↓bc_flat16,↓agg_bytez]
  exact hq _ (k1.trans (k07.trans (k79.trans (k911.trans (k1115.trans (k16.trans k17))))))
end Go.Proofs.YthojojlgmaoecaaGreat
