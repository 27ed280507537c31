/- PastNames, walked. -/
import Derived.Test.YtncdcjebanhcpaaLv5
set_option linter.all false
set_option maxRecDepth 100000
set_option maxHeartbeats 1600000
namespace Go.Proofs.Ytncdcjebanhcpaa
open Go.Am
variable {σ : Store} {Q : Value → Store → Prop}
theorem pastnames_ (hq : ∀ st, Keeps σ st → Q (.bool true) st) : Does Try.prog 3 [] σ Q := by
  refine d3 ?_
  have z1 := zb_len
  have u2 : unrle [(1, Value.int .i64 0), (1, .slice none 0 0)] = [.int .i64 0, .slice none 0 0] := rfl
  have u3 : aggOf (buildL [unrle [(1, Value.int .i64 0)], unrle [(1, Value.slice none 0 0)]] [(0, Value.int .i64 4)]) = some (.agg ⟨[.int .i64 4, .slice none 0 0]⟩) := rfl
  have u4 : aggOf (buildL [unrle [(1, Value.int .i64 0)], unrle [(1, Value.slice none 0 0)]] []) = some (.agg ⟨[.int .i64 0, .slice none 0 0]⟩) := rfl
  have g2' : ∀ (n : Int) (v : Value), ([.int .i64 n, v] : List Value).length = 2 := fun _ _ => rfl
  have y0 : ∀ a b, extractV (.tuple #[a, b]) 0 = some a := fun _ _ => rfl
  have y1 : ∀ a b, extractV (.tuple #[a, b]) 1 = some b := fun _ _ => rfl
  obtain ⟨s1, hs1⟩ : ∃ s1, s1 = σ.push (.cells [.int .i64 4, .slice none 0 0] none) := ⟨_, rfl⟩
  have k1 : Keeps σ s1 := by rw [hs1]; exact (Keeps.refl _).push _
  have c1 : s1.get σ.next = some (.cells [.int .i64 4, .slice none 0 0] none) := by rw [hs1]; exact Store.get_push_same _ _
  simp -implicitDefEqProofs (maxSteps := 2000000) (disch := first|assumption|omega|rfl|(simp only[RD];done)|(simp only[RD];omega)) only [RN,Int.reduceBEq,Int.reduceBNe,Int.reduceLT,Int.reduceLE,Int.reduceAdd,Int.reduceSub,Int.reduceMul,Nat.reduceAdd,↓bc_flatz,↓bc_flat16,↓agg_bytez, p3, u2, ↓u3, g2']
  rw [← hs1]
  obtain ⟨A, hA⟩ : ∃ A, A = ltr 1 := ⟨_, rfl⟩
  obtain ⟨B, hB⟩ : ∃ B, B = ltr 2 := ⟨_, rfl⟩
  obtain ⟨C, hC⟩ : ∃ C, C = ltr 3 := ⟨_, rfl⟩
  have lA : A.length = 1024 := by rw [hA]; exact ltr_len
  have lB : B.length = 1024 := by rw [hB]; exact ltr_len
  have lC : C.length = 1024 := by rw [hC]; exact ltr_len
  have zA : A ≠ zb := by rw [hA]; exact ltr_nz (by decide)
  have zC : C ≠ zb := by rw [hC]; exact ltr_nz (by decide)
  refine letter_ fun s2 k2 => ?_
  rw [← hA]
  unfold bv
  simp -implicitDefEqProofs (maxSteps := 2000000) (disch := first|assumption|omega|rfl|(simp only[RD];done)|(simp only[RD];omega)) only [RN,Int.reduceBEq,Int.reduceBNe,Int.reduceLT,Int.reduceLE,Int.reduceAdd,Int.reduceSub,Int.reduceMul,Nat.reduceAdd,↓bc_flatz,↓bc_flat16,↓agg_bytez, p3_10, lA]
  refine letter_ fun s3 k3 => ?_
  rw [← hB]
  unfold bv
  simp -implicitDefEqProofs (maxSteps := 2000000) (disch := first|assumption|omega|rfl|(simp only[RD];done)|(simp only[RD];omega)) only [RN,Int.reduceBEq,Int.reduceBNe,Int.reduceLT,Int.reduceLE,Int.reduceAdd,Int.reduceSub,Int.reduceMul,Nat.reduceAdd,↓bc_flatz,↓bc_flat16,↓agg_bytez, lB]
  refine letter_ fun s4 k4 => ?_
  rw [← hC]
  unfold bv
  simp -implicitDefEqProofs (maxSteps := 2000000) (disch := first|assumption|omega|rfl|(simp only[RD];done)|(simp only[RD];omega)) only [RN,Int.reduceBEq,Int.reduceBNe,Int.reduceLT,Int.reduceLE,Int.reduceAdd,Int.reduceSub,Int.reduceMul,Nat.reduceAdd,↓bc_flatz,↓bc_flat16,↓agg_bytez, lC]
  refine letter_ fun s5 k5 => ?_
  rw [← hA]
  unfold bv
  have c5 := k5.get (k4.get (k3.get (k2.get c1)))
  have eO := flatO5 A B C
  obtain ⟨s6, hs6⟩ : ∃ s6, s6 = s5.push (.cells (histC (O5 A B C)) none) := ⟨_, rfl⟩
  have k6 : Keeps s5 s6 := by rw [hs6]; exact (Keeps.refl _).push _
  have b6 : s6.get s5.next = some (.cells (histC (O5 A B C)) none) := by rw [hs6]; exact Store.get_push_same _ _
  have c6 := k6.get c5
  obtain ⟨s7, hs7⟩ : ∃ s7, s7 = s6.push (.cells [.bool false, .bool true] none) := ⟨_, rfl⟩
  have k7 : Keeps s6 s7 := by rw [hs7]; exact (Keeps.refl _).push _
  have b7 : s7.get s6.next = some (.cells [.bool false, .bool true] none) := by rw [hs7]; exact Store.get_push_same _ _
  have c7 := k7.get c6
  have k07 : Keeps s1 s7 := ((((k2.trans k3).trans k4).trans k5).trans k6).trans k7
  have hol := ol5 lA lB lC
  have hu7 : SlR s7 1026 (.slice (some ⟨s5.next, 0, none⟩) 5 5) (O5 A B C).length (histC (O5 A B C)) := SlR.new (.inl rfl) (k7.get b6) (by rw [hist_len hol]; rfl)
  have huc : CapOk (.slice (some ⟨s5.next, 0, none⟩) 5 5) := fun p n k h => by cases h; exact Nat.le_refl _
  have hw7 : SlR s7 1 (.slice (some ⟨s6.next, 0, none⟩) 2 2) ([false, true] : List Bool).length (bC [false, true]) := SlR.new (.inl rfl) b7 rfl
  have aft : ∀ (t : Store) (k : Int) (w : Value) (ks : List Bool) (D0 : List HB) (R : Value → Store → Prop), Keeps s7 t → SlR t 1 w ks.length (bC ks) → ks.length < 2 ^ 62 → 0 ≤ k → k ≤ 5 → HeldL (nbF (aftF [] (O5 A B C) k.toNat ks)) D0 →
      (∀ va st, Keeps t st → SlG st 1025 va D0.length (waitC D0) → (∀ i ∈ idsV va, t.next ≤ i) → R (.tuple #[.agg ⟨[.int .i64 4, va]⟩, .int .i64 0]) st) →
      Does Try.prog 8 [.agg ⟨[.int .i64 4, .slice none 0 0]⟩, .slice (some ⟨s5.next, 0, none⟩) 5 5, .int .i64 k, w] t R := fun t k w ks D0 R kt hw hks h0 h5 hD hR => by
    refine after_ (L := []) (ks := ks) (n := 4) (O := O5 A B C) SlR.nil (fun p hp => by cases hp) (by simp) (hu7.keeps fun i o h => kt.get h) hol (by simp [O5]) huc hw hks (fun _ _ _ _ D va st hD' k8 hva hvi => ?_) fun h => absurd ⟨ok4, od4, h0, by simpa [O5] using h5⟩ h
    obtain rfl := hD'.uniq hD
    exact hR va st k8 hva hvi
  have blk : ∀ (t : Store) (a : Int) (R : Value → Store → Prop), Keeps s7 t → 0 ≤ a → a < 4 → (∀ vl st, Keeps t st → SlG st 1024 vl (blkL [] (O5 A B C) 5 a).length (bc (blkL [] (O5 A B C) 5 a).flatten) → R (.tuple #[vl, .int .i64 0]) st) →
      Does Try.prog 10 [.agg ⟨[.int .i64 4, .slice none 0 0]⟩, .slice (some ⟨s5.next, 0, none⟩) 5 5, .int .i64 5, .int .i64 a] t R := fun t a R kt h0 h4 hR => by
    refine block_ (L := []) (n := 4) (O := O5 A B C) SlR.nil (fun p hp => by cases hp) (by simp) (hu7.keeps fun i o h => kt.get h) hol (by simp [O5]) huc (fun _ _ _ _ _ _ vl s10 k10 hvl hvll hvli => hR vl s10 k10 hvl) fun h => absurd ⟨ok4, od4, by decide, by simp [O5], h0, h4⟩ h
  simp -implicitDefEqProofs (maxSteps := 2000000) (disch := first|assumption|omega|rfl|(simp only[RD];done)|(simp only[RD];omega)) only [RN,Int.reduceBEq,Int.reduceBNe,Int.reduceLT,Int.reduceLE,Int.reduceAdd,Int.reduceSub,Int.reduceMul,Nat.reduceAdd,↓bc_flatz,↓bc_flat16,↓agg_bytez, lA, lB, lC]
  rw [eO, ← hs6]
  simp -implicitDefEqProofs (maxSteps := 2000000) (disch := first|assumption|omega|rfl|(simp only[RD];done)|(simp only[RD];omega)) only [RN,Int.reduceBEq,Int.reduceBNe,Int.reduceLT,Int.reduceLE,Int.reduceAdd,Int.reduceSub,Int.reduceMul,Nat.reduceAdd,↓bc_flatz,↓bc_flat16,↓agg_bytez, c6, g2']
  rw [← hs7]
  refine aft s7 5 _ [false, true] _ _ (Keeps.refl _) hw7 (by simp) (by decide) (by decide) (nb52 zA zC) fun va t8 k8 hva hvi => ?_
  have c8 := k8.get c7
  obtain ⟨s9, hs9⟩ : ∃ s9, s9 = t8.push (.cells [.int .i64 4, va] none) := ⟨_, rfl⟩
  have k9 : Keeps t8 s9 := by rw [hs9]; exact (Keeps.refl _).push _
  have e9 : s9.get t8.next = some (.cells [.int .i64 4, va] none) := by rw [hs9]; exact Store.get_push_same _ _
  have c9 := k9.get c8
  have k79 := k8.trans k9
  simp -implicitDefEqProofs (maxSteps := 2000000) (disch := first|assumption|omega|rfl|(simp only[RD];done)|(simp only[RD];omega)) only [RN,Int.reduceBEq,Int.reduceBNe,Int.reduceLT,Int.reduceLE,Int.reduceAdd,Int.reduceSub,Int.reduceMul,Nat.reduceAdd,↓bc_flatz,↓bc_flat16,↓agg_bytez, y0, y1, u2, g2', p3_9]
  rw [← hs9]
  simp -implicitDefEqProofs (maxSteps := 2000000) (disch := first|assumption|omega|rfl|(simp only[RD];done)|(simp only[RD];omega)) only [RN,Int.reduceBEq,Int.reduceBNe,Int.reduceLT,Int.reduceLE,Int.reduceAdd,Int.reduceSub,Int.reduceMul,Nat.reduceAdd,↓bc_flatz,↓bc_flat16,↓agg_bytez, c9, g2']
  refine aft s9 5 _ [] _ _ k79 SlR.nil (by simp) (by decide) (by decide) (nb50 zA) fun vb t10 k10 hvb hvbi => ?_
  have c10 := k10.get c9
  obtain ⟨s11, hs11⟩ : ∃ s11, s11 = t10.push (.cells [.int .i64 4, vb] none) := ⟨_, rfl⟩
  have k11 : Keeps t10 s11 := by rw [hs11]; exact (Keeps.refl _).push _
  have e11 : s11.get t10.next = some (.cells [.int .i64 4, vb] none) := by rw [hs11]; exact Store.get_push_same _ _
  have c11 := k11.get c10
  have k911 := k10.trans k11
  simp -implicitDefEqProofs (maxSteps := 2000000) (disch := first|assumption|omega|rfl|(simp only[RD];done)|(simp only[RD];omega)) only [RN,Int.reduceBEq,Int.reduceBNe,Int.reduceLT,Int.reduceLE,Int.reduceAdd,Int.reduceSub,Int.reduceMul,Nat.reduceAdd,↓bc_flatz,↓bc_flat16,↓agg_bytez, y0, y1, u2, g2']
  rw [← hs11]
  simp -implicitDefEqProofs (maxSteps := 2000000) (disch := first|assumption|omega|rfl|(simp only[RD];done)|(simp only[RD];omega)) only [RN,Int.reduceBEq,Int.reduceBNe,Int.reduceLT,Int.reduceLE,Int.reduceAdd,Int.reduceSub,Int.reduceMul,Nat.reduceAdd,↓bc_flatz,↓bc_flat16,↓agg_bytez, c11, g2']
  refine aft s11 1 _ [] _ _ (k79.trans k911) SlR.nil (by simp) (by decide) (by decide) nb10 fun vc t12 k12 hvc hvci => ?_
  have c12 := k12.get c11
  obtain ⟨s13, hs13⟩ : ∃ s13, s13 = t12.push (.cells [.int .i64 4, vc] none) := ⟨_, rfl⟩
  have k13 : Keeps t12 s13 := by rw [hs13]; exact (Keeps.refl _).push _
  have e13 : s13.get t12.next = some (.cells [.int .i64 4, vc] none) := by rw [hs13]; exact Store.get_push_same _ _
  have c13 := k13.get c12
  have k1113 := k12.trans k13
  have e9' := (k911.trans k1113).get e9
  have e11' := k1113.get e11
  have hva13 : SlG s13 1025 va ([(1, A), (2, C)] : List HB).length (waitC [(1, A), (2, C)]) := hva.same fun j hj => (k9.trans (k911.trans k1113)).2 j (hva.lt j hj)
  have hvb13 : SlG s13 1025 vb ([(1, A)] : List HB).length (waitC [(1, A)]) := hvb.same fun j hj => (k11.trans k1113).2 j (hvb.lt j hj)
  have hvbl : lenSl vb = some (.int .i64 1) := hvb.len
  have hvcl : lenSl vc = some (.int .i64 0) := hvc.len
  have l1 : ∀ p ∈ ([(1, A), (2, C)] : List HB), p.2.length = 1024 := fun p hp => by
    rcases List.mem_cons.1 hp with rfl | hp
    · exact lA
    · have : p = (2, C) := by simpa using hp
      rw [this]; exact lC
  have eA : eqA (.ints .u8 1024) true (.agg ⟨bc A⟩) (.agg ⟨bc A⟩) = some (.bool false) := by rw [eqA_bc true lA lA]; simp
  have eC : eqA (.ints .u8 1024) true (.agg ⟨bc C⟩) (.agg ⟨bc C⟩) = some (.bool false) := by rw [eqA_bc true lC lC]; simp
  have eZ : eqA (.ints .u8 1024) true (.agg ⟨bc zb⟩) (.agg ⟨bc zb⟩) = some (.bool false) := by rw [eqA_bc true zb_len zb_len]; simp
  simp -implicitDefEqProofs (maxSteps := 2000000) (disch := first|assumption|omega|rfl|(simp only[RD];done)|(simp only[RD];omega)) only [RN,Int.reduceBEq,Int.reduceBNe,Int.reduceLT,Int.reduceLE,Int.reduceAdd,Int.reduceSub,Int.reduceMul,Nat.reduceAdd,↓bc_flatz,↓bc_flat16,↓agg_bytez, y0, y1, u2, g2', p3_8]
  rw [← hs13]
  simp -implicitDefEqProofs (maxSteps := 2000000) (disch := first|assumption|omega|rfl|(simp only[RD];done)|(simp only[RD];omega)) only [RN,Int.reduceBEq,Int.reduceBNe,Int.reduceLT,Int.reduceLE,Int.reduceAdd,Int.reduceSub,Int.reduceMul,Nat.reduceAdd,↓bc_flatz,↓bc_flat16,↓agg_bytez, e9', g2']
  refine lblock_ (L := [(1, A), (2, C)]) hva13.r l1 (by simp) fun s14 k14 => ?_
  rw [show atL [(1, A), (2, C)] 1 = A from rfl]
  unfold bv
  try simp -implicitDefEqProofs (maxSteps := 2000000) (disch := first|assumption|omega|rfl|(simp only[RD];done)|(simp only[RD];omega)) only [RN,Int.reduceBEq,Int.reduceBNe,Int.reduceLT,Int.reduceLE,Int.reduceAdd,Int.reduceSub,Int.reduceMul,Nat.reduceAdd,↓bc_flatz,↓bc_flat16,↓agg_bytez]
  refine letter_ fun s15 k15 => ?_
  rw [← hA]
  unfold bv
  have k1315 := k14.trans k15
  have e15 := k1315.get e9'
  simp -implicitDefEqProofs (maxSteps := 2000000) (disch := first|assumption|omega|rfl|(simp only[RD];done)|(simp only[RD];omega)) only [RN,Int.reduceBEq,Int.reduceBNe,Int.reduceLT,Int.reduceLE,Int.reduceAdd,Int.reduceSub,Int.reduceMul,Nat.reduceAdd,↓bc_flatz,↓bc_flat16,↓agg_bytez, eA, p3_7, e15, g2']
  refine lblock_ (L := [(1, A), (2, C)]) (hva13.r.keeps fun i o h => k1315.get h) l1 (by simp) fun s16 k16 => ?_
  rw [show atL [(1, A), (2, C)] 2 = C from rfl]
  unfold bv
  try simp -implicitDefEqProofs (maxSteps := 2000000) (disch := first|assumption|omega|rfl|(simp only[RD];done)|(simp only[RD];omega)) only [RN,Int.reduceBEq,Int.reduceBNe,Int.reduceLT,Int.reduceLE,Int.reduceAdd,Int.reduceSub,Int.reduceMul,Nat.reduceAdd,↓bc_flatz,↓bc_flat16,↓agg_bytez]
  refine letter_ fun s17 k17 => ?_
  rw [← hC]
  unfold bv
  have k1317 := k1315.trans (k16.trans k17)
  have f11 := k1317.get e11'
  have f13 := k1317.get e13
  have c17 := k1317.get c13
  have k717 := (k79.trans (k911.trans k1113)).trans k1317
  simp -implicitDefEqProofs (maxSteps := 2000000) (disch := first|assumption|omega|rfl|(simp only[RD];done)|(simp only[RD];omega)) only [RN,Int.reduceBEq,Int.reduceBNe,Int.reduceLT,Int.reduceLE,Int.reduceAdd,Int.reduceSub,Int.reduceMul,Nat.reduceAdd,↓bc_flatz,↓bc_flat16,↓agg_bytez, eC, f11, f13, hvbl, hvcl, p3_6, c17, g2']
  refine blk s17 2 _ k717 (by decide) (by decide) fun vl s18 k18 hvl => ?_
  rw [bk52 zC] at hvl
  have c18 := k18.get c17
  simp -implicitDefEqProofs (maxSteps := 2000000) (disch := first|assumption|omega|rfl|(simp only[RD];done)|(simp only[RD];omega)) only [RN,Int.reduceBEq,Int.reduceBNe,Int.reduceLT,Int.reduceLE,Int.reduceAdd,Int.reduceSub,Int.reduceMul,Nat.reduceAdd,↓bc_flatz,↓bc_flat16,↓agg_bytez, y0, y1, c18, g2']
  refine blk s18 3 _ (k717.trans k18) (by decide) (by decide) fun vm s19 k19 hvm => ?_
  rw [bk53] at hvm
  have c19 := k19.get c18
  have k719 := (k717.trans k18).trans k19
  simp -implicitDefEqProofs (maxSteps := 2000000) (disch := first|assumption|omega|rfl|(simp only[RD];done)|(simp only[RD];omega)) only [RN,Int.reduceBEq,Int.reduceBNe,Int.reduceLT,Int.reduceLE,Int.reduceAdd,Int.reduceSub,Int.reduceMul,Nat.reduceAdd,↓bc_flatz,↓bc_flat16,↓agg_bytez, y0, y1, p3_5, c19, g2']
  refine block_ (L := []) (n := 4) (at' := 4) (O := O5 A B C) SlR.nil (fun p hp => by cases hp) (by simp) (hu7.keeps fun i o h => k719.get h) hol (by simp [O5]) huc (fun _ _ _ _ _ h => absurd h (by decide)) fun _ s20 k20 => ?_
  have k1720 := (k18.trans k19).trans k20
  have hvl20 : SlG s20 1024 vl [zb, C].length (bc [zb, C].flatten) := hvl.same fun j hj => (k19.trans k20).2 j (hvl.lt j hj)
  have hvm20 : SlG s20 1024 vm [zb].length (bc [zb].flatten) := hvm.same fun j hj => k20.2 j (hvm.lt j hj)
  have hvll : lenSl vl = some (.int .i64 2) := hvl20.len
  have hvml : lenSl vm = some (.int .i64 1) := hvm20.len
  have l2 : ∀ c ∈ [zb, C], c.length = 1024 := fun c hc => by
    rcases List.mem_cons.1 hc with rfl | hc
    · exact zb_len
    · have : c = C := by simpa using hc
      rw [this]; exact lC
  have l3 : ∀ c ∈ [zb], c.length = 1024 := fun c hc => by
    have : c = zb := by simpa using hc
    rw [this]; exact zb_len
  simp -implicitDefEqProofs (maxSteps := 2000000) (disch := first|assumption|omega|rfl|(simp only[RD];done)|(simp only[RD];omega)) only [RN,Int.reduceBEq,Int.reduceBNe,Int.reduceLT,Int.reduceLE,Int.reduceAdd,Int.reduceSub,Int.reduceMul,Nat.reduceAdd,↓bc_flatz,↓bc_flat16,↓agg_bytez, y0, y1, hvll, p3_4]
  refine letter_ fun s21 k21 => ?_
  rw [← hC]
  unfold bv
  obtain ⟨i3, o3, w1, w2, w3⟩ := blk_at2 (j := 1) hvl20.r l2 rfl
  have w1 : iaddrS 1024 vl (.int .i64 1) = some (.pointer (some ⟨i3, o3, none⟩)) := w1
  have w4 : rdPart (s21.get i3) o3 1024 = some (.agg ⟨bc C⟩) := by rw [k21.2 i3 w2, w3]
  obtain ⟨i4, o4, x1, x2, x3⟩ := blk_at2 (j := 0) hvm20.r l3 rfl
  have x1 : iaddrS 1024 vm (.int .i64 0) = some (.pointer (some ⟨i4, o4, none⟩)) := x1
  have x4 : rdPart (s21.get i4) o4 1024 = some (.agg ⟨bc zb⟩) := by rw [k21.2 i4 x2, x3]
  simp -implicitDefEqProofs (maxSteps := 2000000) (disch := first|assumption|omega|rfl|(simp only[RD];done)|(simp only[RD];omega)) only [RN,Int.reduceBEq,Int.reduceBNe,Int.reduceLT,Int.reduceLE,Int.reduceAdd,Int.reduceSub,Int.reduceMul,Nat.reduceAdd,↓bc_flatz,↓bc_flat16,↓agg_bytez, w1, w3, w4, eC, hvml, p3_3, x1, x4, eZ, ↓u4]
  refine letter_ fun s22 k22 => ?_
  rw [← hA]
  unfold bv
  obtain ⟨s23, hs23⟩ : ∃ s23, s23 = s22.push (.cells (.int .i64 4 :: bc A) none) := ⟨_, rfl⟩
  have k23 : Keeps s22 s23 := by rw [hs23]; exact (Keeps.refl _).push _
  have e23 : s23.get s22.next = some (.cells (.int .i64 4 :: bc A) none) := by rw [hs23]; exact Store.get_push_same _ _
  obtain ⟨s24, hs24⟩ : ∃ s24, s24 = s23.push (.cells (.int .i64 1 :: bc zb) none) := ⟨_, rfl⟩
  have k24 : Keeps s23 s24 := by rw [hs24]; exact (Keeps.refl _).push _
  have e24 : s24.get s23.next = some (.cells (.int .i64 1 :: bc zb) none) := by rw [hs24]; exact Store.get_push_same _ _
  simp -implicitDefEqProofs (maxSteps := 2000000) (disch := first|assumption|omega|rfl|(simp only[RD];done)|(simp only[RD];omega)) only [RN,Int.reduceBEq,Int.reduceBNe,Int.reduceLT,Int.reduceLE,Int.reduceAdd,Int.reduceSub,Int.reduceMul,Nat.reduceAdd,↓bc_flatz,↓bc_flat16,↓agg_bytez, lA, p3_2]
  rw [← hs23]
  have n23 : s23.next = s22.next + 1 := by rw [hs23, Store.next_push]
  rw [← hs24, ← n23]
  refine letter_ fun s25 k25 => ?_
  rw [← hA]
  unfold bv
  simp -implicitDefEqProofs (maxSteps := 2000000) (disch := first|assumption|omega|rfl|(simp only[RD];done)|(simp only[RD];omega)) only [RN,Int.reduceBEq,Int.reduceBNe,Int.reduceLT,Int.reduceLE,Int.reduceAdd,Int.reduceSub,Int.reduceMul,Nat.reduceAdd,↓bc_flatz,↓bc_flat16,↓agg_bytez, lA]
  refine letter_ fun s26 k26 => ?_
  rw [← hA]
  unfold bv
  obtain ⟨s27, hs27⟩ : ∃ s27, s27 = s26.push (.cells (.int .i64 2 :: (bc A ++ .int .i64 1 :: bc A)) none) := ⟨_, rfl⟩
  have k27 : Keeps s26 s27 := by rw [hs27]; exact (Keeps.refl _).push _
  have e27 : s27.get s26.next = some (.cells (.int .i64 2 :: (bc A ++ .int .i64 1 :: bc A)) none) := by rw [hs27]; exact Store.get_push_same _ _
  simp -implicitDefEqProofs (maxSteps := 2000000) (disch := first|assumption|omega|rfl|(simp only[RD];done)|(simp only[RD];omega)) only [RN,Int.reduceBEq,Int.reduceBNe,Int.reduceLT,Int.reduceLE,Int.reduceAdd,Int.reduceSub,Int.reduceMul,Nat.reduceAdd,↓bc_flatz,↓bc_flat16,↓agg_bytez, lA]
  rw [← hs27]
  try simp -implicitDefEqProofs (maxSteps := 2000000) (disch := first|assumption|omega|rfl|(simp only[RD];done)|(simp only[RD];omega)) only [RN,Int.reduceBEq,Int.reduceBNe,Int.reduceLT,Int.reduceLE,Int.reduceAdd,Int.reduceSub,Int.reduceMul,Nat.reduceAdd,↓bc_flatz,↓bc_flat16,↓agg_bytez]
  obtain ⟨s28, hs28⟩ : ∃ s28, s28 = s27.push (.cells [.int .i64 0, .slice none 0 0, .int .i64 4, .slice (some ⟨s22.next, 0, none⟩) 1 1, .int .i64 4, .slice (some ⟨s23.next, 0, none⟩) 1 1, .int .i64 4, .slice (some ⟨s26.next, 0, none⟩) 2 2] none) := ⟨_, rfl⟩
  have k28 : Keeps s27 s28 := by rw [hs28]; exact (Keeps.refl _).push _
  have e28 : s28.get s27.next = some (.cells [.int .i64 0, .slice none 0 0, .int .i64 4, .slice (some ⟨s22.next, 0, none⟩) 1 1, .int .i64 4, .slice (some ⟨s23.next, 0, none⟩) 1 1, .int .i64 4, .slice (some ⟨s26.next, 0, none⟩) 2 2] none) := by rw [hs28]; exact Store.get_push_same _ _
  have n27 : s27.next = s26.next + 1 := by rw [hs27, Store.next_push]
  rw [← hs28, ← n27]
  have k2428 := ((k25.trans k26).trans k27).trans k28
  have f23 := k2428.get (k24.get e23)
  have f24 := k2428.get e24
  have f27 := k28.get e27
  have k2028 := ((((k21.trans k22).trans k23).trans k24).trans k2428)
  have k728 := (k719.trans k20).trans k2028
  refine lop1 (fun m y t => ∃ i : Nat, m + i = 4 ∧ y = .int .i64 i ∧ Keeps s28 t) 4 ⟨0, by omega, rfl, Keeps.refl _⟩ ?_
  rintro m y t next ⟨i, hi, rfl, kt⟩ hnx
  have et := kt.get e28
  have k7t := k728.trans kt
  by_cases h5 : i < 4
  · have go : ∀ (n : Int) (v : Value) (L : List HB), SlR t 1025 v L.length (waitC L) → (∀ p ∈ L, p.2.length = 1024) → L.length < 2 ^ 62 → ¬ okIm n L →
        Does Try.prog 11 [.agg ⟨[.int .i64 n, v]⟩] t fun v235 s236 => vop (binI .neq v235 (.int .i64 2)) s236 fun v237 s238 => condH v237 (Q (.bool false) s238) (next (.int .i64 ((i + 1 : Nat) : Int)) s238) := fun n v L h1 h2 h3 h4 => by
      refine pwhole_ h1 h2 h3 (fun h => absurd h h4) fun _ t' k' => ?_
      try simp -implicitDefEqProofs (maxSteps := 2000000) (disch := first|assumption|omega|rfl|(simp only[RD];done)|(simp only[RD];omega)) only [RN,Int.reduceBEq,Int.reduceBNe,Int.reduceLT,Int.reduceLE,Int.reduceAdd,Int.reduceSub,Int.reduceMul,Nat.reduceAdd,↓bc_flatz,↓bc_flat16,↓agg_bytez]
      exact hnx _ _ (by omega) ⟨i + 1, by omega, rfl, kt.trans k'⟩
    have w23 : SlR t 1025 (.slice (some ⟨s22.next, 0, none⟩) 1 1) ([(4, A)] : List HB).length (waitC [(4, A)]) := SlR.new (g' := none) (.inl rfl) (by rw [kt.get f23]; simp [waitC]) (by simp [waitC, lA])
    have w24 : SlR t 1025 (.slice (some ⟨s23.next, 0, none⟩) 1 1) ([(1, zb)] : List HB).length (waitC [(1, zb)]) := SlR.new (g' := none) (.inl rfl) (by rw [kt.get f24]; simp [waitC]) (by simp [waitC, zb_len])
    have w27 : SlR t 1025 (.slice (some ⟨s26.next, 0, none⟩) 2 2) ([(2, A), (1, A)] : List HB).length (waitC [(2, A), (1, A)]) := SlR.new (g' := none) (.inl rfl) (by rw [kt.get f27]; simp [waitC]) (by simp [waitC, lA])
    have p2 : ∀ (a b c d e f g h : Value) (o : Nat) (x y : Value), [a, b, c, d, e, f, g, h][o]? = some x → [a, b, c, d, e, f, g, h][o + 1]? = some y → rdPart (some (.cells [a, b, c, d, e, f, g, h] none)) o 2 = some (.agg ⟨[x, y]⟩) := fun a b c d e f g h o x y hx hy => by
      match o, hx, hy with
      | 0, hx, hy => cases hx; cases hy; rfl
      | 1, hx, hy => cases hx; cases hy; rfl
      | 2, hx, hy => cases hx; cases hy; rfl
      | 3, hx, hy => cases hx; cases hy; rfl
      | 4, hx, hy => cases hx; cases hy; rfl
      | 5, hx, hy => cases hx; cases hy; rfl
      | 6, hx, hy => cases hx; cases hy; rfl
    have l4 : ∀ (a b : Int) (c : List Int), c.length = 1024 → ∀ p ∈ ([(a, c), (b, c)] : List HB), p.2.length = 1024 := fun a b c hc p hp => by
      rcases List.mem_cons.1 hp with rfl | hp
      · exact hc
      · have : p = (b, c) := by simpa using hp
        rw [this]; exact hc
    have r0 := p2 (.int .i64 0) (.slice none 0 0) (.int .i64 4) (.slice (some ⟨s22.next, 0, none⟩) 1 1) (.int .i64 4) (.slice (some ⟨s23.next, 0, none⟩) 1 1) (.int .i64 4) (.slice (some ⟨s26.next, 0, none⟩) 2 2)
    match i, h5, hi, go with
    | 0, _, hi, go =>
      have r := r0 0 _ _ rfl rfl
      simp -implicitDefEqProofs (maxSteps := 2000000) (disch := first|assumption|omega|rfl|(simp only[RD];done)|(simp only[RD];omega)) only [RN,Int.reduceBEq,Int.reduceBNe,Int.reduceLT,Int.reduceLE,Int.reduceAdd,Int.reduceSub,Int.reduceMul,Nat.reduceAdd,↓bc_flatz,↓bc_flat16,↓agg_bytez, p3_1, et, r]
      exact go 0 _ [] SlR.nil (fun p hp => by cases hp) (by simp) fun h => by have := h.1; omega
    | 1, _, hi, go =>
      have r := r0 2 _ _ rfl rfl
      simp -implicitDefEqProofs (maxSteps := 2000000) (disch := first|assumption|omega|rfl|(simp only[RD];done)|(simp only[RD];omega)) only [RN,Int.reduceBEq,Int.reduceBNe,Int.reduceLT,Int.reduceLE,Int.reduceAdd,Int.reduceSub,Int.reduceMul,Nat.reduceAdd,↓bc_flatz,↓bc_flat16,↓agg_bytez, p3_1, et, r]
      exact go 4 _ _ w23 (fun p hp => l4 4 4 A lA p (by simp at hp; simp [hp])) (by simp) fun h => by have := h.2.2.2.1; omega
    | 2, _, hi, go =>
      have r := r0 4 _ _ rfl rfl
      simp -implicitDefEqProofs (maxSteps := 2000000) (disch := first|assumption|omega|rfl|(simp only[RD];done)|(simp only[RD];omega)) only [RN,Int.reduceBEq,Int.reduceBNe,Int.reduceLT,Int.reduceLE,Int.reduceAdd,Int.reduceSub,Int.reduceMul,Nat.reduceAdd,↓bc_flatz,↓bc_flat16,↓agg_bytez, p3_1, et, r]
      exact go 4 _ _ w24 (fun p hp => l4 1 1 zb zb_len p (by simp at hp; simp [hp])) (by simp) fun h => h.2.2.2.2.1 rfl
    | 3, _, hi, go =>
      have r := r0 6 _ _ rfl rfl
      simp -implicitDefEqProofs (maxSteps := 2000000) (disch := first|assumption|omega|rfl|(simp only[RD];done)|(simp only[RD];omega)) only [RN,Int.reduceBEq,Int.reduceBNe,Int.reduceLT,Int.reduceLE,Int.reduceAdd,Int.reduceSub,Int.reduceMul,Nat.reduceAdd,↓bc_flatz,↓bc_flat16,↓agg_bytez, p3_1, et, r]
      exact go 4 _ _ w27 (l4 2 1 A lA) (by simp) fun h => by have := h.2.2.2.2.2.1; omega
  · have : i = 4 := by omega
    subst this
    simp -implicitDefEqProofs (maxSteps := 2000000) (disch := first|assumption|omega|rfl|(simp only[RD];done)|(simp only[RD];omega)) only [RN,Int.reduceBEq,Int.reduceBNe,Int.reduceLT,Int.reduceLE,Int.reduceAdd,Int.reduceSub,Int.reduceMul,Nat.reduceAdd,↓bc_flatz,↓bc_flat16,↓agg_bytez, p3_1]
    refine lives_ fun t1 kt1 => ?_
    try simp -implicitDefEqProofs (maxSteps := 2000000) (disch := first|assumption|omega|rfl|(simp only[RD];done)|(simp only[RD];omega)) only [RN,Int.reduceBEq,Int.reduceBNe,Int.reduceLT,Int.reduceLE,Int.reduceAdd,Int.reduceSub,Int.reduceMul,Nat.reduceAdd,↓bc_flatz,↓bc_flat16,↓agg_bytez]
    refine ppending_ (O := O5 A B C) (hu7.keeps fun i o h => (k7t.trans kt1).get h) hol (by simp [O5]) (by simp [O5]) fun t2 z kt2 hz hzi => ?_
    rw [show ((2 : Int).toNat) = 2 from rfl, pe2] at hz
    have hzl : lenSl z = some (.int .i64 0) := hz.len
    simp -implicitDefEqProofs (maxSteps := 2000000) (disch := first|assumption|omega|rfl|(simp only[RD];done)|(simp only[RD];omega)) only [RN,Int.reduceBEq,Int.reduceBNe,Int.reduceLT,Int.reduceLE,Int.reduceAdd,Int.reduceSub,Int.reduceMul,Nat.reduceAdd,↓bc_flatz,↓bc_flat16,↓agg_bytez, hzl]
    refine ppending_ (O := O5 A B C) (hu7.keeps fun i o h => ((k7t.trans kt1).trans kt2).get h) hol (by simp [O5]) (by simp [O5]) fun t3 z2 kt3 hz2 hzi2 => ?_
    rw [show ((1 : Int).toNat) = 1 from rfl, pe1] at hz2
    obtain ⟨t4, ht4⟩ : ∃ t4, t4 = t3.push (.cells [.int .i64 0] none) := ⟨_, rfl⟩
    have kt4 : Keeps t3 t4 := by rw [ht4]; exact (Keeps.refl _).push _
    have et4 : t4.get t3.next = some (.cells [.int .i64 0] none) := by rw [ht4]; exact Store.get_push_same _ _
    try simp -implicitDefEqProofs (maxSteps := 2000000) (disch := first|assumption|omega|rfl|(simp only[RD];done)|(simp only[RD];omega)) only [RN,Int.reduceBEq,Int.reduceBNe,Int.reduceLT,Int.reduceLE,Int.reduceAdd,Int.reduceSub,Int.reduceMul,Nat.reduceAdd,↓bc_flatz,↓bc_flat16,↓agg_bytez]
    rw [← ht4]
    have hz4 : SlR t4 1 z2 ([0] : List Int).length (iC [0]) := (hz2.same fun j hj => kt4.2 j (hz2.lt j hj)).r
    have h4 : SlR t4 1 (.slice (some ⟨t3.next, 0, none⟩) 1 1) ([0] : List Int).length (iC [0]) := SlR.new (.inl rfl) et4 rfl
    refine sameints_ hz4 h4 (by simp) ?_
    try simp -implicitDefEqProofs (maxSteps := 2000000) (disch := first|assumption|omega|rfl|(simp only[RD];done)|(simp only[RD];omega)) only [RN,Int.reduceBEq,Int.reduceBNe,Int.reduceLT,Int.reduceLE,Int.reduceAdd,Int.reduceSub,Int.reduceMul,Nat.reduceAdd,↓bc_flatz,↓bc_flat16,↓agg_bytez]
    exact hq _ (k1.trans (k07.trans (k7t.trans (kt1.trans (kt2.trans (kt3.trans kt4))))))
end Go.Proofs.Ytncdcjebanhcpaa
