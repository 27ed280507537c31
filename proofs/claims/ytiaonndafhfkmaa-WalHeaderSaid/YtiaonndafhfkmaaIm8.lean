/- Images among arguments: contracts of large, Whole, At, sameImage. -/
import Derived.Test.YtiaonndafhfkmaaDks
import Derived.Test.YtiaonndafhfkmaaEls
import Derived.Test.YtiaonndafhfkmaaShape8
set_option linter.all false
set_option maxRecDepth 100000
set_option maxHeartbeats 400000
namespace Go.Proofs.Ytiaonndafhfkmaa
open Go.Am
variable {σ : Store} {Q : Value → Store → Prop} {n : Int} {v u : Value} {L L' : List HB} {f : Int → Option (List Int)} {g : Geo}
def sceneC (n : Int) (v : Value) (g : Geo) : List Value := [.int .i64 n, v, .int .i64 g.blocks, .int .i64 g.log, .int .i64 g.inodes]
theorem large_ {k : Nat} (hv : lenSl v = some (.int .i64 (k : Nat))) (hT : ∀ st', Keeps σ st' → Q (.bool true) st') (hF : n ≤ 300 → k ≤ 300 → ∀ st', Keeps σ st' → Q (.bool false) st') :
    Does Try.prog 20 [.agg ⟨sceneC n v g⟩] σ Q := by
  refine d20 ?_
  obtain ⟨s1, hs1⟩ : ∃ s1, s1 = σ.push (.cells (sceneC n v g) none) := ⟨_, rfl⟩
  have k1 : Keeps σ s1 := by rw [hs1]; exact (Keeps.refl _).push _
  have c1 : s1.get σ.next = some (.cells (sceneC n v g) none) := by rw [hs1]; exact Store.get_push_same _ _
  have r0 : rdOne (some (.cells (sceneC n v g) none)) 0 = some (.int .i64 n) := rfl
  have r1 : rdOne (some (.cells (sceneC n v g) none)) 1 = some v := rfl
  unfold p20
  rw [box_agg, nop_some, ← hs1]
  by_cases h1 : 300 < n
  · simp -implicitDefEqProofs (maxSteps := 2000000) (disch := first|assumption|omega|rfl|(simp only[RD];done)|(simp only[RD];omega)) only [RN,Int.reduceBEq,Int.reduceBNe,Int.reduceLT,Int.reduceLE,Int.reduceAdd,Int.reduceSub,Int.reduceMul,Nat.reduceAdd,↓bc_flatz,↓bc_flat16,↓agg_bytez, c1, r0, decide_eq_true h1]
    exact hT _ k1
  by_cases h2 : (300 : Int) < (k : Nat)
  · simp -implicitDefEqProofs (maxSteps := 2000000) (disch := first|assumption|omega|rfl|(simp only[RD];done)|(simp only[RD];omega)) only [RN,Int.reduceBEq,Int.reduceBNe,Int.reduceLT,Int.reduceLE,Int.reduceAdd,Int.reduceSub,Int.reduceMul,Nat.reduceAdd,↓bc_flatz,↓bc_flat16,↓agg_bytez, c1, r0, r1, decide_eq_false h1, hv, decide_eq_true h2]
    exact hT _ k1
  · simp -implicitDefEqProofs (maxSteps := 2000000) (disch := first|assumption|omega|rfl|(simp only[RD];done)|(simp only[RD];omega)) only [RN,Int.reduceBEq,Int.reduceBNe,Int.reduceLT,Int.reduceLE,Int.reduceAdd,Int.reduceSub,Int.reduceMul,Nat.reduceAdd,↓bc_flatz,↓bc_flat16,↓agg_bytez, c1, r0, r1, decide_eq_false h1, hv, decide_eq_false h2]
    exact hF (by omega) (by omega) _ k1
theorem whole_ (hv : SlR σ 1025 v L.length (waitC L)) (hl : ∀ p ∈ L, p.2.length = 1024) (hcap : L.length < 2 ^ 62) (hq1 : okIm n L → ∀ st', Keeps σ st' → Q (.int .i64 0) st') (hq2 : ¬ okIm n L → ∀ st', Keeps σ st' → Q (.int .i64 2) st') :
    Does Try.prog 21 [.agg ⟨[.int .i64 n, v]⟩] σ Q := by
  refine d21 ?_
  obtain ⟨s1, hs1⟩ : ∃ s1, s1 = σ.push (.cells [.int .i64 n, v] none) := ⟨_, rfl⟩
  have k1 : Keeps σ s1 := by rw [hs1]; exact (Keeps.refl _).push _
  have c1 : s1.get σ.next = some (.cells [.int .i64 n, v] none) := by rw [hs1]; exact Store.get_push_same _ _
  unfold p21
  rw [box_agg, nop_some, ← hs1]
  by_cases h1 : n < 1
  · simp -implicitDefEqProofs (maxSteps := 2000000) (disch := first|assumption|omega|rfl|(simp only[RD];done)|(simp only[RD];omega)) only [RN,Int.reduceBEq,Int.reduceBNe,Int.reduceLT,Int.reduceLE,Int.reduceAdd,Int.reduceSub,Int.reduceMul,Nat.reduceAdd,↓bc_flatz,↓bc_flat16,↓agg_bytez, c1, p21_3, decide_eq_true h1]
    exact hq2 (fun h => by have := h.1; omega) _ k1
  by_cases h2 : 1048576 < n
  · simp -implicitDefEqProofs (maxSteps := 2000000) (disch := first|assumption|omega|rfl|(simp only[RD];done)|(simp only[RD];omega)) only [RN,Int.reduceBEq,Int.reduceBNe,Int.reduceLT,Int.reduceLE,Int.reduceAdd,Int.reduceSub,Int.reduceMul,Nat.reduceAdd,↓bc_flatz,↓bc_flat16,↓agg_bytez, c1, p21_3, decide_eq_false h1, decide_eq_true h2]
    exact hq2 (fun h => by have := h.2.1; omega) _ k1
  simp -implicitDefEqProofs (maxSteps := 2000000) (disch := first|assumption|omega|rfl|(simp only[RD];done)|(simp only[RD];omega)) only [RN,Int.reduceBEq,Int.reduceBNe,Int.reduceLT,Int.reduceLE,Int.reduceAdd,Int.reduceSub,Int.reduceMul,Nat.reduceAdd,↓bc_flatz,↓bc_flat16,↓agg_bytez, c1, p21_3, decide_eq_false h1, decide_eq_false h2]
  obtain ⟨s2, hs2⟩ : ∃ s2, s2 = s1.push (.cells (bc zb) none) := ⟨_, rfl⟩
  have k2 : Keeps s1 s2 := by rw [hs2]; exact (Keeps.refl _).push _
  have c2 : s2.get s1.next = some (.cells (bc zb) none) := by rw [hs2]; exact Store.get_push_same _ _
  rw [← hs2]
  have z1 := zb_len
  refine lop2 (fun k x v st => ∃ (i : Nat) (b : Int), k + i = L.length ∧ v = .int .i64 i ∧ x = .int .i64 b ∧ (rise n (-1) L ↔ rise n b (L.drop i)) ∧ Keeps s2 st) L.length ⟨0, -1, rfl, rfl, rfl, Iff.rfl, Keeps.refl _⟩ ?_
  rintro k x v' st next ⟨i, b, hi, rfl, rfl, hr, hk⟩ hnx
  have kst := (k1.trans k2).trans hk
  have c3 := hk.get (k2.get c1)
  have c4 := hk.get c2
  have hv3 : SlR st 1025 v L.length (waitC L) := hv.keeps fun i o h => kst.get h
  by_cases h5 : (i : Int) < L.length
  · have h6 : i < L.length := by omega
    obtain ⟨p, hp⟩ : ∃ p, L[i]? = some p := ⟨_, List.getElem?_eq_getElem h6⟩
    have hdr : L.drop i = p :: L.drop (i + 1) := by
      rw [List.drop_eq_getElem_cons h6]
      rw [List.getElem?_eq_getElem h6] at hp
      rw [Option.some.inj hp]
    obtain ⟨y, c⟩ := p
    have hb : c.length = 1024 := hl (y, c) (List.mem_of_getElem? hp)
    obtain ⟨a, o, q1, q2, q3, q4⟩ := hv3.at (by omega) h6
    rw [waitC_at hl hp] at q3
    have l25 : (Value.int .i64 y :: bc c).length = 1025 := by simp [hb]
    have e1 : rdPart (some (.cells (.int .i64 y :: bc c) none)) 1 1024 = some (.agg ⟨bc c⟩) := by
      have h1 : Nat.ble (1 + 1024) (Value.int .i64 y :: bc c).length = true := Nat.ble_eq_true_of_le (by simp [hb])
      simp only [rdPart, part?, h1, cond_true, List.drop_succ_cons, List.drop_zero]
      rw [List.take_of_length_le (by rw [bc_len]; omega)]
    have ez := eqA_bc (n := 1024) false hb zb_len
    obtain ⟨s3, hs3⟩ : ∃ s3, s3 = st.push (.cells (.int .i64 y :: bc c) none) := ⟨_, rfl⟩
    have k3 : Keeps st s3 := by rw [hs3]; exact (Keeps.refl _).push _
    have c5 : s3.get st.next = some (.cells (.int .i64 y :: bc c) none) := by rw [hs3]; exact Store.get_push_same _ _
    have c6 := k3.get c3
    have c7 := k3.get c4
    have kk := kst.trans k3
    rw [hdr] at hr
    have bad : ¬ (b < y ∧ y < n ∧ c ≠ zb) → ¬ okIm n L := fun h1 h2 => by
      have := hr.1 h2.2.2
      exact h1 ⟨this.1, this.2.1, this.2.2.1⟩
    by_cases h7 : y ≤ b
    · simp -implicitDefEqProofs (maxSteps := 2000000) (disch := first|assumption|omega|rfl|(simp only[RD];done)|(simp only[RD];omega)) only [RN,Int.reduceBEq,Int.reduceBNe,Int.reduceLT,Int.reduceLE,Int.reduceAdd,Int.reduceSub,Int.reduceMul,Nat.reduceAdd,↓bc_flatz,↓bc_flat16,↓agg_bytez, c3, hv3.len, decide_eq_true h5, p21_2, q1, q3, l25]
      rw [← hs3]
      simp -implicitDefEqProofs (maxSteps := 2000000) (disch := first|assumption|omega|rfl|(simp only[RD];done)|(simp only[RD];omega)) only [RN,Int.reduceBEq,Int.reduceBNe,Int.reduceLT,Int.reduceLE,Int.reduceAdd,Int.reduceSub,Int.reduceMul,Nat.reduceAdd,↓bc_flatz,↓bc_flat16,↓agg_bytez, c5, decide_eq_true h7, p21_1]
      exact hq2 (bad fun h => by omega) _ kk
    · by_cases h8 : n ≤ y
      · simp -implicitDefEqProofs (maxSteps := 2000000) (disch := first|assumption|omega|rfl|(simp only[RD];done)|(simp only[RD];omega)) only [RN,Int.reduceBEq,Int.reduceBNe,Int.reduceLT,Int.reduceLE,Int.reduceAdd,Int.reduceSub,Int.reduceMul,Nat.reduceAdd,↓bc_flatz,↓bc_flat16,↓agg_bytez, c3, hv3.len, decide_eq_true h5, p21_2, q1, q3, l25]
        rw [← hs3]
        simp -implicitDefEqProofs (maxSteps := 2000000) (disch := first|assumption|omega|rfl|(simp only[RD];done)|(simp only[RD];omega)) only [RN,Int.reduceBEq,Int.reduceBNe,Int.reduceLT,Int.reduceLE,Int.reduceAdd,Int.reduceSub,Int.reduceMul,Nat.reduceAdd,↓bc_flatz,↓bc_flat16,↓agg_bytez, c5, decide_eq_false h7, p21_1, c6, decide_eq_true h8]
        exact hq2 (bad fun h => by omega) _ kk
      · by_cases h9 : c = zb
        · rw [decide_eq_true h9] at ez
          simp -implicitDefEqProofs (maxSteps := 2000000) (disch := first|assumption|omega|rfl|(simp only[RD];done)|(simp only[RD];omega)) only [RN,Int.reduceBEq,Int.reduceBNe,Int.reduceLT,Int.reduceLE,Int.reduceAdd,Int.reduceSub,Int.reduceMul,Nat.reduceAdd,↓bc_flatz,↓bc_flat16,↓agg_bytez, c3, hv3.len, decide_eq_true h5, p21_2, q1, q3, l25]
          rw [← hs3]
          simp -implicitDefEqProofs (maxSteps := 2000000) (disch := first|assumption|omega|rfl|(simp only[RD];done)|(simp only[RD];omega)) only [RN,Int.reduceBEq,Int.reduceBNe,Int.reduceLT,Int.reduceLE,Int.reduceAdd,Int.reduceSub,Int.reduceMul,Nat.reduceAdd,↓bc_flatz,↓bc_flat16,↓agg_bytez, c5, decide_eq_false h7, p21_1, c6, decide_eq_false h8, e1, c7, z1, ez]
          exact hq2 (bad fun h => h.2.2 h9) _ kk
        · rw [decide_eq_false h9] at ez
          simp -implicitDefEqProofs (maxSteps := 2000000) (disch := first|assumption|omega|rfl|(simp only[RD];done)|(simp only[RD];omega)) only [RN,Int.reduceBEq,Int.reduceBNe,Int.reduceLT,Int.reduceLE,Int.reduceAdd,Int.reduceSub,Int.reduceMul,Nat.reduceAdd,↓bc_flatz,↓bc_flat16,↓agg_bytez, c3, hv3.len, decide_eq_true h5, p21_2, q1, q3, l25]
          rw [← hs3]
          simp -implicitDefEqProofs (maxSteps := 2000000) (disch := first|assumption|omega|rfl|(simp only[RD];done)|(simp only[RD];omega)) only [RN,Int.reduceBEq,Int.reduceBNe,Int.reduceLT,Int.reduceLE,Int.reduceAdd,Int.reduceSub,Int.reduceMul,Nat.reduceAdd,↓bc_flatz,↓bc_flat16,↓agg_bytez, c5, decide_eq_false h7, p21_1, c6, decide_eq_false h8, e1, c7, z1, ez]
          refine hnx _ _ _ (by omega) ⟨i + 1, y, by omega, by congr 1, rfl, ?_, hk.trans k3⟩
          rw [hr]
          exact ⟨fun h => h.2.2.2, fun h => ⟨by omega, by omega, h9, h⟩⟩
  · have e : i = L.length := by omega
    simp -implicitDefEqProofs (maxSteps := 2000000) (disch := first|assumption|omega|rfl|(simp only[RD];done)|(simp only[RD];omega)) only [RN,Int.reduceBEq,Int.reduceBNe,Int.reduceLT,Int.reduceLE,Int.reduceAdd,Int.reduceSub,Int.reduceMul,Nat.reduceAdd,↓bc_flatz,↓bc_flat16,↓agg_bytez, c3, hv3.len, decide_eq_false h5, p21_2]
    rw [e, List.drop_length] at hr
    exact hq1 ⟨by omega, by omega, hr.2 trivial⟩ _ kst
theorem at_ {x : Int} (hv : SlR σ 1025 v L.length (waitC L)) (hl : ∀ p ∈ L, p.2.length = 1024) (hcap : L.length < 2 ^ 62) (hH : HeldL f L) (hq : ∀ st', Keeps σ st' → Q (.agg ⟨bc ((f x).getD zb)⟩) st') :
    Does Try.prog 24 [.agg ⟨[.int .i64 n, v]⟩, .int .i64 x] σ Q := by
  refine d24 ?_
  obtain ⟨s1, hs1⟩ : ∃ s1, s1 = σ.push (.cells [.int .i64 n, v] none) := ⟨_, rfl⟩
  have k1 : Keeps σ s1 := by rw [hs1]; exact (Keeps.refl _).push _
  have c1 : s1.get σ.next = some (.cells [.int .i64 n, v] none) := by rw [hs1]; exact Store.get_push_same _ _
  unfold p24
  rw [box_agg, nop_some, ← hs1]
  obtain ⟨s2, hs2⟩ : ∃ s2, s2 = s1.push (.cells (bc zb) none) := ⟨_, rfl⟩
  have k2 : Keeps s1 s2 := by rw [hs2]; exact (Keeps.refl _).push _
  have c2 : s2.get s1.next = some (.cells (bc zb) none) := by rw [hs2]; exact Store.get_push_same _ _
  have c3 := k2.get c1
  have kk := k1.trans k2
  have z1 := zb_len
  have hn1 : σ.next ≤ s1.next := k1.1
  simp -implicitDefEqProofs (maxSteps := 2000000) (disch := first|assumption|omega|rfl|(simp only[RD];done)|(simp only[RD];omega)) only [RN,Int.reduceBEq,Int.reduceBNe,Int.reduceLT,Int.reduceLE,Int.reduceAdd,Int.reduceSub,Int.reduceMul,Nat.reduceAdd,↓bc_flatz,↓bc_flat16,↓agg_bytez]
  rw [← hs2]
  refine lop1 (fun k y st => ∃ (i : Nat), k + i = L.length ∧ y = .int .i64 i ∧ st = s2 ∧ ∀ (j : Nat) p, j < i → L[j]? = some p → p.1 ≠ x) L.length ⟨0, rfl, rfl, rfl, fun j p hj => absurd hj (Nat.not_lt_zero _)⟩ ?_
  rintro k y st next ⟨i, hi, rfl, rfl, hne⟩ hnx
  have hv3 : SlR st 1025 v L.length (waitC L) := hv.keeps fun i o h => kk.get h
  by_cases h5 : (i : Int) < L.length
  · have h6 : i < L.length := by omega
    obtain ⟨p, hp⟩ : ∃ p, L[i]? = some p := ⟨_, List.getElem?_eq_getElem h6⟩
    obtain ⟨y, c⟩ := p
    have hb : c.length = 1024 := hl (y, c) (List.mem_of_getElem? hp)
    obtain ⟨a, o, q1, q2, q3⟩ := held_at hv3 hl hp
    by_cases hx : y = x
    · have e : (y == x) = true := by simp [hx]
      simp -implicitDefEqProofs (maxSteps := 2000000) (disch := first|assumption|omega|rfl|(simp only[RD];done)|(simp only[RD];omega)) only [RN,Int.reduceBEq,Int.reduceBNe,Int.reduceLT,Int.reduceLE,Int.reduceAdd,Int.reduceSub,Int.reduceMul,Nat.reduceAdd,↓bc_flatz,↓bc_flat16,↓agg_bytez, c3, hv3.len, decide_eq_true h5, q1, q2, e, q3, c2, hb, z1]
      have hf : f x = some c := by
        rw [← hx]; exact (hH.mem (y, c)).1 (List.mem_of_getElem? hp)
      rw [hf] at hq
      exact hq _ (kk.put _ hn1)
    · have e : (y == x) = false := by simp [hx]
      simp -implicitDefEqProofs (maxSteps := 2000000) (disch := first|assumption|omega|rfl|(simp only[RD];done)|(simp only[RD];omega)) only [RN,Int.reduceBEq,Int.reduceBNe,Int.reduceLT,Int.reduceLE,Int.reduceAdd,Int.reduceSub,Int.reduceMul,Nat.reduceAdd,↓bc_flatz,↓bc_flat16,↓agg_bytez, c3, hv3.len, decide_eq_true h5, q1, q2, e]
      refine hnx _ _ (by omega) ⟨i + 1, by omega, by congr 1, rfl, fun j p hj hpj => ?_⟩
      by_cases hji : j = i
      · subst hji
        rw [hp] at hpj
        rw [← Option.some.inj hpj]; exact hx
      · exact hne j p (by omega) hpj
  · have ei : i = L.length := by omega
    simp -implicitDefEqProofs (maxSteps := 2000000) (disch := first|assumption|omega|rfl|(simp only[RD];done)|(simp only[RD];omega)) only [RN,Int.reduceBEq,Int.reduceBNe,Int.reduceLT,Int.reduceLE,Int.reduceAdd,Int.reduceSub,Int.reduceMul,Nat.reduceAdd,↓bc_flatz,↓bc_flat16,↓agg_bytez, c3, hv3.len, decide_eq_false h5, c2, z1]
    have hf : f x = none := by
      cases hfx : f x with
      | none => rfl
      | some b =>
        have hm := (hH.mem (x, b)).2 hfx
        obtain ⟨j, hj, e⟩ := List.getElem_of_mem hm
        exact absurd rfl (hne j (x, b) (by omega) (by rw [List.getElem?_eq_getElem hj, e]))
    rw [hf] at hq
    exact hq _ (kk.put _ hn1)
theorem eq_held {x y : Int} {b c : List Int} (hb : b.length = 1024) (hc : c.length = 1024) : eqA (.fields [(0, 1, (.one (.int .i64))), (1, 1024, (.ints .u8 1024))]) true (.agg ⟨.int .i64 x :: bc b⟩) (.agg ⟨.int .i64 y :: bc c⟩) = some (.bool (!(decide (x = y) && decide (b = c)))) := by
  have e := eqInts_bc 1024 b c hb hc
  have tb : (bc b).take 1024 = bc b := List.take_of_length_le (by rw [bc_len]; omega)
  have tc : (bc c).take 1024 = bc c := List.take_of_length_le (by rw [bc_len]; omega)
  have hk : (IntKind.i64 == IntKind.i64) = true := rfl
  simp [eqA, eqD, eqDs, eqLeaf, eq1, tb, tc, e, hk]
  by_cases h : x = y <;> simp [h]
theorem same_ (hv : SlR σ 1025 v L.length (waitC L)) (hu : SlR σ 1025 u L'.length (waitC L')) (hl : ∀ p ∈ L, p.2.length = 1024) (hl' : ∀ p ∈ L', p.2.length = 1024) (hcap : L.length < 2 ^ 62) (hq : Q (.bool (decide (L = L'))) σ) :
    Does Try.prog 51 [v, u] σ Q := by
  refine d51 ?_
  by_cases h0 : L.length = L'.length
  · have e0 : (((L.length : Nat) : Int) != (L'.length : Nat)) = false := by simp [h0]
    simp -implicitDefEqProofs (maxSteps := 2000000) (disch := first|assumption|omega|rfl|(simp only[RD];done)|(simp only[RD];omega)) only [RN,Int.reduceBEq,Int.reduceBNe,Int.reduceLT,Int.reduceLE,Int.reduceAdd,Int.reduceSub,Int.reduceMul,Nat.reduceAdd,↓bc_flatz,↓bc_flat16,↓agg_bytez, p51, hv.len, hu.len, e0]
    refine lop1 (fun k y st => ∃ (i : Nat), k + i = L.length ∧ y = .int .i64 i ∧ st = σ ∧ L.take i = L'.take i) L.length ⟨0, rfl, rfl, rfl, rfl⟩ ?_
    rintro k y st next ⟨i, hi, rfl, rfl, ht⟩ hnx
    by_cases h5 : (i : Int) < L.length
    · have h6 : i < L.length := by omega
      obtain ⟨p, hp⟩ : ∃ p, L[i]? = some p := ⟨_, List.getElem?_eq_getElem h6⟩
      obtain ⟨q, hqq⟩ : ∃ q, L'[i]? = some q := ⟨_, List.getElem?_eq_getElem (by omega)⟩
      obtain ⟨x, b⟩ := p
      obtain ⟨y, c⟩ := q
      have hb : b.length = 1024 := hl (x, b) (List.mem_of_getElem? hp)
      have hc : c.length = 1024 := hl' (y, c) (List.mem_of_getElem? hqq)
      obtain ⟨a, o, q1, q2, q3, q4⟩ := hv.at (by omega) h6
      obtain ⟨a', o', r1, r2, r3, r4⟩ := hu.at (j := i) (by omega) (by omega)
      rw [waitC_at hl hp] at q3
      rw [waitC_at hl' hqq] at r3
      have eh := eq_held (x := x) (y := y) hb hc
      by_cases hxy : x = y ∧ b = c
      · rw [decide_eq_true hxy.1, decide_eq_true hxy.2] at eh
        simp -implicitDefEqProofs (maxSteps := 2000000) (disch := first|assumption|omega|rfl|(simp only[RD];done)|(simp only[RD];omega)) only [RN,Int.reduceBEq,Int.reduceBNe,Int.reduceLT,Int.reduceLE,Int.reduceAdd,Int.reduceSub,Int.reduceMul,Nat.reduceAdd,↓bc_flatz,↓bc_flat16,↓agg_bytez, hv.len, decide_eq_true h5, q1, q3, r1, r3, eh]
        refine hnx _ _ (by omega) ⟨i + 1, by omega, by congr 1, rfl, ?_⟩
        rw [List.take_add_one, List.take_add_one, hp, hqq, ht, hxy.1, hxy.2]
      · have e : (decide (x = y) && decide (b = c)) = false := by
          by_cases h1 : x = y
          · rw [decide_eq_false (fun h2 => hxy ⟨h1, h2⟩)]; simp
          · rw [decide_eq_false h1]; rfl
        rw [e] at eh
        simp -implicitDefEqProofs (maxSteps := 2000000) (disch := first|assumption|omega|rfl|(simp only[RD];done)|(simp only[RD];omega)) only [RN,Int.reduceBEq,Int.reduceBNe,Int.reduceLT,Int.reduceLE,Int.reduceAdd,Int.reduceSub,Int.reduceMul,Nat.reduceAdd,↓bc_flatz,↓bc_flat16,↓agg_bytez, hv.len, decide_eq_true h5, q1, q3, r1, r3, eh]
        rw [decide_eq_false (fun h => by rw [h, hqq] at hp; cases hp; exact hxy ⟨rfl, rfl⟩)] at hq
        exact hq
    · have e : i = L.length := by omega
      simp -implicitDefEqProofs (maxSteps := 2000000) (disch := first|assumption|omega|rfl|(simp only[RD];done)|(simp only[RD];omega)) only [RN,Int.reduceBEq,Int.reduceBNe,Int.reduceLT,Int.reduceLE,Int.reduceAdd,Int.reduceSub,Int.reduceMul,Nat.reduceAdd,↓bc_flatz,↓bc_flat16,↓agg_bytez, hv.len, decide_eq_false h5]
      rw [e, List.take_length, h0, List.take_length] at ht
      rw [decide_eq_true ht] at hq
      exact hq
  · have e0 : (((L.length : Nat) : Int) != (L'.length : Nat)) = true := by simp; omega
    simp -implicitDefEqProofs (maxSteps := 2000000) (disch := first|assumption|omega|rfl|(simp only[RD];done)|(simp only[RD];omega)) only [RN,Int.reduceBEq,Int.reduceBNe,Int.reduceLT,Int.reduceLE,Int.reduceAdd,Int.reduceSub,Int.reduceMul,Nat.reduceAdd,↓bc_flatz,↓bc_flat16,↓agg_bytez, p51, hv.len, hu.len, e0]
    rw [decide_eq_false (fun h => h0 (by rw [h]))] at hq
    exact hq
theorem sameim_ (hv : SlR σ 1025 v L.length (waitC L)) (hu : SlR σ 1025 u L'.length (waitC L')) (hl : ∀ p ∈ L, p.2.length = 1024) (hl' : ∀ p ∈ L', p.2.length = 1024) (hcap : L.length < 2 ^ 62) (hq : ∀ st', Keeps σ st' → Q (.bool (decide (L = L'))) st') :
    Does Try.prog 29 [.agg ⟨[.int .i64 n, v]⟩, .agg ⟨[.int .i64 n, u]⟩] σ Q := by
  refine d29 ?_
  obtain ⟨s1, hs1⟩ : ∃ s1, s1 = σ.push (.cells [.int .i64 n, v] none) := ⟨_, rfl⟩
  have k1 : Keeps σ s1 := by rw [hs1]; exact (Keeps.refl _).push _
  have c1 : s1.get σ.next = some (.cells [.int .i64 n, v] none) := by rw [hs1]; exact Store.get_push_same _ _
  obtain ⟨s2, hs2⟩ : ∃ s2, s2 = s1.push (.cells [.int .i64 n, u] none) := ⟨_, rfl⟩
  have k2 : Keeps s1 s2 := by rw [hs2]; exact (Keeps.refl _).push _
  have c2 : s2.get s1.next = some (.cells [.int .i64 n, u] none) := by rw [hs2]; exact Store.get_push_same _ _
  have c3 := k2.get c1
  have kk := k1.trans k2
  have en : (n == n) = true := by simp
  unfold p29
  rw [box_agg, nop_some, ← hs1, box_agg, nop_some, ← hs2]
  simp -implicitDefEqProofs (maxSteps := 2000000) (disch := first|assumption|omega|rfl|(simp only[RD];done)|(simp only[RD];omega)) only [RN,Int.reduceBEq,Int.reduceBNe,Int.reduceLT,Int.reduceLE,Int.reduceAdd,Int.reduceSub,Int.reduceMul,Nat.reduceAdd,↓bc_flatz,↓bc_flat16,↓agg_bytez, c3, c2, en]
  refine same_ (hv.keeps fun i o h => kk.get h) (hu.keeps fun i o h => kk.get h) hl hl' hcap ?_
  try simp -implicitDefEqProofs (maxSteps := 2000000) (disch := first|assumption|omega|rfl|(simp only[RD];done)|(simp only[RD];omega)) only [RN,Int.reduceBEq,Int.reduceBNe,Int.reduceLT,Int.reduceLE,Int.reduceAdd,Int.reduceSub,Int.reduceMul,Nat.reduceAdd,↓bc_flatz,↓bc_flat16,↓agg_bytez]
  exact hq _ kk
end Go.Proofs.Ytiaonndafhfkmaa
