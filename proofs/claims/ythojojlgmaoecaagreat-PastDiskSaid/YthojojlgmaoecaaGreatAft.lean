/- Contract of past.After. -/
import Derived.Test.YthojojlgmaoecaaGreatAft1
set_option linter.all false
set_option maxRecDepth 100000
set_option maxHeartbeats 800000
namespace Go.Proofs.YthojojlgmaoecaaGreat
open Go.Am
variable {σ : Store} {Q : Value → Store → Prop} {n : Int} {v u w : Value} {L : List HB} {O : List OP} {f : Int → Option (List Int)} {ks : List Bool}
/-- Blocks of a disk of n. -/
def GoodF (n : Int) (f : Int → Option (List Int)) : Prop := ∀ x b, f x = some b → 0 ≤ x ∧ x < n ∧ b.length = 1024
theorem wrF_good {o : OP} (h : GoodF n f) (hl : o.2.2.length = 1024) (ho : ¬ oddOp n o) : GoodF n (wrF f o) := by
  unfold wrF
  split
  · rename_i h1
    intro x b hb
    have hb : (if x = o.2.1 then some o.2.2 else f x) = some b := hb
    split at hb
    · rename_i hx
      have : ¬ (o.2.1 < 0 ∨ n ≤ o.2.1) := fun h2 => ho ⟨by omega, .inr h2⟩
      exact ⟨by omega, by omega, by rw [← Option.some.inj hb]; exact hl⟩
    · exact h x b hb
  · exact h
theorem sureF_good (h : GoodF n f) (hl : ∀ o ∈ O, o.2.2.length = 1024) (ho : ∀ o ∈ O, ¬ oddOp n o) : GoodF n (sureF f O) := by
  unfold sureF
  induction O generalizing f with
  | nil => exact h
  | cons o O ih => exact ih (wrF_good h (hl o (List.mem_cons_self ..)) (ho o (List.mem_cons_self ..))) (fun p hp => hl p (List.mem_cons_of_mem _ hp)) fun p hp => ho p (List.mem_cons_of_mem _ hp)
theorem openF_good {P : List Nat} (h : GoodF n f) (hl : ∀ o ∈ O, o.2.2.length = 1024) (ho : ∀ o ∈ O, ¬ oddOp n o) (hP : ∀ j ∈ P, j < O.length) : ∀ i, i ≤ P.length → GoodF n (openF f O P ks i)
  | 0, _ => h
  | i + 1, hi => by
    unfold openF
    have ih := openF_good h hl ho hP i (by omega)
    split
    · have hp : P.getD i 0 ∈ P := by
        rw [List.getD_eq_getElem?_getD, List.getElem?_eq_getElem (by omega : i < P.length)]
        exact List.getElem_mem _
      have hlt := hP _ hp
      have ho' : O.getD (P.getD i 0) (0, 0, []) ∈ O := by
        rw [List.getD_eq_getElem?_getD, List.getElem?_eq_getElem hlt]
        exact List.getElem_mem _
      exact wrF_good ih (hl _ ho') (ho _ ho')
    · exact ih
theorem load_good (h : okIm n L) (hl : ∀ p ∈ L, p.2.length = 1024) : GoodF n (ldF (fun _ => none) L) := fun x b hb => by
  have h1 := (load_W h).held x b hb
  exact ⟨h1.1, h1.2.1, ldF_len hl x b hb⟩
theorem aftF_good {k : Nat} (h : okIm n L) (hl : ∀ p ∈ L, p.2.length = 1024) (hlo : ∀ o ∈ O, o.2.2.length = 1024) (ho : ∀ o ∈ O, ¬ oddOp n o) (hk : k ≤ O.length) : GoodF n (aftF L O k ks) :=
  openF_good (sureF_good (load_good h hl) (fun o h => hlo o (List.mem_of_mem_take h)) fun o h => ho o (List.mem_of_mem_take h)) hlo ho (fun j hj => by have := pendL_lt hj; omega) _ (Nat.le_refl _)
theorem after_ {k : Int} (hv : SlR σ 1025 v L.length (waitC L)) (hl : ∀ p ∈ L, p.2.length = 1024) (hcap : L.length < 2 ^ 40) (hu : SlR σ 1026 u O.length (histC O)) (hlo : ∀ o ∈ O, o.2.2.length = 1024) (hcapo : O.length < 2 ^ 40) (huc : CapOk u) (hw : SlR σ 1 w ks.length (bC ks)) (hcapk : ks.length < 2 ^ 62)
    (hq1 : okIm n L → (∀ o ∈ O, ¬ oddOp n o) → 0 ≤ k → k ≤ O.length → ∀ A va st, HeldL (nbF (aftF L O k.toNat ks)) A → Keeps σ st → SlG st 1025 va A.length (waitC A) → (∀ i ∈ idsV va, σ.next ≤ i) → Q (.tuple #[.agg ⟨[.int .i64 n, va]⟩, .int .i64 0]) st)
    (hq2 : ¬ (okIm n L ∧ (∀ o ∈ O, ¬ oddOp n o) ∧ 0 ≤ k ∧ k ≤ O.length) → ∀ st, Keeps σ st → Q (.tuple #[.agg ⟨[.int .i64 0, .slice none 0 0]⟩, .int .i64 2]) st) :
    Does Tryz.prog 11 [.agg ⟨[.int .i64 n, v]⟩, u, .int .i64 k, w] σ Q := by
  refine d11 ?_
  have u2 : unrle [(1, Value.int .i64 0), (1, .slice none 0 0)] = [.int .i64 0, .slice none 0 0] := rfl
  have g2 : ([.int .i64 n, v] : List Value).length = 2 := rfl
  have g2' : ∀ v : Value, ([.int .i64 n, v] : List Value).length = 2 := fun _ => rfl
  have g3 : ([.int .i64 0, .slice none 0 0] : List Value).length = 2 := rfl
  obtain ⟨s1, hs1⟩ : ∃ s1, s1 = σ.push (.cells [.int .i64 n, v] none) := ⟨_, rfl⟩
  have k1 : Keeps σ s1 := by rw [hs1]; exact (Keeps.refl _).push _
  have c1 : s1.get σ.next = some (.cells [.int .i64 n, v] none) := by rw [hs1]; exact Store.get_push_same _ _
  have n1 : s1.next = σ.next + 1 := by rw [hs1, Store.next_push]
  obtain ⟨s2, hs2⟩ : ∃ s2, s2 = s1.push (.cells [.int .i64 0, .slice none 0 0] none) := ⟨_, rfl⟩
  have k2 : Keeps s1 s2 := by rw [hs2]; exact (Keeps.refl _).push _
  have c2 : s2.get s1.next = some (.cells [.int .i64 0, .slice none 0 0] none) := by rw [hs2]; exact Store.get_push_same _ _
  have n2 : s2.next = σ.next + 2 := by rw [hs2, Store.next_push, n1]
  have k12 := k1.trans k2
  have c1' := k2.get c1
  unfold p11
  rw [box_agg, nop_some, ← hs1, u2, nop_some, ← hs2]
  simp -implicitDefEqProofs (maxSteps := 2000000) (disch := first|assumption|omega|rfl|(simp only[RD];done)|(simp only[RD];omega)) only [RN,Int.reduceBEq,Int.reduceBNe,Int.reduceLT,Int.reduceLE,Int.reduceAdd,Int.reduceSub,Int.reduceMul,Nat.reduceAdd,↓bc_flatz,↓bc_flat16,↓agg_bytez, c1', g2]
  have bad : ¬ (okIm n L ∧ (∀ o ∈ O, ¬ oddOp n o) ∧ 0 ≤ k ∧ k ≤ O.length) → ∀ st, Keeps s2 st → p11_4 (.bool true) st (.pointer (some ⟨s1.next, 0, none⟩)) Q (.pointer (some ⟨σ.next, 0, none⟩)) u (.int .i64 k) w := fun hno st ks' => by
    have c3 := ks'.get c2
    simp -implicitDefEqProofs (maxSteps := 2000000) (disch := first|assumption|omega|rfl|(simp only[RD];done)|(simp only[RD];omega)) only [RN,Int.reduceBEq,Int.reduceBNe,Int.reduceLT,Int.reduceLE,Int.reduceAdd,Int.reduceSub,Int.reduceMul,Nat.reduceAdd,↓bc_flatz,↓bc_flat16,↓agg_bytez, p11_4, c3, g3]
    exact hq2 hno _ ⟨by rw [next_max]; have := ks'.1; omega, fun j hj => by rw [get_put_ne' (by omega), ks'.2 j (by omega), k12.2 j hj]⟩
  refine may_ (hv.keeps fun i o h => k12.get h) hl (by omega) (hu.keeps fun i o h => k12.get h) hlo (by omega) (fun hok hod st k3 => ?_) fun hno st k3 => ?_
  rotate_left
  · simp -implicitDefEqProofs (maxSteps := 2000000) (disch := first|assumption|omega|rfl|(simp only[RD];done)|(simp only[RD];omega)) only [RN,Int.reduceBEq,Int.reduceBNe,Int.reduceLT,Int.reduceLE,Int.reduceAdd,Int.reduceSub,Int.reduceMul,Nat.reduceAdd,↓bc_flatz,↓bc_flat16,↓agg_bytez]
    exact bad (fun h => hno ⟨h.1, h.2.1⟩) st k3
  have hlen := hu.len
  by_cases h1 : k < 0
  · simp -implicitDefEqProofs (maxSteps := 2000000) (disch := first|assumption|omega|rfl|(simp only[RD];done)|(simp only[RD];omega)) only [RN,Int.reduceBEq,Int.reduceBNe,Int.reduceLT,Int.reduceLE,Int.reduceAdd,Int.reduceSub,Int.reduceMul,Nat.reduceAdd,↓bc_flatz,↓bc_flat16,↓agg_bytez, decide_eq_true h1]
    exact bad (fun h => by omega) st k3
  by_cases h2 : (O.length : Int) < k
  · simp -implicitDefEqProofs (maxSteps := 2000000) (disch := first|assumption|omega|rfl|(simp only[RD];done)|(simp only[RD];omega)) only [RN,Int.reduceBEq,Int.reduceBNe,Int.reduceLT,Int.reduceLE,Int.reduceAdd,Int.reduceSub,Int.reduceMul,Nat.reduceAdd,↓bc_flatz,↓bc_flat16,↓agg_bytez, decide_eq_false h1, hlen, decide_eq_true h2]
    exact bad (fun h => by omega) st k3
  simp -implicitDefEqProofs (maxSteps := 2000000) (disch := first|assumption|omega|rfl|(simp only[RD];done)|(simp only[RD];omega)) only [RN,Int.reduceBEq,Int.reduceBNe,Int.reduceLT,Int.reduceLE,Int.reduceAdd,Int.reduceSub,Int.reduceMul,Nat.reduceAdd,↓bc_flatz,↓bc_flat16,↓agg_bytez, decide_eq_false h1, hlen, decide_eq_false h2]
  obtain ⟨kn, rfl⟩ : ∃ kn : Nat, k = (kn : Nat) := ⟨k.toNat, by omega⟩
  rw [Int.toNat_natCast] at hq1
  have hq1 := hq1 hok hod (by omega) (by omega)
  have k03 := k12.trans k3
  have c3 := k3.get c1'
  simp -implicitDefEqProofs (maxSteps := 2000000) (disch := first|assumption|omega|rfl|(simp only[RD];done)|(simp only[RD];omega)) only [RN,Int.reduceBEq,Int.reduceBNe,Int.reduceLT,Int.reduceLE,Int.reduceAdd,Int.reduceSub,Int.reduceMul,Nat.reduceAdd,↓bc_flatz,↓bc_flat16,↓agg_bytez, p11_4, c3, g2]
  refine pheld_ (hv.keeps fun i o h => k03.get h) hl hcap fun s4 r k4 hr m4 => ?_
  have k04 := k03.trans k4
  have c4 := k4.get c3
  have d4 := k4.get (k3.get c2)
  have hrl := m4.lt
  obtain ⟨s5, hs5⟩ : ∃ s5, s5 = s4.push (.cells [.map (some r)] none) := ⟨_, rfl⟩
  have k5 : Keeps s4 s5 := by rw [hs5]; exact (Keeps.refl _).push _
  have b5 : s5.get s4.next = some (.cells [.map (some r)] none) := by rw [hs5]; exact Store.get_push_same _ _
  have n5 : s5.next = s4.next + 1 := by rw [hs5, Store.next_push]
  have k05 := k04.trans k5
  have m5 := m4.same (k5.2 _ hrl)
  have hst2 : σ.next + 2 ≤ st.next := by have := k3.1; omega
  simp -implicitDefEqProofs (maxSteps := 2000000) (disch := first|assumption|omega|rfl|(simp only[RD];done)|(simp only[RD];omega)) only [RN,Int.reduceBEq,Int.reduceBNe,Int.reduceLT,Int.reduceLE,Int.reduceAdd,Int.reduceSub,Int.reduceMul,Nat.reduceAdd,↓bc_flatz,↓bc_flat16,↓agg_bytez]
  rw [← hs5]
  have hsp := splitL_le O kn
  have hu5 : SlR s5 1026 u O.length (histC O) := hu.keeps fun i o h => k05.get h
  refine split_ hu5 hlo (by omega) (by omega) ?_
  obtain ⟨x, hx1, hx2⟩ := SlR_cut hu5 huc (m := splitL O kn) (by omega)
  have hcx : (histC O).take (splitL O kn * 1026) = histC (O.take (splitL O kn)) := by
    have : ∀ (O : List OP) (m : Nat), (∀ o ∈ O, o.2.2.length = 1024) → (histC O).take (m * 1026) = histC (O.take m) := by
      intro O
      induction O with
      | nil => intro m _; simp [histC]
      | cons o O ih =>
        intro m h
        cases m with
        | zero => simp [histC]
        | succ m =>
          have hp := opC_len (h o (List.mem_cons_self ..))
          rw [histC_cons, List.take_succ_cons, histC_cons, show (m + 1) * 1026 = (opC o).length + m * 1026 by rw [hp]; omega, List.take_length_add_append, ih m fun p hp => h p (List.mem_cons_of_mem _ hp)]
    exact this O _ hlo
  have hxl : (O.take (splitL O kn)).length = splitL O kn := by rw [List.length_take]; omega
  rw [hcx] at hx2
  simp -implicitDefEqProofs (maxSteps := 2000000) (disch := first|assumption|omega|rfl|(simp only[RD];done)|(simp only[RD];omega)) only [RN,Int.reduceBEq,Int.reduceBNe,Int.reduceLT,Int.reduceLE,Int.reduceAdd,Int.reduceSub,Int.reduceMul,Nat.reduceAdd,↓bc_flatz,↓bc_flat16,↓agg_bytez, hx1, hx2.len]
  have hO1 : ∀ o ∈ O.take (splitL O kn), o.2.2.length = 1024 := fun o h => hlo o (List.mem_of_mem_take h)
  refine lop1 (fun m y t => ∃ i : Nat, m + i = splitL O kn ∧ y = .int .i64 i ∧ s5.next ≤ t.next ∧ (∀ j, j < s5.next → j ≠ r → t.get j = s5.get j) ∧ MapAt t r fun x => (sureF (ldF (fun _ => none) L) ((O.take (splitL O kn)).take i) x).map bv) (splitL O kn) ⟨0, by omega, rfl, Nat.le_refl _, fun j _ _ => rfl, m5⟩ ?_
  rintro m y t next ⟨i, hi, rfl, t1, t2, t3⟩ hnx
  have old : ∀ j o, σ.get j = some o → t.get j = some o := fun j o h => by
    have := Store.lt_of_get h
    rw [t2 j (by have := k05.1; omega) (by omega), k05.get h]
  have bt : t.get s4.next = some (.cells [.map (some r)] none) := by rw [t2 _ (by omega) (by omega), b5]
  by_cases h5 : (i : Int) < (splitL O kn : Nat)
  · have h6 : i < (O.take (splitL O kn)).length := by omega
    obtain ⟨o, ho⟩ : ∃ o, (O.take (splitL O kn))[i]? = some o := ⟨_, List.getElem?_eq_getElem h6⟩
    have hsn := sureF_snoc (f := ldF (fun _ => none) L) ho
    obtain ⟨c, a, b⟩ := o
    have hb : b.length = 1024 := hO1 (c, a, b) (List.mem_of_getElem? ho)
    have hx3 : SlR t 1026 x (O.take (splitL O kn)).length (histC (O.take (splitL O kn))) := by
      rw [hxl]
      refine ⟨hx2.1, ?_⟩
      rcases hx2.2 with h | ⟨i', o', g', kk, obj, d, e1, e2, e3, e4, e5⟩
      · exact .inl h
      · have hne : i' ≠ r := fun e => by
          obtain ⟨l', ck', hg', _⟩ := m5
          rw [e, hg'] at e3
          cases e3; cases e4
        exact .inr ⟨i', o', g', kk, obj, d, e1, e2, by rw [t2 i' (Store.lt_of_get e3) hne, e3], e4, e5⟩
    obtain ⟨ib, ob, q1, _, _, _, q2⟩ := op_at hx3 hO1 ho
    obtain ⟨s6, hs6⟩ : ∃ s6, s6 = t.push (.cells (.int .u8 c :: .int .i64 a :: bc b) none) := ⟨_, rfl⟩
    have k6 : Keeps t s6 := by rw [hs6]; exact (Keeps.refl _).push _
    have c6 : s6.get t.next = some (.cells (.int .u8 c :: .int .i64 a :: bc b) none) := by rw [hs6]; exact Store.get_push_same _ _
    have l26 : (Value.int .u8 c :: Value.int .i64 a :: bc b).length = 1026 := by simp [hb]
    simp -implicitDefEqProofs (maxSteps := 2000000) (disch := first|assumption|omega|rfl|(simp only[RD];done)|(simp only[RD];omega)) only [RN,Int.reduceBEq,Int.reduceBNe,Int.reduceLT,Int.reduceLE,Int.reduceAdd,Int.reduceSub,Int.reduceMul,Nat.reduceAdd,↓bc_flatz,↓bc_flat16,↓agg_bytez, p11_3, decide_eq_true h5, q1, q2, l26]
    rw [← hs6]
    try simp -implicitDefEqProofs (maxSteps := 2000000) (disch := first|assumption|omega|rfl|(simp only[RD];done)|(simp only[RD];omega)) only [RN,Int.reduceBEq,Int.reduceBNe,Int.reduceLT,Int.reduceLE,Int.reduceAdd,Int.reduceSub,Int.reduceMul,Nat.reduceAdd,↓bc_flatz,↓bc_flat16,↓agg_bytez, c6, l26]
    rw [cop_func (by kernel_rfl)]
    refine made_ hb (k6.get bt) (t3.same (k6.2 _ t3.lt)) fun s7 e1 e2 e3 => ?_
    try simp -implicitDefEqProofs (maxSteps := 2000000) (disch := first|assumption|omega|rfl|(simp only[RD];done)|(simp only[RD];omega)) only [RN,Int.reduceBEq,Int.reduceBNe,Int.reduceLT,Int.reduceLE,Int.reduceAdd,Int.reduceSub,Int.reduceMul,Nat.reduceAdd,↓bc_flatz,↓bc_flat16,↓agg_bytez]
    refine hnx _ _ (by omega) ⟨i + 1, by omega, by congr 1, by have := k6.1; omega, fun j hj hjr => ?_, ?_⟩
    · have := k6.1
      rw [e2 j (by omega) hjr, k6.2 j (by omega), t2 j hj hjr]
    · rw [hsn]; exact e3
  have hii : i = splitL O kn := by omega
  subst hii
  rw [show (O.take (splitL O kn)).take (splitL O kn) = O.take (splitL O kn) by rw [List.take_take, Nat.min_self]] at t3
  simp -implicitDefEqProofs (maxSteps := 2000000) (disch := first|assumption|omega|rfl|(simp only[RD];done)|(simp only[RD];omega)) only [RN,Int.reduceBEq,Int.reduceBNe,Int.reduceLT,Int.reduceLE,Int.reduceAdd,Int.reduceSub,Int.reduceMul,Nat.reduceAdd,↓bc_flatz,↓bc_flat16,↓agg_bytez, p11_3, decide_eq_false h5]
  have hut : SlR t 1026 u O.length (histC O) := hu.keeps old
  refine ppending_ hut hlo hcapo (by omega) fun s6 z k6 hz hzi => ?_
  rw [Int.toNat_natCast] at hz
  have hzl : lenSl z = some (.int .i64 ((pendL O kn).length : Nat)) := hz.len
  simp -implicitDefEqProofs (maxSteps := 2000000) (disch := first|assumption|omega|rfl|(simp only[RD];done)|(simp only[RD];omega)) only [RN,Int.reduceBEq,Int.reduceBNe,Int.reduceLT,Int.reduceLE,Int.reduceAdd,Int.reduceSub,Int.reduceMul,Nat.reduceAdd,↓bc_flatz,↓bc_flat16,↓agg_bytez, hzl]
  have hPl : (pendL O kn).length ≤ kn := by have := pendR_len O (splitL O kn) kn; unfold pendL; omega
  refine lop1 (fun m y t' => ∃ i : Nat, m + i = (pendL O kn).length ∧ y = .int .i64 i ∧ s6.next ≤ t'.next ∧ (∀ j, j < s6.next → j ≠ r → t'.get j = s6.get j) ∧ MapAt t' r fun x => (openF (sureF (ldF (fun _ => none) L) (O.take (splitL O kn))) O (pendL O kn) ks i x).map bv) (pendL O kn).length ⟨0, by omega, rfl, Nat.le_refl _, fun j _ _ => rfl, t3.same (k6.2 _ t3.lt)⟩ ?_
  rintro m y t' next' ⟨i, hi, rfl, q1, q2, q3⟩ hnx'
  have hrt : r < t.next := t3.lt
  have hk6 := k6.1
  have hk05 := k05.1
  have old' : ∀ j o, σ.get j = some o → t'.get j = some o := fun j o h => by
    have := Store.lt_of_get h
    rw [q2 j (by omega) (by omega), k6.2 j (by omega), old j o h]
  by_cases h7 : (i : Int) < ((pendL O kn).length : Nat)
  · have h8 : i < (pendL O kn).length := by omega
    obtain ⟨at', hat⟩ : ∃ a, (pendL O kn)[i]? = some a := ⟨_, List.getElem?_eq_getElem h8⟩
    have hatm : at' ∈ pendL O kn := List.mem_of_getElem? hat
    have hatl := pendL_lt hatm
    have hz3 : SlG t' 1 z (pendL O kn).length (nC (pendL O kn)) := hz.same fun j hj => q2 j (hz.lt j hj) (fun e => by have := hzi j hj; omega)
    obtain ⟨iz, oz, z1, z2⟩ := one_at hz3.r (show (nC (pendL O kn))[i]? = some (.int .i64 (at' : Nat)) by simp [nC, hat]) h8
    have hw3 : SlR t' 1 w ks.length (bC ks) := hw.keeps old'
    have hPg : (pendL O kn).getD i 0 = at' := by rw [List.getD_eq_getElem?_getD, hat]; rfl
    have hcase : (i < ks.length ∧ ks.getD i false = true) ∨ ks.getD i false = false := by
      by_cases hik : i < ks.length
      · cases h : ks.getD i false
        · exact .inr rfl
        · exact .inl ⟨hik, rfl⟩
      · right
        rw [List.getD_eq_getElem?_getD, List.getElem?_eq_none (by omega)]; rfl
    rcases hcase with ⟨hik, hkt⟩ | hkf
    · obtain ⟨iw, ow, w1, w2⟩ := one_at hw3 (show (bC ks)[i]? = some (.bool true) by
        rw [List.getD_eq_getElem?_getD] at hkt
        rw [List.getElem?_eq_getElem hik] at hkt
        simp only [Option.getD_some] at hkt
        simp [bC, List.getElem?_eq_getElem hik, hkt]) hik
      have hik' : (i : Int) < (ks.length : Nat) := by omega
      obtain ⟨o, ho⟩ : ∃ o, O[at']? = some o := ⟨_, List.getElem?_eq_getElem (by omega)⟩
      have hOg : O.getD at' (0, 0, []) = o := by rw [List.getD_eq_getElem?_getD, ho]; rfl
      obtain ⟨c, a, b⟩ := o
      have hb : b.length = 1024 := hlo (c, a, b) (List.mem_of_getElem? ho)
      obtain ⟨ib, ob, o1, _, _, _, o2⟩ := op_at (hu.keeps old') hlo ho
      simp -implicitDefEqProofs (maxSteps := 2000000) (disch := first|assumption|omega|rfl|(simp only[RD];done)|(simp only[RD];omega)) only [RN,Int.reduceBEq,Int.reduceBNe,Int.reduceLT,Int.reduceLE,Int.reduceAdd,Int.reduceSub,Int.reduceMul,Nat.reduceAdd,↓bc_flatz,↓bc_flat16,↓agg_bytez, p11_2, p11_1, decide_eq_true h7, z1, z2, hw3.len, decide_eq_true hik', w1, w2, o1, o2]
      rw [cop_func (by kernel_rfl)]
      have bt' : t'.get s4.next = some (.cells [.map (some r)] none) := by rw [q2 _ (by omega) (by omega), k6.2 _ (by omega), bt]
      refine made_ hb bt' q3 fun s7 e1 e2 e3 => ?_
      try simp -implicitDefEqProofs (maxSteps := 2000000) (disch := first|assumption|omega|rfl|(simp only[RD];done)|(simp only[RD];omega)) only [RN,Int.reduceBEq,Int.reduceBNe,Int.reduceLT,Int.reduceLE,Int.reduceAdd,Int.reduceSub,Int.reduceMul,Nat.reduceAdd,↓bc_flatz,↓bc_flat16,↓agg_bytez]
      refine hnx' _ _ (by omega) ⟨i + 1, by omega, by congr 1, by omega, fun j hj hjr => by rw [e2 j (by omega) hjr, q2 j hj hjr], ?_⟩
      have e : openF (sureF (ldF (fun _ => none) L) (O.take (splitL O kn))) O (pendL O kn) ks (i + 1) = wrF (openF (sureF (ldF (fun _ => none) L) (O.take (splitL O kn))) O (pendL O kn) ks i) (c, a, b) := by
        conv => lhs; unfold openF
        rw [if_pos hkt, hPg, hOg]
      rw [e]; exact e3
    · have e : openF (sureF (ldF (fun _ => none) L) (O.take (splitL O kn))) O (pendL O kn) ks (i + 1) = openF (sureF (ldF (fun _ => none) L) (O.take (splitL O kn))) O (pendL O kn) ks i := by
        conv => lhs; unfold openF
        rw [if_neg (by rw [hkf]; exact Bool.false_ne_true)]
      have fin : MapAt t' r fun x => (openF (sureF (ldF (fun _ => none) L) (O.take (splitL O kn))) O (pendL O kn) ks (i + 1) x).map bv := by rw [e]; exact q3
      by_cases hik : i < ks.length
      · obtain ⟨iw, ow, w1, w2⟩ := one_at hw3 (show (bC ks)[i]? = some (.bool false) by
          rw [List.getD_eq_getElem?_getD] at hkf
          rw [List.getElem?_eq_getElem hik] at hkf
          simp only [Option.getD_some] at hkf
          simp [bC, List.getElem?_eq_getElem hik, hkf]) hik
        have hik' : (i : Int) < (ks.length : Nat) := by omega
        simp -implicitDefEqProofs (maxSteps := 2000000) (disch := first|assumption|omega|rfl|(simp only[RD];done)|(simp only[RD];omega)) only [RN,Int.reduceBEq,Int.reduceBNe,Int.reduceLT,Int.reduceLE,Int.reduceAdd,Int.reduceSub,Int.reduceMul,Nat.reduceAdd,↓bc_flatz,↓bc_flat16,↓agg_bytez, p11_2, p11_1, decide_eq_true h7, z1, z2, hw3.len, decide_eq_true hik', w1, w2]
        exact hnx' _ _ (by omega) ⟨i + 1, by omega, by congr 1, q1, q2, fin⟩
      · have hik' : ¬ (i : Int) < (ks.length : Nat) := by omega
        simp -implicitDefEqProofs (maxSteps := 2000000) (disch := first|assumption|omega|rfl|(simp only[RD];done)|(simp only[RD];omega)) only [RN,Int.reduceBEq,Int.reduceBNe,Int.reduceLT,Int.reduceLE,Int.reduceAdd,Int.reduceSub,Int.reduceMul,Nat.reduceAdd,↓bc_flatz,↓bc_flat16,↓agg_bytez, p11_2, p11_1, decide_eq_true h7, z1, z2, hw3.len, decide_eq_false hik']
        exact hnx' _ _ (by omega) ⟨i + 1, by omega, by congr 1, q1, q2, fin⟩
  · have hii : i = (pendL O kn).length := by omega
    subst hii
    have c8 : t'.get σ.next = some (.cells [.int .i64 n, v] none) := by rw [q2 _ (by omega) (by omega), k6.2 _ (by omega), t2 _ (by omega) (by omega), k5.get c4]
    have b8 : t'.get s4.next = some (.cells [.map (some r)] none) := by rw [q2 _ (by omega) (by omega), k6.2 _ (by omega), bt]
    have d8 : t'.get s1.next = some (.cells [.int .i64 0, .slice none 0 0] none) := by rw [q2 _ (by omega) (by omega), k6.2 _ (by omega), t2 _ (by omega) (by omega), k5.get d4]
    simp -implicitDefEqProofs (maxSteps := 2000000) (disch := first|assumption|omega|rfl|(simp only[RD];done)|(simp only[RD];omega)) only [RN,Int.reduceBEq,Int.reduceBNe,Int.reduceLT,Int.reduceLE,Int.reduceAdd,Int.reduceSub,Int.reduceMul,Nat.reduceAdd,↓bc_flatz,↓bc_flat16,↓agg_bytez, p11_2, decide_eq_false h7, c8, b8]
    have hgood : GoodF n (aftF L O kn ks) := aftF_good hok hl hlo hod (by omega)
    refine image_ q3 hok.2.1 (fun x b h => ⟨(hgood x b h).1, (hgood x b h).2.1⟩) (fun x b h => (hgood x b h).2.2) fun A va s8 hA k8 hva hvi => ?_
    have d9 := k8.get d8
    simp -implicitDefEqProofs (maxSteps := 2000000) (disch := first|assumption|omega|rfl|(simp only[RD];done)|(simp only[RD];omega)) only [RN,Int.reduceBEq,Int.reduceBNe,Int.reduceLT,Int.reduceLE,Int.reduceAdd,Int.reduceSub,Int.reduceMul,Nat.reduceAdd,↓bc_flatz,↓bc_flat16,↓agg_bytez, d9, g2']
    have hnx8 := k8.1
    refine hq1 A va _ hA ⟨by rw [next_max]; omega, fun j hj => ?_⟩ (hva.same fun j hj => by have := hvi j hj; rw [get_put_ne' (by omega)]) fun j hj => by have := hvi j hj; omega
    rw [get_put_ne' (by omega), k8.2 j (by omega), q2 j (by omega) (by omega), k6.2 j (by omega), t2 j (by omega) (by omega), k05.2 j hj]
end Go.Proofs.YthojojlgmaoecaaGreat
