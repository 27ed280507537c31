/- Contract of past.Block. -/
import Derived.Test.YthojojlgmaoecaaGreatAdd5
set_option linter.all false
set_option maxRecDepth 100000
set_option maxHeartbeats 1600000
namespace Go.Proofs.YthojojlgmaoecaaGreat
open Go.Am
variable {σ : Store} {Q : Value → Store → Prop} {n at' : Int} {v u w : Value} {L A : List HB} {O : List OP} {g : Int → Option (List Int)} {ks : List Bool}
theorem held_ld (h : HeldL g A) (x : Int) : ldF (fun _ => none) A x = g x := by
  rw [ldF_get]
  cases hl : lastOf A x with
  | some b => exact ((h.mem (x, b)).1 ((lastOf_asc h.asc (x, b)).1 hl)).symm
  | none =>
    cases hg : g x with
    | none => rfl
    | some b =>
      have := (lastOf_asc h.asc (x, b)).2 ((h.mem (x, b)).2 hg)
      rw [hl] at this; cases this
theorem nbF_some {x : Int} {b : List Int} (h : nbF g x = some b) : g x = some b ∧ b ≠ zb := by
  unfold nbF at h
  cases hfq : g x with
  | none => rw [hfq] at h; cases h
  | some c =>
    rw [hfq] at h
    have h : (if c = zb then none else some c) = some b := h
    split at h
    · cases h
    · rename_i h1
      rw [← Option.some.inj h]; exact ⟨rfl, h1⟩
theorem nbF_getD (x : Int) : (nbF g x).getD zb = (g x).getD zb := by
  unfold nbF
  cases hfq : g x with
  | none => rfl
  | some c =>
    show (if c = zb then none else some c : Option (List Int)).getD zb = c
    by_cases h : c = zb
    · rw [if_pos h, h]; rfl
    · rw [if_neg h]; rfl
theorem nb_len (hg : GoodF n g) (h : HeldL (nbF g) A) : ∀ p ∈ A, p.2.length = 1024 := fun p hp => (hg _ _ (nbF_some ((h.mem p).1 hp)).1).2.2
theorem nb_few (hg : GoodF n g) (hn : 0 ≤ n) (h : HeldL (nbF g) A) : (A.length : Int) ≤ n := by
  rcases nodup_ints h.keys (n := n) fun x hx => by
    obtain ⟨p, hp, rfl⟩ := List.mem_map.1 hx
    have := hg _ _ (nbF_some ((h.mem p).1 hp)).1
    exact ⟨this.1, this.2.1⟩ with h1 | h1
  · rw [List.length_map] at h1; exact h1
  · have : A = [] := by simpa using h1
    rw [this]; simpa using hn
/-- All that a block may be. -/
def blkI (f : Int → Option (List Int)) (O : List OP) (P : List Nat) (at' : Int) : Nat → List (List Int)
  | 0 => [(f at').getD zb]
  | i + 1 => if (O.getD (P.getD i 0) (0, 0, [])).2.1 = at' then addU (blkI f O P at' i) (O.getD (P.getD i 0) (0, 0, [])).2.2 else blkI f O P at' i
def blkL (L : List HB) (O : List OP) (k : Nat) (at' : Int) : List (List Int) := blkI (aftF L O k []) O (pendL O k) at' (pendL O k).length
theorem blkI_le {f : Int → Option (List Int)} {P : List Nat} : ∀ i, (blkI f O P at' i).length ≤ i + 1
  | 0 => by simp [blkI]
  | i + 1 => by
    have ih := blkI_le (f := f) (P := P) i
    unfold blkI
    split
    · have := addU_le (l := blkI f O P at' i) (b := (O.getD (P.getD i 0) (0, 0, [])).2.2); omega
    · omega
theorem AddC.keep {σ' : Store} {ia im il r : Nat} {vl : Value} {a : Int} {l : List (List Int)} (h : AddC σ ia im il r vl a l) (k : Keeps σ σ') : AddC σ' ia im il r vl a l :=
  ⟨k.get h.at_, k.get h.m, k.get h.lb, h.seen.same (k.2 _ h.seen.lt), h.lst.same fun j hj => k.2 j (h.lst.lt j hj), h.len, h.ne⟩
theorem block_ {k : Int} (hv : SlR σ 1025 v L.length (waitC L)) (hl : ∀ p ∈ L, p.2.length = 1024) (hcap : L.length < 2 ^ 40) (hu : SlR σ 1026 u O.length (histC O)) (hlo : ∀ o ∈ O, o.2.2.length = 1024) (hcapo : O.length < 2 ^ 29) (huc : CapOk u)
    (hq1 : okIm n L → (∀ o ∈ O, ¬ oddOp n o) → 0 ≤ k → k ≤ O.length → 0 ≤ at' → at' < n → ∀ vl st, Keeps σ st → SlG st 1024 vl (blkL L O k.toNat at').length (bc (blkL L O k.toNat at').flatten) → (∀ c ∈ blkL L O k.toNat at', c.length = 1024) → (∀ i ∈ idsV vl, σ.next ≤ i) → Q (.tuple #[vl, .int .i64 0]) st)
    (hq2 : ¬ (okIm n L ∧ (∀ o ∈ O, ¬ oddOp n o) ∧ 0 ≤ k ∧ k ≤ O.length ∧ 0 ≤ at' ∧ at' < n) → ∀ st, Keeps σ st → Q (.tuple #[.slice none 0 0, .int .i64 2]) st) :
    Does Tryz.prog 18 [.agg ⟨[.int .i64 n, v]⟩, u, .int .i64 k, .int .i64 at'] σ Q := by
  refine d18 ?_
  have bx : boxN (.int .i64 at') = some (.cells [.int .i64 at'] none, ptrTo) := rfl
  have g2' : ∀ (n : Int) (v : Value), ([.int .i64 n, v] : List Value).length = 2 := fun _ _ => rfl
  have u2 : unrle [(1, Value.int .i64 0), (1, .slice none 0 0)] = [.int .i64 0, .slice none 0 0] := rfl
  have y0 : ∀ a b, extractV (.tuple #[a, b]) 0 = some a := fun _ _ => rfl
  have y1 : ∀ a b, extractV (.tuple #[a, b]) 1 = some b := fun _ _ => rfl
  obtain ⟨s1, hs1⟩ : ∃ s1, s1 = σ.push (.cells [.int .i64 n, v] none) := ⟨_, rfl⟩
  have k1 : Keeps σ s1 := by rw [hs1]; exact (Keeps.refl _).push _
  have c1 : s1.get σ.next = some (.cells [.int .i64 n, v] none) := by rw [hs1]; exact Store.get_push_same _ _
  have n1 : s1.next = σ.next + 1 := by rw [hs1, Store.next_push]
  obtain ⟨s2, hs2⟩ : ∃ s2, s2 = s1.push (.cells [.int .i64 at'] none) := ⟨_, rfl⟩
  have k2 : Keeps s1 s2 := by rw [hs2]; exact (Keeps.refl _).push _
  have c2 : s2.get s1.next = some (.cells [.int .i64 at'] none) := by rw [hs2]; exact Store.get_push_same _ _
  have n2 : s2.next = σ.next + 2 := by rw [hs2, Store.next_push, n1]
  have k12 := k1.trans k2
  have c1' := k2.get c1
  unfold p18
  rw [box_agg, nop_some, ← hs1, bx, nop_some, ← hs2]
  simp -implicitDefEqProofs (maxSteps := 2000000) (disch := first|assumption|omega|rfl|(simp only[RD];done)|(simp only[RD];omega)) only [RN,Int.reduceBEq,Int.reduceBNe,Int.reduceLT,Int.reduceLE,Int.reduceAdd,Int.reduceSub,Int.reduceMul,Nat.reduceAdd,↓bc_flatz,↓bc_flat16,↓agg_bytez, c1', g2']
  refine after_ (ks := []) (hv.keeps fun i o h => k12.get h) hl hcap (hu.keeps fun i o h => k12.get h) hlo (by omega) huc SlR.nil (by simp) (fun hok hod h1 h2 A va st hA k3 hva hvi => ?_) fun hno st k3 => ?_
  rotate_left
  · have k03 := k12.trans k3
    have c3 := k3.get c1'
    have d3 := k3.get c2
    obtain ⟨s4, hs4⟩ : ∃ s4, s4 = st.push (.cells [.int .i64 0, .slice none 0 0] none) := ⟨_, rfl⟩
    have k4 : Keeps st s4 := by rw [hs4]; exact (Keeps.refl _).push _
    simp -implicitDefEqProofs (maxSteps := 2000000) (disch := first|assumption|omega|rfl|(simp only[RD];done)|(simp only[RD];omega)) only [RN,Int.reduceBEq,Int.reduceBNe,Int.reduceLT,Int.reduceLE,Int.reduceAdd,Int.reduceSub,Int.reduceMul,Nat.reduceAdd,↓bc_flatz,↓bc_flat16,↓agg_bytez, y0, y1, u2, g2']
    rw [← hs4]
    simp -implicitDefEqProofs (maxSteps := 2000000) (disch := first|assumption|omega|rfl|(simp only[RD];done)|(simp only[RD];omega)) only [RN,Int.reduceBEq,Int.reduceBNe,Int.reduceLT,Int.reduceLE,Int.reduceAdd,Int.reduceSub,Int.reduceMul,Nat.reduceAdd,↓bc_flatz,↓bc_flat16,↓agg_bytez, p18_3]
    exact hq2 (fun h => hno ⟨h.1, h.2.1, h.2.2.1, h.2.2.2.1⟩) _ (k03.trans k4)
  have k03 := k12.trans k3
  have c3 := k3.get c1'
  have d3 := k3.get c2
  obtain ⟨s4, hs4⟩ : ∃ s4, s4 = st.push (.cells [.int .i64 n, va] none) := ⟨_, rfl⟩
  have k4 : Keeps st s4 := by rw [hs4]; exact (Keeps.refl _).push _
  have e4 : s4.get st.next = some (.cells [.int .i64 n, va] none) := by rw [hs4]; exact Store.get_push_same _ _
  have n4 : s4.next = st.next + 1 := by rw [hs4, Store.next_push]
  have k04 := k03.trans k4
  have c4 := k4.get c3
  have d4 := k4.get d3
  have hva4 : SlG s4 1025 va A.length (waitC A) := hva.same fun j hj => k4.2 j (hva.lt j hj)
  simp -implicitDefEqProofs (maxSteps := 2000000) (disch := first|assumption|omega|rfl|(simp only[RD];done)|(simp only[RD];omega)) only [RN,Int.reduceBEq,Int.reduceBNe,Int.reduceLT,Int.reduceLE,Int.reduceAdd,Int.reduceSub,Int.reduceMul,Nat.reduceAdd,↓bc_flatz,↓bc_flat16,↓agg_bytez, y0, y1, u2, g2']
  rw [← hs4]
  by_cases h3 : at' < 0
  · simp -implicitDefEqProofs (maxSteps := 2000000) (disch := first|assumption|omega|rfl|(simp only[RD];done)|(simp only[RD];omega)) only [RN,Int.reduceBEq,Int.reduceBNe,Int.reduceLT,Int.reduceLE,Int.reduceAdd,Int.reduceSub,Int.reduceMul,Nat.reduceAdd,↓bc_flatz,↓bc_flat16,↓agg_bytez, d4, decide_eq_true h3, p18_3]
    exact hq2 (fun h => by omega) _ k04
  by_cases h4 : n ≤ at'
  · simp -implicitDefEqProofs (maxSteps := 2000000) (disch := first|assumption|omega|rfl|(simp only[RD];done)|(simp only[RD];omega)) only [RN,Int.reduceBEq,Int.reduceBNe,Int.reduceLT,Int.reduceLE,Int.reduceAdd,Int.reduceSub,Int.reduceMul,Nat.reduceAdd,↓bc_flatz,↓bc_flat16,↓agg_bytez, d4, decide_eq_false h3, p18_3, c4, decide_eq_true h4]
    exact hq2 (fun h => by omega) _ k04
  obtain ⟨kn, rfl⟩ : ∃ kn : Nat, k = (kn : Nat) := ⟨k.toNat, by omega⟩
  rw [Int.toNat_natCast] at hq1 hA
  have hq1 := hq1 hok hod h1 h2 (by omega) (by omega)
  obtain ⟨s5, hs5⟩ : ∃ s5, s5 = s4.push (.cells [.slice none 0 0] none) := ⟨_, rfl⟩
  have k5 : Keeps s4 s5 := by rw [hs5]; exact (Keeps.refl _).push _
  have b5 : s5.get s4.next = some (.cells [.slice none 0 0] none) := by rw [hs5]; exact Store.get_push_same _ _
  have n5 : s5.next = s4.next + 1 := by rw [hs5, Store.next_push]
  obtain ⟨s6, hs6⟩ : ∃ s6, s6 = s5.push (.map [] 0) := ⟨_, rfl⟩
  have k6 : Keeps s5 s6 := by rw [hs6]; exact (Keeps.refl _).push _
  have b6 : s6.get s5.next = some (.map [] 0) := by rw [hs6]; exact Store.get_push_same _ _
  have n6 : s6.next = s4.next + 2 := by rw [hs6, Store.next_push, n5]
  obtain ⟨s7, hs7⟩ : ∃ s7, s7 = s6.push (.cells [.map (some s5.next)] none) := ⟨_, rfl⟩
  have k7 : Keeps s6 s7 := by rw [hs7]; exact (Keeps.refl _).push _
  have b7 : s7.get s6.next = some (.cells [.map (some s5.next)] none) := by rw [hs7]; exact Store.get_push_same _ _
  have n7 : s7.next = s4.next + 3 := by rw [hs7, Store.next_push, n6]
  have k47 := (k5.trans k6).trans k7
  have k07 := k04.trans k47
  have e7 := k47.get e4
  have d7 := k47.get d4
  have hva7 : SlG s7 1025 va A.length (waitC A) := hva4.same fun j hj => k47.2 j (hva4.lt j hj)
  have hgood : GoodF n (aftF L O kn []) := aftF_good hok hl hlo hod (by omega)
  have hAl := nb_len hgood hA
  have hAf := nb_few hgood (by have := hok.1; omega) hA
  have hn20 := hok.2.1
  simp -implicitDefEqProofs (maxSteps := 2000000) (disch := first|assumption|omega|rfl|(simp only[RD];done)|(simp only[RD];omega)) only [RN,Int.reduceBEq,Int.reduceBNe,Int.reduceLT,Int.reduceLE,Int.reduceAdd,Int.reduceSub,Int.reduceMul,Nat.reduceAdd,↓bc_flatz,↓bc_flat16,↓agg_bytez, d4, decide_eq_false h3, p18_3, c4, decide_eq_false h4, e4, g2']
  rw [← hs5, ← hs6, ← n5, ← hs7]
  refine pheld_ hva7.r hAl (by omega) fun s8 rh k8 hrh m8 => ?_
  have d8 := k8.get d7
  have hlk := m8.look1 (.agg ⟨bc zb⟩) at'
  have hfirst : (((ldF (fun _ => none) A at').map bv).getD (.agg ⟨bc zb⟩)) = bv ((aftF L O kn [] at').getD zb) := by
    rw [held_ld hA, ← nbF_getD]
    cases nbF (aftF L O kn []) at' <;> rfl
  rw [hfirst] at hlk
  have hfl : ((aftF L O kn [] at').getD zb).length = 1024 := by
    cases hc : aftF L O kn [] at' with
    | none => exact zb_len
    | some b => exact (hgood _ _ hc).2.2
  simp -implicitDefEqProofs (maxSteps := 2000000) (disch := first|assumption|omega|rfl|(simp only[RD];done)|(simp only[RD];omega)) only [RN,Int.reduceBEq,Int.reduceBNe,Int.reduceLT,Int.reduceLE,Int.reduceAdd,Int.reduceSub,Int.reduceMul,Nat.reduceAdd,↓bc_flatz,↓bc_flat16,↓agg_bytez, p18_2, d8, d7, hlk]
  rw [cop_func (by kernel_rfl)]
  have n6' : s6.next = s5.next + 1 := by rw [hs6, Store.next_push]
  have hk8 := k8.1
  have hk04 := k04.1
  have hk03 := k03.1
  have hk3 := k3.1
  have hC0 : AddC s8 s1.next (s5.next + 1) s4.next s5.next (.slice none 0 0) at' [] := ⟨d8, by rw [← n6']; exact k8.get b7, k8.get (k7.get (k6.get b5)), ⟨[], 0, k8.get (k7.get b6), rfl⟩, SlG.nil, fun c hc => by simp at hc, by simp [idsV]⟩
  refine add_ hC0 ⟨by omega, by omega⟩ hfl (by simp) fun s9 vl q1 q2 q3 q4 => ?_
  have ea : addU [] ((aftF L O kn [] at').getD zb) = blkI (aftF L O kn []) O (pendL O kn) at' 0 := by simp [addU, blkI]
  rw [ea] at q3
  have old9 : ∀ j o, σ.get j = some o → s9.get j = some o := fun j o h => by
    have h1 := Store.lt_of_get h
    rw [q2 j (by omega) (by omega) (by omega) (by simp [idsV]), k8.2 j (by omega), k07.2 j h1, h]
  have hu9 : SlR s9 1026 u O.length (histC O) := hu.keeps old9
  try simp -implicitDefEqProofs (maxSteps := 2000000) (disch := first|assumption|omega|rfl|(simp only[RD];done)|(simp only[RD];omega)) only [RN,Int.reduceBEq,Int.reduceBNe,Int.reduceLT,Int.reduceLE,Int.reduceAdd,Int.reduceSub,Int.reduceMul,Nat.reduceAdd,↓bc_flatz,↓bc_flat16,↓agg_bytez]
  refine ppending_ hu9 hlo (by omega) (by omega) fun s10 z k10 hz hzi => ?_
  rw [Int.toNat_natCast] at hz
  have hzl : lenSl z = some (.int .i64 ((pendL O kn).length : Nat)) := hz.len
  have hPl : (pendL O kn).length ≤ kn := by have := pendR_len O (splitL O kn) kn; unfold pendL; omega
  simp -implicitDefEqProofs (maxSteps := 2000000) (disch := first|assumption|omega|rfl|(simp only[RD];done)|(simp only[RD];omega)) only [RN,Int.reduceBEq,Int.reduceBNe,Int.reduceLT,Int.reduceLE,Int.reduceAdd,Int.reduceSub,Int.reduceMul,Nat.reduceAdd,↓bc_flatz,↓bc_flat16,↓agg_bytez, hzl]
  refine lop1 (fun m y t => ∃ (i : Nat) (vl : Value), m + i = (pendL O kn).length ∧ y = .int .i64 i ∧ s10.next ≤ t.next ∧ (∀ j, j < s4.next → t.get j = s10.get j) ∧ (∀ j ∈ idsV z, t.get j = s10.get j) ∧ AddC t s1.next (s5.next + 1) s4.next s5.next vl at' (blkI (aftF L O kn []) O (pendL O kn) at' i) ∧ ∀ j ∈ idsV vl, s5.next + 2 ≤ j ∧ j ∉ idsV z) (pendL O kn).length
    ⟨0, vl, by omega, rfl, Nat.le_refl _, fun j _ => rfl, fun j _ => rfl, q3.keep k10, fun j hj => ?_⟩ ?_
  · have h5 := q3.lst.lt j hj
    rcases q4 j hj with h6 | h6
    · simp [idsV] at h6
    · exact ⟨by omega, fun h7 => by have := hzi j h7; omega⟩
  clear q3 q4
  rintro m y t next ⟨i, vl, hi, rfl, t1, t2, t3, t4, t5⟩ hnx
  have hk10 := k10.1
  have oldt : ∀ j o, σ.get j = some o → t.get j = some o := fun j o h => by
    have h1 := Store.lt_of_get h
    rw [t2 j (by omega), k10.get (old9 j o h)]
  by_cases h5 : (i : Int) < ((pendL O kn).length : Nat)
  · have h6 : i < (pendL O kn).length := by omega
    obtain ⟨p, hp⟩ : ∃ p, (pendL O kn)[i]? = some p := ⟨_, List.getElem?_eq_getElem h6⟩
    have hpl := pendL_lt (List.mem_of_getElem? hp)
    have hz3 : SlG t 1 z (pendL O kn).length (nC (pendL O kn)) := hz.same t3
    obtain ⟨iz, oz, z1, z2⟩ := one_at hz3.r (show (nC (pendL O kn))[i]? = some (.int .i64 (p : Nat)) by simp [nC, hp]) h6
    have hPg : (pendL O kn).getD i 0 = p := by rw [List.getD_eq_getElem?_getD, hp]; rfl
    obtain ⟨o, ho⟩ : ∃ o, O[p]? = some o := ⟨_, List.getElem?_eq_getElem (by omega)⟩
    have hOg : O.getD p (0, 0, []) = o := by rw [List.getD_eq_getElem?_getD, ho]; rfl
    obtain ⟨c, a, b⟩ := o
    have hb : b.length = 1024 := hlo (c, a, b) (List.mem_of_getElem? ho)
    obtain ⟨ib, ob, o1, _, o3, o4, _⟩ := op_at (hu.keeps oldt) hlo ho
    have ei : blkI (aftF L O kn []) O (pendL O kn) at' (i + 1) = if a = at' then addU (blkI (aftF L O kn []) O (pendL O kn) at' i) b else blkI (aftF L O kn []) O (pendL O kn) at' i := by
      conv => lhs; unfold blkI
      rw [hPg, hOg]
    have hbl := blkI_le (O := O) (at' := at') (f := aftF L O kn []) (P := pendL O kn) i
    by_cases h7 : a = at'
    · have e7 : (a == at') = true := by simp [h7]
      rw [if_pos h7] at ei
      simp -implicitDefEqProofs (maxSteps := 2000000) (disch := first|assumption|omega|rfl|(simp only[RD];done)|(simp only[RD];omega)) only [RN,Int.reduceBEq,Int.reduceBNe,Int.reduceLT,Int.reduceLE,Int.reduceAdd,Int.reduceSub,Int.reduceMul,Nat.reduceAdd,↓bc_flatz,↓bc_flat16,↓agg_bytez, decide_eq_true h5, p18_1, z1, z2, o1, o3, t4.at_, e7, o4]
      rw [cop_func (by kernel_rfl)]
      refine add_ t4 ⟨by omega, by omega⟩ hb (by omega) fun t' vl' w1 w2 w3 w4 => ?_
      try simp -implicitDefEqProofs (maxSteps := 2000000) (disch := first|assumption|omega|rfl|(simp only[RD];done)|(simp only[RD];omega)) only [RN,Int.reduceBEq,Int.reduceBNe,Int.reduceLT,Int.reduceLE,Int.reduceAdd,Int.reduceSub,Int.reduceMul,Nat.reduceAdd,↓bc_flatz,↓bc_flat16,↓agg_bytez]
      refine hnx _ _ (by omega) ⟨i + 1, vl', by omega, congrArg (Value.int .i64) (by omega), by omega, fun j hj => ?_, fun j hj => ?_, by rw [ei]; exact w3, fun j hj => ?_⟩
      · rw [w2 j (by omega) (by omega) (by omega) (fun h => by have := t5 j h; omega), t2 j hj]
      · have hjz := hzi j hj
        have hjl := hz.lt j hj
        rw [w2 j (by omega) (by omega) (by omega) (fun h => (t5 j h).2 hj), t3 j hj]
      · rcases w4 j hj with h | h
        · exact t5 j h
        · exact ⟨by omega, fun hz' => by have := hz.lt j hz'; omega⟩
    · have e7 : (a == at') = false := by simp [h7]
      rw [if_neg h7] at ei
      simp -implicitDefEqProofs (maxSteps := 2000000) (disch := first|assumption|omega|rfl|(simp only[RD];done)|(simp only[RD];omega)) only [RN,Int.reduceBEq,Int.reduceBNe,Int.reduceLT,Int.reduceLE,Int.reduceAdd,Int.reduceSub,Int.reduceMul,Nat.reduceAdd,↓bc_flatz,↓bc_flat16,↓agg_bytez, decide_eq_true h5, p18_1, z1, z2, o1, o3, t4.at_, e7]
      exact hnx _ _ (by omega) ⟨i + 1, vl, by omega, congrArg (Value.int .i64) (by omega), t1, t2, t3, by rw [ei]; exact t4, t5⟩
  · have hii : i = (pendL O kn).length := by omega
    subst hii
    simp -implicitDefEqProofs (maxSteps := 2000000) (disch := first|assumption|omega|rfl|(simp only[RD];done)|(simp only[RD];omega)) only [RN,Int.reduceBEq,Int.reduceBNe,Int.reduceLT,Int.reduceLE,Int.reduceAdd,Int.reduceSub,Int.reduceMul,Nat.reduceAdd,↓bc_flatz,↓bc_flat16,↓agg_bytez, decide_eq_false h5, t4.lb]
    refine hq1 vl t ⟨by omega, fun j hj => ?_⟩ t4.lst t4.len fun j hj => by have := t5 j hj; omega
    rw [t2 j (by omega), k10.2 j (by omega), q2 j (by omega) (by omega) (by omega) (by simp [idsV]), k8.2 j (by omega), k07.2 j hj]
end Go.Proofs.YthojojlgmaoecaaGreat
