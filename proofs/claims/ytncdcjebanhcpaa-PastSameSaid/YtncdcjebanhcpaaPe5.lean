/- PastSame, walked. -/
import Derived.Test.YtncdcjebanhcpaaSam5
set_option linter.all false
set_option maxRecDepth 100000
set_option maxHeartbeats 1600000
namespace Go.Proofs.Ytncdcjebanhcpaa
open Go.Am Go.Sort
variable {σ : Store} {Q : Value → Store → Prop} {n m at' : Int} {va vb : Value} {L A : List HB}
theorem asc_uniq {l l' : List Int} (h : l.Pairwise (· < ·)) (h' : l'.Pairwise (· < ·)) (hm : ∀ x, x ∈ l ↔ x ∈ l') : l = l' :=
  List.Perm.eq_of_pairwise (le := fun a b : Int => a < b) (fun a b _ _ h1 h2 => by omega) h h' ((List.perm_ext_iff_of_nodup (h.imp fun hab e => by omega) (h'.imp fun hab e => by omega)).2 hm)
theorem pastsame_ (hv : SlR σ 1025 va L.length (waitC L)) (hl : ∀ p ∈ L, p.2.length = 1024) (hu : SlR σ 1025 vb A.length (waitC A)) (hla : ∀ p ∈ A, p.2.length = 1024)
    (hq : ∀ st, Keeps σ st → Q (.bool true) st) :
    Does Try.prog 6 [.agg ⟨[.int .i64 n, va]⟩, .agg ⟨[.int .i64 m, vb]⟩, .int .i64 at'] σ Q := by
  refine d6 ?_
  have g2' : ∀ (n : Int) (v : Value), ([.int .i64 n, v] : List Value).length = 2 := fun _ _ => rfl
  obtain ⟨s1, hs1⟩ : ∃ s1, s1 = σ.push (.cells [.int .i64 n, va] none) := ⟨_, rfl⟩
  have k1 : Keeps σ s1 := by rw [hs1]; exact (Keeps.refl _).push _
  have c1 : s1.get σ.next = some (.cells [.int .i64 n, va] none) := by rw [hs1]; exact Store.get_push_same _ _
  obtain ⟨s2, hs2⟩ : ∃ s2, s2 = s1.push (.cells [.int .i64 m, vb] none) := ⟨_, rfl⟩
  have k2 : Keeps s1 s2 := by rw [hs2]; exact (Keeps.refl _).push _
  have d2 : s2.get s1.next = some (.cells [.int .i64 m, vb] none) := by rw [hs2]; exact Store.get_push_same _ _
  have c2 := k2.get c1
  have k12 := k1.trans k2
  unfold p6
  rw [box_agg, nop_some, ← hs1, box_agg, nop_some, ← hs2]
  refine lives_ fun s3 k3 => ?_
  have c3 := k3.get c2
  have d3 := k3.get d2
  have k13 := k12.trans k3
  have keepV : ∀ st, Keeps σ st → SlR st 1025 va L.length (waitC L) ∧ SlR st 1025 vb A.length (waitC A) := fun st kt => ⟨hv.keeps fun i o h => kt.get h, hu.keeps fun i o h => kt.get h⟩
  by_cases h1 : (120 : Int) < (L.length : Nat)
  · simp -implicitDefEqProofs (maxSteps := 2000000) (disch := first|assumption|omega|rfl|(simp only[RD];done)|(simp only[RD];omega)) only [RN,Int.reduceBEq,Int.reduceBNe,Int.reduceLT,Int.reduceLE,Int.reduceAdd,Int.reduceSub,Int.reduceMul,Nat.reduceAdd,↓bc_flatz,↓bc_flat16,↓agg_bytez, p6_8, c3, hv.len, decide_eq_true h1]
    exact hq _ k13
  by_cases h2 : (120 : Int) < (A.length : Nat)
  · simp -implicitDefEqProofs (maxSteps := 2000000) (disch := first|assumption|omega|rfl|(simp only[RD];done)|(simp only[RD];omega)) only [RN,Int.reduceBEq,Int.reduceBNe,Int.reduceLT,Int.reduceLE,Int.reduceAdd,Int.reduceSub,Int.reduceMul,Nat.reduceAdd,↓bc_flatz,↓bc_flat16,↓agg_bytez, p6_8, c3, d3, hv.len, decide_eq_false h1, hu.len, decide_eq_true h2]
    exact hq _ k13
  have fL : L.length ≤ 120 := by omega
  have fA : A.length ≤ 120 := by omega
  simp -implicitDefEqProofs (maxSteps := 2000000) (disch := first|assumption|omega|rfl|(simp only[RD];done)|(simp only[RD];omega)) only [RN,Int.reduceBEq,Int.reduceBNe,Int.reduceLT,Int.reduceLE,Int.reduceAdd,Int.reduceSub,Int.reduceMul,Nat.reduceAdd,↓bc_flatz,↓bc_flat16,↓agg_bytez, p6_8, c3, d3, hv.len, decide_eq_false h1, hu.len, decide_eq_false h2, g2']
  obtain ⟨hv3, hu3⟩ := keepV s3 k13
  by_cases hgood : okIm n L ∧ okIm m A ∧ n = m
  rotate_left
  · -- images that may not be, or are not alike
    refine changed_ hv3 hl (by omega) hu3 hla (by omega) (fun a b c => absurd ⟨a, b, c⟩ hgood) fun _ s4 k4 => ?_
    have c4 := k4.get c3
    have d4 := k4.get d3
    have k14 := k13.trans k4
    have nil0 : lenSl (.slice none 0 0) = some (.int .i64 ((0 : Nat) : Int)) := rfl
    have cont : ∀ st, Keeps s4 st → p6_6 (.bool true) (.slice none 0 0) st Q (.pointer (some ⟨σ.next, 0, none⟩)) (.pointer (some ⟨s1.next, 0, none⟩)) (.int .i64 at') := fun st kt => by
      have ct := kt.get c4
      have dt := kt.get d4
      obtain ⟨hvt, hut⟩ := keepV st (k14.trans kt)
      have e0 : (((0 : Nat) : Int) == 0) = true := rfl
      simp -implicitDefEqProofs (maxSteps := 2000000) (disch := first|assumption|omega|rfl|(simp only[RD];done)|(simp only[RD];omega)) only [RN,Int.reduceBEq,Int.reduceBNe,Int.reduceLT,Int.reduceLE,Int.reduceAdd,Int.reduceSub,Int.reduceMul,Nat.reduceAdd,↓bc_flatz,↓bc_flat16,↓agg_bytez, p6_6, nil0, e0, ct, dt, g2']
      refine psame_ hvt hl (by omega) hut hla (by omega) (fun a b c _ => absurd ⟨a, b, c⟩ hgood) fun _ st2 kt2 => ?_
      have ct2 := kt2.get ct
      have dt2 := kt2.get dt
      obtain ⟨hvt2, hut2⟩ := keepV st2 ((k14.trans kt).trans kt2)
      simp -implicitDefEqProofs (maxSteps := 2000000) (disch := first|assumption|omega|rfl|(simp only[RD];done)|(simp only[RD];omega)) only [RN,Int.reduceBEq,Int.reduceBNe,Int.reduceLT,Int.reduceLE,Int.reduceAdd,Int.reduceSub,Int.reduceMul,Nat.reduceAdd,↓bc_flatz,↓bc_flat16,↓agg_bytez, ct2, dt2, g2']
      refine psame_ hut2 hla (by omega) hvt2 hl (by omega) (fun a b c _ => absurd ⟨b, a, c.symm⟩ hgood) fun _ st3 kt3 => ?_
      simp -implicitDefEqProofs (maxSteps := 2000000) (disch := first|assumption|omega|rfl|(simp only[RD];done)|(simp only[RD];omega)) only [RN,Int.reduceBEq,Int.reduceBNe,Int.reduceLT,Int.reduceLE,Int.reduceAdd,Int.reduceSub,Int.reduceMul,Nat.reduceAdd,↓bc_flatz,↓bc_flat16,↓agg_bytez]
      exact hq _ (((k14.trans kt).trans kt2).trans kt3)
    obtain ⟨hv4, hu4⟩ := keepV s4 k14
    simp -implicitDefEqProofs (maxSteps := 2000000) (disch := first|assumption|omega|rfl|(simp only[RD];done)|(simp only[RD];omega)) only [RN,Int.reduceBEq,Int.reduceBNe,Int.reduceLT,Int.reduceLE,Int.reduceAdd,Int.reduceSub,Int.reduceMul,Nat.reduceAdd,↓bc_flatz,↓bc_flat16,↓agg_bytez, p6_7, c4, g2']
    refine pwhole_ hv4 hl (by omega) (fun g1 s5 k5 => ?_) fun _ s5 k5 => ?_
    rotate_left
    · simp -implicitDefEqProofs (maxSteps := 2000000) (disch := first|assumption|omega|rfl|(simp only[RD];done)|(simp only[RD];omega)) only [RN,Int.reduceBEq,Int.reduceBNe,Int.reduceLT,Int.reduceLE,Int.reduceAdd,Int.reduceSub,Int.reduceMul,Nat.reduceAdd,↓bc_flatz,↓bc_flat16,↓agg_bytez]
      exact cont _ k5
    have c5 := k5.get c4
    have d5 := k5.get d4
    obtain ⟨hv5, hu5⟩ := keepV s5 (k14.trans k5)
    simp -implicitDefEqProofs (maxSteps := 2000000) (disch := first|assumption|omega|rfl|(simp only[RD];done)|(simp only[RD];omega)) only [RN,Int.reduceBEq,Int.reduceBNe,Int.reduceLT,Int.reduceLE,Int.reduceAdd,Int.reduceSub,Int.reduceMul,Nat.reduceAdd,↓bc_flatz,↓bc_flat16,↓agg_bytez, d5, g2']
    refine pwhole_ hu5 hla (by omega) (fun g2 s6 k6 => ?_) fun _ s6 k6 => ?_
    rotate_left
    · simp -implicitDefEqProofs (maxSteps := 2000000) (disch := first|assumption|omega|rfl|(simp only[RD];done)|(simp only[RD];omega)) only [RN,Int.reduceBEq,Int.reduceBNe,Int.reduceLT,Int.reduceLE,Int.reduceAdd,Int.reduceSub,Int.reduceMul,Nat.reduceAdd,↓bc_flatz,↓bc_flat16,↓agg_bytez]
      exact cont _ (k5.trans k6)
    have c6 := k6.get c5
    have d6 := k6.get d5
    have hnm : (n != m) = true := by
      have : n ≠ m := fun h => hgood ⟨g1, g2, h⟩
      simp [this]
    simp -implicitDefEqProofs (maxSteps := 2000000) (disch := first|assumption|omega|rfl|(simp only[RD];done)|(simp only[RD];omega)) only [RN,Int.reduceBEq,Int.reduceBNe,Int.reduceLT,Int.reduceLE,Int.reduceAdd,Int.reduceSub,Int.reduceMul,Nat.reduceAdd,↓bc_flatz,↓bc_flat16,↓agg_bytez, c6, d6, hnm]
    exact cont _ (k5.trans k6)
  obtain ⟨oL, oA, rfl⟩ := hgood
  obtain ⟨f, hf⟩ : ∃ f, f = ldF (fun _ => none) L := ⟨_, rfl⟩
  obtain ⟨g, hg⟩ : ∃ g, g = ldF (fun _ => none) A := ⟨_, rfl⟩
  have hfr : ∀ x b, f x = some b → 0 ≤ x ∧ x < n ∧ b ≠ zb := fun x b h => (load_W oL).held x b (by rw [hf] at h; exact h)
  have hgr : ∀ x b, g x = some b → 0 ≤ x ∧ x < n ∧ b ≠ zb := fun x b h => (load_W oA).held x b (by rw [hg] at h; exact h)
  have hHf : HeldL f L := by rw [hf]; exact load_held oL
  have hHg : HeldL g A := by rw [hg]; exact load_held oA
  have aF : ∀ x, atL L x = (f x).getD zb := fun x => atL_held hHf x
  have aG : ∀ x, atL A x = (g x).getD zb := fun x => atL_held hHg x
  have lF : ∀ x, (atL L x).length = 1024 := fun x => by
    rw [aF]
    cases hc : f x with
    | none => exact zb_len
    | some b => exact ldF_len hl x b (by rw [← hf]; exact hc)
  have lG : ∀ x, (atL A x).length = 1024 := fun x => by
    rw [aG]
    cases hc : g x with
    | none => exact zb_len
    | some b => exact ldF_len hla x b (by rw [← hg]; exact hc)
  have inj : ∀ x, atL L x = atL A x ↔ f x = g x := fun x => by
    rw [aF, aG]
    constructor
    · intro h
      cases hcf : f x with
      | none =>
        cases hcg : g x with
        | none => rfl
        | some c => rw [hcf, hcg] at h; exact absurd h.symm (hgr x c hcg).2.2
      | some b =>
        cases hcg : g x with
        | none => rw [hcf, hcg] at h; exact absurd h (hfr x b hcf).2.2
        | some c => rw [hcf, hcg] at h; exact congrArg some h
    · intro h; rw [h]
  refine changed_ hv3 hl (by omega) hu3 hla (by omega) (fun _ _ _ l vl s4 hasc hmem k4 hvl _ => ?_) fun h => absurd ⟨oL, oA, rfl⟩ h
  rw [← hf, ← hg] at hmem
  have c4 := k4.get c3
  have d4 := k4.get d3
  have k14 := k13.trans k4
  obtain ⟨hv4, hu4⟩ := keepV s4 k14
  have hrange : ∀ x ∈ l, 0 ≤ x ∧ x < n := fun x hx => by
    have h := (hmem x).1 hx
    cases hcf : f x with
    | some b => exact ⟨(hfr x b hcf).1, (hfr x b hcf).2.1⟩
    | none =>
      cases hcg : g x with
      | some c => exact ⟨(hgr x c hcg).1, (hgr x c hcg).2.1⟩
      | none => exact absurd (by rw [hcf, hcg]) h
  have hll : l.length < 2 ^ 40 := by
    have h1 := nodup_ints (l := l) (hasc.imp fun hab e => by omega) hrange
    have := oL.2.1
    rcases h1 with h1 | h1
    · omega
    · rw [h1]; simp
  have hLA : L = A ↔ l = [] := by
    rw [ld_eq oL oA, ← hf, ← hg]
    constructor
    · intro h
      exact List.eq_nil_iff_forall_not_mem.2 fun x hx => (hmem x).1 hx (h x)
    · intro h x
      exact Classical.byContradiction fun hne => by
        have := (hmem x).2 hne
        rw [h] at this
        exact absurd this List.not_mem_nil
  have e0 : (((l.length : Nat) : Int) == 0) = decide (L = A) := by
    by_cases h : l = []
    · rw [decide_eq_true (hLA.2 h), h]; rfl
    · rw [decide_eq_false (fun h' => h (hLA.1 h')), beq_eq_false_iff_ne]
      have := List.length_pos_iff.2 h
      omega
  have sAB : ∀ (t : Store) (R : Value → Store → Prop), Keeps σ t → (∀ st, Keeps t st → R (.bool (decide (L = A))) st) → Does Try.prog 16 [.agg ⟨[.int .i64 n, va]⟩, .agg ⟨[.int .i64 n, vb]⟩] t R := fun t R kt hR => by
    obtain ⟨hvt, hut⟩ := keepV t kt
    refine psame_ hvt hl (by omega) hut hla (by omega) (fun _ _ _ h st k => ?_) fun h st k => ?_
    · have := hR st k; rw [decide_eq_true h] at this; exact this
    · have := hR st k; rw [decide_eq_false fun h' => h ⟨oL, oA, rfl, h'⟩] at this; exact this
  have sBA : ∀ (t : Store) (R : Value → Store → Prop), Keeps σ t → (∀ st, Keeps t st → R (.bool (decide (L = A))) st) → Does Try.prog 16 [.agg ⟨[.int .i64 n, vb]⟩, .agg ⟨[.int .i64 n, va]⟩] t R := fun t R kt hR => by
    obtain ⟨hvt, hut⟩ := keepV t kt
    refine psame_ hut hla (by omega) hvt hl (by omega) (fun _ _ _ h st k => ?_) fun h st k => ?_
    · have := hR st k; rw [decide_eq_true h.symm] at this; exact this
    · have := hR st k; rw [decide_eq_false fun h' => h ⟨oA, oL, rfl, h'.symm⟩] at this; exact this
  simp -implicitDefEqProofs (maxSteps := 2000000) (disch := first|assumption|omega|rfl|(simp only[RD];done)|(simp only[RD];omega)) only [RN,Int.reduceBEq,Int.reduceBNe,Int.reduceLT,Int.reduceLE,Int.reduceAdd,Int.reduceSub,Int.reduceMul,Nat.reduceAdd,↓bc_flatz,↓bc_flat16,↓agg_bytez, p6_7, c4, g2']
  refine pwhole_ hv4 hl (by omega) (fun _ s5 k5 => ?_) fun h => absurd oL h
  have c5 := k5.get c4
  have d5 := k5.get d4
  obtain ⟨hv5, hu5⟩ := keepV s5 (k14.trans k5)
  simp -implicitDefEqProofs (maxSteps := 2000000) (disch := first|assumption|omega|rfl|(simp only[RD];done)|(simp only[RD];omega)) only [RN,Int.reduceBEq,Int.reduceBNe,Int.reduceLT,Int.reduceLE,Int.reduceAdd,Int.reduceSub,Int.reduceMul,Nat.reduceAdd,↓bc_flatz,↓bc_flat16,↓agg_bytez, d5, g2']
  refine pwhole_ hu5 hla (by omega) (fun _ s6 k6 => ?_) fun h => absurd oA h
  have c6 := k6.get c5
  have d6 := k6.get d5
  have k46 := k5.trans k6
  have k16 := k14.trans k46
  have hvl6 : SlG s6 1 vl l.length (iC l) := hvl.same fun j hj => k46.2 j (hvl.lt j hj)
  simp -implicitDefEqProofs (maxSteps := 2000000) (disch := first|assumption|omega|rfl|(simp only[RD];done)|(simp only[RD];omega)) only [RN,Int.reduceBEq,Int.reduceBNe,Int.reduceLT,Int.reduceLE,Int.reduceAdd,Int.reduceSub,Int.reduceMul,Nat.reduceAdd,↓bc_flatz,↓bc_flat16,↓agg_bytez, c6, d6, p6_6]
  refine lop2 (fun q y1 y2 t => ∃ i : Nat, q + i = l.length ∧ y1 = .bool (decide (at' ∈ l.take i)) ∧ y2 = .int .i64 i ∧ Keeps s6 t) l.length ⟨0, by omega, by simp, rfl, Keeps.refl _⟩ ?_
  rintro q y1 y2 t next ⟨i, hi, rfl, rfl, kt⟩ hnx
  have k1t := k16.trans kt
  have ct := kt.get c6
  have dt := kt.get d6
  obtain ⟨hvt, hut⟩ := keepV t k1t
  have hvlt : SlG t 1 vl l.length (iC l) := hvl6.same fun j hj => kt.2 j (hvl6.lt j hj)
  have hvll := hvlt.len
  by_cases h5 : (i : Int) < (l.length : Nat)
  · have h6 : i < l.length := by omega
    obtain ⟨x, hx⟩ : ∃ x, l[i]? = some x := ⟨_, List.getElem?_eq_getElem h6⟩
    have hxm := List.mem_of_getElem? hx
    have hxr := hrange x hxm
    have hx0 : ¬ x < 0 := by omega
    have hxn : ¬ n ≤ x := by omega
    obtain ⟨iz, oz, w1, w2⟩ := one_at hvlt.r (show (iC l)[i]? = some (.int .i64 x) by simp [iC, hx]) h6
    have hizl : iz < t.next := by
      cases hgz : t.get iz with
      | none => rw [hgz] at w2; cases w2
      | some o => exact Store.lt_of_get hgz
    simp -implicitDefEqProofs (maxSteps := 2000000) (disch := first|assumption|omega|rfl|(simp only[RD];done)|(simp only[RD];omega)) only [RN,Int.reduceBEq,Int.reduceBNe,Int.reduceLT,Int.reduceLE,Int.reduceAdd,Int.reduceSub,Int.reduceMul,Nat.reduceAdd,↓bc_flatz,↓bc_flat16,↓agg_bytez, hvll, decide_eq_true h5, p6_5, w1, w2, decide_eq_false hx0, ct, p6_2, decide_eq_false hxn, g2']
    refine lblock_ hvt hl (by omega) fun t2 k2' => ?_
    unfold bv
    have dt2 := k2'.get dt
    have w3 : rdOne (t2.get iz) oz = some (.int .i64 x) := by rw [k2'.2 iz hizl, w2]
    obtain ⟨hvt2, hut2⟩ := keepV t2 (k1t.trans k2')
    simp -implicitDefEqProofs (maxSteps := 2000000) (disch := first|assumption|omega|rfl|(simp only[RD];done)|(simp only[RD];omega)) only [RN,Int.reduceBEq,Int.reduceBNe,Int.reduceLT,Int.reduceLE,Int.reduceAdd,Int.reduceSub,Int.reduceMul,Nat.reduceAdd,↓bc_flatz,↓bc_flat16,↓agg_bytez, dt2, dt, g2', w1, p6_1, w2, w3]
    refine lblock_ hut2 hla (by omega) fun t3 k3' => ?_
    unfold bv
    have ez := eqA_bc (n := 1024) false (lF x) (lG x)
    rw [decide_eq_false fun h => (hmem x).1 hxm ((inj x).1 h)] at ez
    have w4 : rdOne (t3.get iz) oz = some (.int .i64 x) := by rw [k3'.2 iz (by have := k2'.1; omega), w3]
    have hnext : ∀ fb, fb = decide (at' ∈ l.take (i + 1)) → next (.bool fb) (.int .i64 ((i : Int) + 1)) t3 := fun fb hfb => by
      subst hfb
      exact hnx _ _ _ (by omega) ⟨i + 1, by omega, rfl, congrArg (Value.int .i64) (by omega), kt.trans (k2'.trans k3')⟩
    have htk : l.take (i + 1) = l.take i ++ [x] := by rw [List.take_succ, hx]; rfl
    by_cases hfb : at' ∈ l.take i
    · simp -implicitDefEqProofs (maxSteps := 2000000) (disch := first|assumption|omega|rfl|(simp only[RD];done)|(simp only[RD];omega)) only [RN,Int.reduceBEq,Int.reduceBNe,Int.reduceLT,Int.reduceLE,Int.reduceAdd,Int.reduceSub,Int.reduceMul,Nat.reduceAdd,↓bc_flatz,↓bc_flat16,↓agg_bytez, ez, decide_eq_true hfb]
      exact hnext true (decide_eq_true (by rw [htk]; exact List.mem_append_left _ hfb)).symm
    · by_cases hxa : x = at'
      · have ea : (x == at') = true := by simp [hxa]
        simp -implicitDefEqProofs (maxSteps := 2000000) (disch := first|assumption|omega|rfl|(simp only[RD];done)|(simp only[RD];omega)) only [RN,Int.reduceBEq,Int.reduceBNe,Int.reduceLT,Int.reduceLE,Int.reduceAdd,Int.reduceSub,Int.reduceMul,Nat.reduceAdd,↓bc_flatz,↓bc_flat16,↓agg_bytez, ez, decide_eq_false hfb, w1, w4, ea]
        exact hnext true (decide_eq_true (by rw [htk, hxa]; simp)).symm
      · have ea : (x == at') = false := by simp [hxa]
        simp -implicitDefEqProofs (maxSteps := 2000000) (disch := first|assumption|omega|rfl|(simp only[RD];done)|(simp only[RD];omega)) only [RN,Int.reduceBEq,Int.reduceBNe,Int.reduceLT,Int.reduceLE,Int.reduceAdd,Int.reduceSub,Int.reduceMul,Nat.reduceAdd,↓bc_flatz,↓bc_flat16,↓agg_bytez, ez, decide_eq_false hfb, w1, w4, ea]
        exact hnext false (decide_eq_false (by rw [htk]; simp [hfb]; exact fun h => hxa h.symm)).symm
  · have hii : i = l.length := by omega
    subst hii
    rw [List.take_length]
    have h5' : ¬ ((l.length : Nat) : Int) < ((l.length : Nat) : Int) := by omega
    simp -implicitDefEqProofs (maxSteps := 2000000) (disch := first|assumption|omega|rfl|(simp only[RD];done)|(simp only[RD];omega)) only [RN,Int.reduceBEq,Int.reduceBNe,Int.reduceLT,Int.reduceLE,Int.reduceAdd,Int.reduceSub,Int.reduceMul,Nat.reduceAdd,↓bc_flatz,↓bc_flat16,↓agg_bytez, hvll, decide_eq_false h5', p6_5, ct, dt, g2']
    refine changed_ hut hla (by omega) hvt hl (by omega) (fun _ _ _ l' vl' t2 hasc' hmem' k2' hvl' _ => ?_) fun h => absurd ⟨oA, oL, rfl⟩ h
    rw [← hf, ← hg] at hmem'
    have hll' : l' = l := asc_uniq hasc' hasc fun x => (hmem' x).trans ((ne_comm).trans (hmem x).symm)
    subst hll'
    have hvl2 : SlG t2 1 vl l'.length (iC l') := hvlt.same fun j hj => k2'.2 j (hvlt.lt j hj)
    refine sameints_ hvl2.r hvl'.r (by omega) ?_
    have ct2 := k2'.get ct
    have dt2 := k2'.get dt
    rw [decide_eq_true rfl]
    simp -implicitDefEqProofs (maxSteps := 2000000) (disch := first|assumption|omega|rfl|(simp only[RD];done)|(simp only[RD];omega)) only [RN,Int.reduceBEq,Int.reduceBNe,Int.reduceLT,Int.reduceLE,Int.reduceAdd,Int.reduceSub,Int.reduceMul,Nat.reduceAdd,↓bc_flatz,↓bc_flat16,↓agg_bytez, ct2, dt2, g2']
    refine sAB _ _ (k1t.trans k2') fun t3 k3' => ?_
    have ct3 := k3'.get ct2
    have dt3 := k3'.get dt2
    simp -implicitDefEqProofs (maxSteps := 2000000) (disch := first|assumption|omega|rfl|(simp only[RD];done)|(simp only[RD];omega)) only [RN,Int.reduceBEq,Int.reduceBNe,Int.reduceLT,Int.reduceLE,Int.reduceAdd,Int.reduceSub,Int.reduceMul,Nat.reduceAdd,↓bc_flatz,↓bc_flat16,↓agg_bytez, p6_4, hvll, e0, ct3, dt3, g2']
    refine sBA _ _ ((k1t.trans k2').trans k3') fun t4 k4' => ?_
    have ct4 := k4'.get ct3
    have dt4 := k4'.get dt3
    simp -implicitDefEqProofs (maxSteps := 2000000) (disch := first|assumption|omega|rfl|(simp only[RD];done)|(simp only[RD];omega)) only [RN,Int.reduceBEq,Int.reduceBNe,Int.reduceLT,Int.reduceLE,Int.reduceAdd,Int.reduceSub,Int.reduceMul,Nat.reduceAdd,↓bc_flatz,↓bc_flat16,↓agg_bytez, hvll, e0, p6_3, ct4, dt4, ct3, dt3, g2']
    obtain ⟨hvt4, hut4⟩ := keepV t4 (((k1t.trans k2').trans k3').trans k4')
    refine psame_ hvt4 hl (by omega) hvt4 hl (by omega) (fun _ _ _ _ t5 k5' => ?_) fun h => absurd ⟨oL, oL, rfl, rfl⟩ h
    have ct5 := k5'.get ct4
    have dt5 := k5'.get dt4
    obtain ⟨hvt5, hut5⟩ := keepV t5 ((((k1t.trans k2').trans k3').trans k4').trans k5')
    simp -implicitDefEqProofs (maxSteps := 2000000) (disch := first|assumption|omega|rfl|(simp only[RD];done)|(simp only[RD];omega)) only [RN,Int.reduceBEq,Int.reduceBNe,Int.reduceLT,Int.reduceLE,Int.reduceAdd,Int.reduceSub,Int.reduceMul,Nat.reduceAdd,↓bc_flatz,↓bc_flat16,↓agg_bytez, ct5, dt5, g2']
    refine lblock_ hvt5 hl (by omega) fun t6 k6' => ?_
    unfold bv
    have dt6 := k6'.get dt5
    obtain ⟨hvt6, hut6⟩ := keepV t6 (((((k1t.trans k2').trans k3').trans k4').trans k5').trans k6')
    simp -implicitDefEqProofs (maxSteps := 2000000) (disch := first|assumption|omega|rfl|(simp only[RD];done)|(simp only[RD];omega)) only [RN,Int.reduceBEq,Int.reduceBNe,Int.reduceLT,Int.reduceLE,Int.reduceAdd,Int.reduceSub,Int.reduceMul,Nat.reduceAdd,↓bc_flatz,↓bc_flat16,↓agg_bytez, dt6, dt5, g2']
    refine lblock_ hut6 hla (by omega) fun t7 k7' => ?_
    unfold bv
    have ez := eqA_bc (n := 1024) true (lF at') (lG at')
    have ew : (decide (atL L at' = atL A at') ^^ true) = decide (at' ∈ l') := by
      by_cases h : atL L at' = atL A at'
      · rw [decide_eq_true h, decide_eq_false fun h' => (hmem at').1 h' ((inj at').1 h)]; rfl
      · rw [decide_eq_false h, decide_eq_true ((hmem at').2 fun h' => h ((inj at').2 h'))]; rfl
    rw [ew] at ez
    simp -implicitDefEqProofs (maxSteps := 2000000) (disch := first|assumption|omega|rfl|(simp only[RD];done)|(simp only[RD];omega)) only [RN,Int.reduceBEq,Int.reduceBNe,Int.reduceLT,Int.reduceLE,Int.reduceAdd,Int.reduceSub,Int.reduceMul,Nat.reduceAdd,↓bc_flatz,↓bc_flat16,↓agg_bytez, ez]
    exact hq _ ((((((k1t.trans k2').trans k3').trans k4').trans k5').trans k6').trans k7')
end Go.Proofs.Ytncdcjebanhcpaa
