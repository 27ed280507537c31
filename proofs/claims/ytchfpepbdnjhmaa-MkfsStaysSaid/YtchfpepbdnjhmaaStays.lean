/- Chapter 23: MkfsStays, walked. -/
import Derived.Test.YtchfpepbdnjhmaaKim
import Derived.Test.YtchfpepbdnjhmaaRof
set_option linter.all false
set_option maxRecDepth 100000
set_option maxHeartbeats 1600000
namespace Go.Proofs.Ytchfpepbdnjhmaa
open Go.Am
variable {σ : Store} {Q : Value → Store → Prop} {n : Int} {v : Value} {L : List HB} {g : Geo}
theorem stays_ (hv : SlR σ 1025 v L.length (waitC L)) (hl : ∀ p ∈ L, p.2.length = 1024) (hq : ∀ σ', Q (.bool true) σ') : Does Try.prog 4 [.agg ⟨[.int .i64 n, v]⟩, .agg ⟨ic g.cells⟩] σ Q := by
  refine d4 ?_
  obtain ⟨s1, hs1⟩ : ∃ s1, s1 = σ.push (.cells [.int .i64 n, v] none) := ⟨_, rfl⟩
  have k1 : Keeps σ s1 := by rw [hs1]; exact (Keeps.refl _).push _
  have c1 : s1.get σ.next = some (.cells [.int .i64 n, v] none) := by rw [hs1]; exact Store.get_push_same _ _
  obtain ⟨s2, hs2⟩ : ∃ s2, s2 = s1.push (.cells (ic g.cells) none) := ⟨_, rfl⟩
  have k2 : Keeps s1 s2 := by rw [hs2]; exact (Keeps.refl _).push _
  have c2 : s2.get s1.next = some (.cells (ic g.cells) none) := by rw [hs2]; exact Store.get_push_same _ _
  have r3 : rdPart (some (.cells (ic g.cells) none)) 0 3 = some (.agg ⟨ic g.cells⟩) := rfl
  have r0 : rdOne (some (.cells (ic g.cells) none)) 0 = some (.int .i64 g.blocks) := rfl
  have rp : ∀ v, rdPart (some (.cells [.int .i64 n, v] none)) 0 2 = some (.agg ⟨[.int .i64 n, v]⟩) := fun v => rfl
  have u9 : (unrle [(9, .int .i64 0)]).length = 9 := rfl
  have lof : (ic g.of).length = 9 := by unfold Geo.of; split <;> rfl
  unfold p4
  rw [box_agg, nop_some, ← hs1, box_agg, nop_some, ← hs2]
  simp -implicitDefEqProofs (maxSteps := 2000000) (disch := first|assumption|omega|rfl|(simp only[RD];done)|(simp only[RD];omega)) only [RN,Int.reduceBEq,Int.reduceBNe,Int.reduceLT,Int.reduceLE,Int.reduceAdd,Int.reduceSub,Int.reduceMul,Nat.reduceAdd,↓bc_flatz,↓bc_flat16,↓agg_bytez, c2, r3]
  refine rof_ ?_
  obtain ⟨s3, hs3⟩ : ∃ s3, s3 = s2.push (.cells (ic g.of) none) := ⟨_, rfl⟩
  have k3 : Keeps s2 s3 := by rw [hs3]; exact (Keeps.refl _).push _
  have c3 : s3.get s2.next = some (.cells (ic g.of) none) := by rw [hs3]; exact Store.get_push_same _ _
  simp -implicitDefEqProofs (maxSteps := 2000000) (disch := first|assumption|omega|rfl|(simp only[RD];done)|(simp only[RD];omega)) only [RN,Int.reduceBEq,Int.reduceBNe,Int.reduceLT,Int.reduceLE,Int.reduceAdd,Int.reduceSub,Int.reduceMul,Nat.reduceAdd,↓bc_flatz,↓bc_flat16,↓agg_bytez, u9, lof]
  rw [← hs3]
  have g0 : ∀ st, Keeps s3 st → st.get σ.next = some (.cells [.int .i64 n, v] none) ∧ st.get s1.next = some (.cells (ic g.cells) none) ∧ st.get s2.next = some (.cells (ic g.of) none) ∧ SlR st 1025 v L.length (waitC L) := fun st k =>
    ⟨((k2.trans k3).trans k).get c1, (k3.trans k).get c2, k.get c3, hv.keeps fun i o h => (((k1.trans k2).trans k3).trans k).get h⟩
  obtain ⟨a1, a2, a3, a4⟩ := g0 s3 (Keeps.refl _)
  simp -implicitDefEqProofs (maxSteps := 2000000) (disch := first|assumption|omega|rfl|(simp only[RD];done)|(simp only[RD];omega)) only [RN,Int.reduceBEq,Int.reduceBNe,Int.reduceLT,Int.reduceLE,Int.reduceAdd,Int.reduceSub,Int.reduceMul,Nat.reduceAdd,↓bc_flatz,↓bc_flat16,↓agg_bytez, p4_10, a1, rp, a2, r3]
  refine large_ a4.len (fun s4 k4 => ?_) (fun q1 q2 q3 s4 k4 => ?_)
  · simp -implicitDefEqProofs (maxSteps := 2000000) (disch := first|assumption|omega|rfl|(simp only[RD];done)|(simp only[RD];omega)) only [RN,Int.reduceBEq,Int.reduceBNe,Int.reduceLT,Int.reduceLE,Int.reduceAdd,Int.reduceSub,Int.reduceMul,Nat.reduceAdd,↓bc_flatz,↓bc_flat16,↓agg_bytez, p4_9]
    exact hq _
  obtain ⟨b1, b2, b3, b4⟩ := g0 s4 k4
  simp -implicitDefEqProofs (maxSteps := 2000000) (disch := first|assumption|omega|rfl|(simp only[RD];done)|(simp only[RD];omega)) only [RN,Int.reduceBEq,Int.reduceBNe,Int.reduceLT,Int.reduceLE,Int.reduceAdd,Int.reduceSub,Int.reduceMul,Nat.reduceAdd,↓bc_flatz,↓bc_flat16,↓agg_bytez, b1, rp]
  refine whole_ b4 hl (by omega) (fun hok s5 k5 => ?_) (fun _ s5 k5 => (by simp -implicitDefEqProofs (maxSteps := 2000000) (disch := first|assumption|omega|rfl|(simp only[RD];done)|(simp only[RD];omega)) only [RN,Int.reduceBEq,Int.reduceBNe,Int.reduceLT,Int.reduceLE,Int.reduceAdd,Int.reduceSub,Int.reduceMul,Nat.reduceAdd,↓bc_flatz,↓bc_flat16,↓agg_bytez, p4_9]; exact hq _))
  have k35 := k4.trans k5
  obtain ⟨d1, d2, d3, d4⟩ := g0 s5 k35
  by_cases hg : ¬ g.ok
  · have e : (g.err != 0) = true := by unfold Geo.err; rw [if_neg hg]; rfl
    simp -implicitDefEqProofs (maxSteps := 2000000) (disch := first|assumption|omega|rfl|(simp only[RD];done)|(simp only[RD];omega)) only [RN,Int.reduceBEq,Int.reduceBNe,Int.reduceLT,Int.reduceLE,Int.reduceAdd,Int.reduceSub,Int.reduceMul,Nat.reduceAdd,↓bc_flatz,↓bc_flat16,↓agg_bytez, e, p4_9]
    exact hq _
  have hg := Classical.not_not.1 hg
  have e : (g.err != 0) = false := by unfold Geo.err; rw [if_pos hg]; rfl
  have eo : g.of = g.lay := if_pos hg
  rw [eo] at g0
  by_cases hn : n < g.blocks
  · simp -implicitDefEqProofs (maxSteps := 2000000) (disch := first|assumption|omega|rfl|(simp only[RD];done)|(simp only[RD];omega)) only [RN,Int.reduceBEq,Int.reduceBNe,Int.reduceLT,Int.reduceLE,Int.reduceAdd,Int.reduceSub,Int.reduceMul,Nat.reduceAdd,↓bc_flatz,↓bc_flat16,↓agg_bytez, e, d2, r0, d1, p4_9, decide_eq_true hn]
    exact hq _
  simp -implicitDefEqProofs (maxSteps := 2000000) (disch := first|assumption|omega|rfl|(simp only[RD];done)|(simp only[RD];omega)) only [RN,Int.reduceBEq,Int.reduceBNe,Int.reduceLT,Int.reduceLE,Int.reduceAdd,Int.reduceSub,Int.reduceMul,Nat.reduceAdd,↓bc_flatz,↓bc_flat16,↓agg_bytez, e, d2, r0, d1, p4_9, decide_eq_false hn, rp]
  have hgi : g.inodes ≤ 2000 := by
    have := hg
    unfold Geo.ok at this
    omega
  have hmk : mkL g ≤ 1005 := by have := midW_len hg hgi; unfold mkL; omega
  have hgd := geo_nat hg
  refine kload_ (Dks.none k35) d4 hl (by omega) hok fun s6 d hD6 => ?_
  obtain ⟨e1, e2, e3, e4⟩ := g0 s6 hD6.keeps
  simp -implicitDefEqProofs (maxSteps := 2000000) (disch := first|assumption|omega|rfl|(simp only[RD];done)|(simp only[RD];omega)) only [RN,Int.reduceBEq,Int.reduceBNe,Int.reduceLT,Int.reduceLE,Int.reduceAdd,Int.reduceSub,Int.reduceMul,Nat.reduceAdd,↓bc_flatz,↓bc_flat16,↓agg_bytez, e1]
  refine knew_ hD6 hok.1 hok.2.1 fun s7 bl hD7 => ?_
  simp -implicitDefEqProofs (maxSteps := 2000000) (disch := first|assumption|omega|rfl|(simp only[RD];done)|(simp only[RD];omega)) only [RN,Int.reduceBEq,Int.reduceBNe,Int.reduceLT,Int.reduceLE,Int.reduceAdd,Int.reduceSub,Int.reduceMul,Nat.reduceAdd,↓bc_flatz,↓bc_flat16,↓agg_bytez, p4_8]
  refine lives_ fun s8 k8 => ?_
  have hD8 := hD7.later k8
  obtain ⟨f1, f2, f3, f4⟩ := g0 s8 hD8.keeps
  have t0 := Stl.load hok hl
  have t0' := Stl.new (n := n) ⟨hok.1, hok.2.1⟩
  simp -implicitDefEqProofs (maxSteps := 2000000) (disch := first|assumption|omega|rfl|(simp only[RD];done)|(simp only[RD];omega)) only [RN,Int.reduceBEq,Int.reduceBNe,Int.reduceLT,Int.reduceLE,Int.reduceAdd,Int.reduceSub,Int.reduceMul,Nat.reduceAdd,↓bc_flatz,↓bc_flat16,↓agg_bytez, p4_7, f2, r3]
  refine kmake_ hD8.swap t0.C (by omega) hg fun s9 hD9 => ?_
  obtain ⟨m1, t1⟩ := t0.mkfs hg (by omega)
  rw [m1]
  obtain ⟨h1, h2, h3, h4⟩ := g0 s9 hD9.keeps
  simp -implicitDefEqProofs (maxSteps := 2000000) (disch := first|assumption|omega|rfl|(simp only[RD];done)|(simp only[RD];omega)) only [RN,Int.reduceBEq,Int.reduceBNe,Int.reduceLT,Int.reduceLE,Int.reduceAdd,Int.reduceSub,Int.reduceMul,Nat.reduceAdd,↓bc_flatz,↓bc_flat16,↓agg_bytez, h2, r3]
  refine kmake_ hD9.swap t0'.C (by omega) hg fun s10 hD10 => ?_
  obtain ⟨m2, t2⟩ := t0'.mkfs hg (by omega)
  rw [m2]
  simp -implicitDefEqProofs (maxSteps := 2000000) (disch := first|assumption|omega|rfl|(simp only[RD];done)|(simp only[RD];omega)) only [RN,Int.reduceBEq,Int.reduceBNe,Int.reduceLT,Int.reduceLE,Int.reduceAdd,Int.reduceSub,Int.reduceMul,Nat.reduceAdd,↓bc_flatz,↓bc_flat16,↓agg_bytez, p4_6]
  obtain ⟨f, hf⟩ : ∃ f, f = (DS.load n L).held := ⟨_, rfl⟩
  have hH : HeldL f L := by rw [hf]; exact load_held hok
  rw [← hf] at t1
  rw [Int.zero_add] at t1 t2
  obtain ⟨M, hM⟩ : ∃ M, M = mkL g := ⟨_, rfl⟩
  rw [← hM] at t1 t2 hmk
  have z1 := zb_len
  refine lop1 (fun k x st => ∃ (i : Nat) (a b : DS), k + i = n.toNat ∧ x = .int .i64 i ∧ Dks s3 st [(bl, b), (d, a)] [] ∧ Stl n (doneF g f) M (0 + 1 + M + i) a ∧ Stl n (doneF g fun _ => none) M (0 + 1 + M + i) b) n.toNat ⟨0, _, _, by omega, rfl, hD10, t1, t2⟩ ?_
  rintro k x st next ⟨i, a, b, hi, rfl, hD, ta, tb⟩ hnx
  obtain ⟨i1, i2, i3, i4⟩ := g0 st hD.keeps
  by_cases h5 : (i : Int) < n
  · have hin : (0 : Int) ≤ (i : Nat) ∧ ((i : Nat) : Int) < n := ⟨by omega, h5⟩
    simp -implicitDefEqProofs (maxSteps := 2000000) (disch := first|assumption|omega|rfl|(simp only[RD];done)|(simp only[RD];omega)) only [RN,Int.reduceBEq,Int.reduceBNe,Int.reduceLT,Int.reduceLE,Int.reduceAdd,Int.reduceSub,Int.reduceMul,Nat.reduceAdd,↓bc_flatz,↓bc_flat16,↓agg_bytez, i1, decide_eq_true h5]
    refine kread_ hD.swap ta.C (by omega) fun st2 hD2 => ?_
    obtain ⟨ra1, ra2, ta2⟩ := ta.read hin
    obtain ⟨rb1, rb2, tb2⟩ := tb.read hin
    rw [ra1, ra2]
    have la := ta.len (i : Nat)
    have lb := tb.len (i : Nat)
    have lf : ((f (i : Nat)).getD zb).length = 1024 := by rw [hf]; exact t0.len (i : Nat)
    obtain ⟨A, hA⟩ : ∃ A, A = (doneF g f (i : Nat)).getD zb := ⟨_, rfl⟩
    obtain ⟨B, hB⟩ : ∃ B, B = (doneF g (fun _ => none) (i : Nat)).getD zb := ⟨_, rfl⟩
    rw [← hA] at la ⊢
    rw [← hB] at lb rb1
    simp -implicitDefEqProofs (maxSteps := 2000000) (disch := first|assumption|omega|rfl|(simp only[RD];done)|(simp only[RD];omega)) only [RN,Int.reduceBEq,Int.reduceBNe,Int.reduceLT,Int.reduceLE,Int.reduceAdd,Int.reduceSub,Int.reduceMul,Nat.reduceAdd,↓bc_flatz,↓bc_flat16,↓agg_bytez, p4_4, la, z1]
    have hD3 := hD2.swap.push (.cells (bc A) none)
    refine kread_ hD3 tb.C (by omega) fun st4 hD4 => ?_
    rw [rb1, rb2]
    simp -implicitDefEqProofs (maxSteps := 2000000) (disch := first|assumption|omega|rfl|(simp only[RD];done)|(simp only[RD];omega)) only [RN,Int.reduceBEq,Int.reduceBNe,Int.reduceLT,Int.reduceLE,Int.reduceAdd,Int.reduceSub,Int.reduceMul,Nat.reduceAdd,↓bc_flatz,↓bc_flat16,↓agg_bytez, lb, z1]
    have hD5 := hD4.push (.cells (bc B) none)
    obtain ⟨s5', hs5'⟩ : ∃ s5', s5' = st4.push (.cells (bc B) none) := ⟨_, rfl⟩
    rw [← hs5'] at hD5 ⊢
    obtain ⟨j1, j2, j3, j4⟩ := g0 s5' hD5.keeps
    have x1 : (st2.next, SObj.cells (bc A) none) ∈ [(st4.next, SObj.cells (bc B) none), (st2.next, SObj.cells (bc A) none)] := by simp
    have x2 : (st4.next, SObj.cells (bc B) none) ∈ [(st4.next, SObj.cells (bc B) none), (st2.next, SObj.cells (bc A) none)] := by simp
    have y1 := hD5.get x1
    have y2 := hD5.get x2
    have l3 : rdOne (some (.cells (ic g.lay) none)) 3 = some (.int .i64 1) := rfl
    have l4 : rdOne (some (.cells (ic g.lay) none)) 4 = some (.int .i64 (1 + g.log)) := rfl
    have l8 : rdOne (some (.cells (ic g.lay) none)) 8 = some (.int .i64 g.dataAt) := rfl
    have tl : ∀ st9, Keeps s5' st9 → next (.int .i64 ((i : Int) + 1)) st9 := fun st9 k9 => hnx _ _ (by omega) ⟨i + 1, _, _, by omega, by congr 1, (hD5.later k9).less fun p hp => (by cases hp), ta2, tb2⟩
    have hS : ((1 : Int) < i ∧ (i : Int) < 1 + g.log) ∨ g.dataAt < i → p4_2 (.bool false) s5' Q (.bool true) (.pointer (some ⟨σ.next, 0, none⟩)) s5' (.int .i64 (i : Nat)) (.pointer (some ⟨st2.next, 0, none⟩)) (.pointer (some ⟨st4.next, 0, none⟩)) next := fun hst => by
      have dsa : A = (f (i : Nat)).getD zb := by rw [hA, doneF_stays hg hst f]
      have dsb : B = zb := by rw [hB, doneF_stays hg hst]; rfl
      simp -implicitDefEqProofs (maxSteps := 2000000) (disch := first|assumption|omega|rfl|(simp only[RD];done)|(simp only[RD];omega)) only [RN,Int.reduceBEq,Int.reduceBNe,Int.reduceLT,Int.reduceLE,Int.reduceAdd,Int.reduceSub,Int.reduceMul,Nat.reduceAdd,↓bc_flatz,↓bc_flat16,↓agg_bytez, p4_2, j1, rp]
      refine at_ j4 hl (by omega) hH fun st6 k6 => ?_
      have hD6 := hD5.later k6
      have w1 := hD6.get x1
      have w2 := hD6.get x2
      rw [← dsa]
      have eq1 := eqA_bc (n := 1024) true la la
      rw [decide_eq_true rfl] at eq1
      have eq2 := eqA_bc (n := 1024) true lb z1
      rw [decide_eq_true dsb] at eq2
      simp -implicitDefEqProofs (maxSteps := 2000000) (disch := first|assumption|omega|rfl|(simp only[RD];done)|(simp only[RD];omega)) only [RN,Int.reduceBEq,Int.reduceBNe,Int.reduceLT,Int.reduceLE,Int.reduceAdd,Int.reduceSub,Int.reduceMul,Nat.reduceAdd,↓bc_flatz,↓bc_flat16,↓agg_bytez, y1, y2, w1, w2, la, lb, eq1, eq2, p4_1]
      exact tl st6 k6
    have hN : ¬ (((1 : Int) < i ∧ (i : Int) < 1 + g.log) ∨ g.dataAt < i) → p4_2 (.bool false) s5' Q (.bool false) (.pointer (some ⟨σ.next, 0, none⟩)) s5' (.int .i64 (i : Nat)) (.pointer (some ⟨st2.next, 0, none⟩)) (.pointer (some ⟨st4.next, 0, none⟩)) next := fun hst => by
      have dsa : A = B := by rw [hA, hB, doneF_same hg hst (by omega) f fun _ => none]
      have eq1 := eqA_bc (n := 1024) true la lb
      rw [decide_eq_true dsa] at eq1
      simp -implicitDefEqProofs (maxSteps := 2000000) (disch := first|assumption|omega|rfl|(simp only[RD];done)|(simp only[RD];omega)) only [RN,Int.reduceBEq,Int.reduceBNe,Int.reduceLT,Int.reduceLE,Int.reduceAdd,Int.reduceSub,Int.reduceMul,Nat.reduceAdd,↓bc_flatz,↓bc_flat16,↓agg_bytez, p4_2, p4_1, y1, y2, la, lb, eq1]
      exact tl s5' (Keeps.refl _)
    by_cases o1 : (1 : Int) < i
    · by_cases o2 : (i : Int) < 1 + g.log
      · simp -implicitDefEqProofs (maxSteps := 2000000) (disch := first|assumption|omega|rfl|(simp only[RD];done)|(simp only[RD];omega)) only [RN,Int.reduceBEq,Int.reduceBNe,Int.reduceLT,Int.reduceLE,Int.reduceAdd,Int.reduceSub,Int.reduceMul,Nat.reduceAdd,↓bc_flatz,↓bc_flat16,↓agg_bytez, j3, l3, l4, l8, decide_eq_true o1, p4_3, decide_eq_true o2]
        exact hS (.inl ⟨o1, o2⟩)
      · by_cases o3 : g.dataAt < i
        · simp -implicitDefEqProofs (maxSteps := 2000000) (disch := first|assumption|omega|rfl|(simp only[RD];done)|(simp only[RD];omega)) only [RN,Int.reduceBEq,Int.reduceBNe,Int.reduceLT,Int.reduceLE,Int.reduceAdd,Int.reduceSub,Int.reduceMul,Nat.reduceAdd,↓bc_flatz,↓bc_flat16,↓agg_bytez, j3, l3, l4, l8, decide_eq_true o1, p4_3, decide_eq_false o2, decide_eq_true o3]
          exact hS (.inr o3)
        · simp -implicitDefEqProofs (maxSteps := 2000000) (disch := first|assumption|omega|rfl|(simp only[RD];done)|(simp only[RD];omega)) only [RN,Int.reduceBEq,Int.reduceBNe,Int.reduceLT,Int.reduceLE,Int.reduceAdd,Int.reduceSub,Int.reduceMul,Nat.reduceAdd,↓bc_flatz,↓bc_flat16,↓agg_bytez, j3, l3, l4, l8, decide_eq_true o1, p4_3, decide_eq_false o2, decide_eq_false o3]
          exact hN (by omega)
    · have o3 : ¬ g.dataAt < i := by omega
      simp -implicitDefEqProofs (maxSteps := 2000000) (disch := first|assumption|omega|rfl|(simp only[RD];done)|(simp only[RD];omega)) only [RN,Int.reduceBEq,Int.reduceBNe,Int.reduceLT,Int.reduceLE,Int.reduceAdd,Int.reduceSub,Int.reduceMul,Nat.reduceAdd,↓bc_flatz,↓bc_flat16,↓agg_bytez, j3, l3, l4, l8, decide_eq_false o1, p4_3, decide_eq_false o3]
      exact hN (by omega)
  · simp -implicitDefEqProofs (maxSteps := 2000000) (disch := first|assumption|omega|rfl|(simp only[RD];done)|(simp only[RD];omega)) only [RN,Int.reduceBEq,Int.reduceBNe,Int.reduceLT,Int.reduceLE,Int.reduceAdd,Int.reduceSub,Int.reduceMul,Nat.reduceAdd,↓bc_flatz,↓bc_flat16,↓agg_bytez, i1, decide_eq_false h5]
    refine kmade_ hD.swap ta.C ?_
    rw [ta.made]
    try simp -implicitDefEqProofs (maxSteps := 2000000) (disch := first|assumption|omega|rfl|(simp only[RD];done)|(simp only[RD];omega)) only [RN,Int.reduceBEq,Int.reduceBNe,Int.reduceLT,Int.reduceLE,Int.reduceAdd,Int.reduceSub,Int.reduceMul,Nat.reduceAdd,↓bc_flatz,↓bc_flat16,↓agg_bytez]
    refine kimg_ hD.swap ta.C ta.W fun L1 st2 v1 hL1 hD2 hv1 => ?_
    rw [ta.n]
    have u2 : unrle [(1, Value.int .i64 0), (1, .slice none 0 0)] = [.int .i64 0, .slice none 0 0] := rfl
    have g2 : ([.int .i64 0, .slice none 0 0] : List Value).length = 2 := rfl
    have hD3 := hD2.push (.cells [.int .i64 n, v1] none)
    obtain ⟨s3', hs3'⟩ : ∃ s3', s3' = st2.push (.cells [.int .i64 n, v1] none) := ⟨_, rfl⟩
    simp -implicitDefEqProofs (maxSteps := 2000000) (disch := first|assumption|omega|rfl|(simp only[RD];done)|(simp only[RD];omega)) only [RN,Int.reduceBEq,Int.reduceBNe,Int.reduceLT,Int.reduceLE,Int.reduceAdd,Int.reduceSub,Int.reduceMul,Nat.reduceAdd,↓bc_flatz,↓bc_flat16,↓agg_bytez, u2, g2]
    rw [← hs3'] at hD3 ⊢
    obtain ⟨j1, j2, j3, j4⟩ := g0 s3' hD3.keeps
    simp -implicitDefEqProofs (maxSteps := 2000000) (disch := first|assumption|omega|rfl|(simp only[RD];done)|(simp only[RD];omega)) only [RN,Int.reduceBEq,Int.reduceBNe,Int.reduceLT,Int.reduceLE,Int.reduceAdd,Int.reduceSub,Int.reduceMul,Nat.reduceAdd,↓bc_flatz,↓bc_flat16,↓agg_bytez, j2, r3]
    refine kmake_ hD3 ta.C (by omega) hg fun st4 hD4 => ?_
    obtain ⟨m3, t3⟩ := ta.mkfs hg (by omega)
    rw [m3]
    rw [← hM] at t3
    simp -implicitDefEqProofs (maxSteps := 2000000) (disch := first|assumption|omega|rfl|(simp only[RD];done)|(simp only[RD];omega)) only [RN,Int.reduceBEq,Int.reduceBNe,Int.reduceLT,Int.reduceLE,Int.reduceAdd,Int.reduceSub,Int.reduceMul,Nat.reduceAdd,↓bc_flatz,↓bc_flat16,↓agg_bytez, p4_5]
    refine kmade_ hD4 t3.C ?_
    rw [t3.made]
    have ez : (((M : Nat) : Int) + (M : Nat) == 2 * (M : Nat)) = true := by simp; omega
    simp -implicitDefEqProofs (maxSteps := 2000000) (disch := first|assumption|omega|rfl|(simp only[RD];done)|(simp only[RD];omega)) only [RN,Int.reduceBEq,Int.reduceBNe,Int.reduceLT,Int.reduceLE,Int.reduceAdd,Int.reduceSub,Int.reduceMul,Nat.reduceAdd,↓bc_flatz,↓bc_flat16,↓agg_bytez, ez]
    refine kimg_ hD4 t3.C t3.W fun L2 st5 v2 hL2 hD5 hv2 => ?_
    rw [t3.n]
    have x0 : (st2.next, SObj.cells [.int .i64 n, v1] none) ∈ (st2.next, SObj.cells [.int .i64 n, v1] none) :: (imgO v1 L1 ++ []) := List.mem_cons_self ..
    have y4 := hD4.get x0
    have y5 := hD5.get (List.mem_append_right _ x0)
    simp -implicitDefEqProofs (maxSteps := 2000000) (disch := first|assumption|omega|rfl|(simp only[RD];done)|(simp only[RD];omega)) only [RN,Int.reduceBEq,Int.reduceBNe,Int.reduceLT,Int.reduceLE,Int.reduceAdd,Int.reduceSub,Int.reduceMul,Nat.reduceAdd,↓bc_flatz,↓bc_flat16,↓agg_bytez, y4, y5, rp]
    have hu1 := hD5.sl (v := v1) (L := L1) (fun p hp => List.mem_append_right _ (List.mem_cons_of_mem _ (List.mem_append_left _ hp))) hv1
    have few2 := hL2.few t3.W (by have := t3.n; omega)
    have fe2 := t3.n
    refine sameim_ hv2.r hu1.r (hL2.lens t3.C) (hL1.lens ta.C) (by omega) fun st6 k6 => ?_
    have el : L2 = L1 := by
      refine HeldL.uniq (f := doneF g f) ?_ ?_
      · have := hL2
        rw [t3.held, doneF_twice] at this
        exact this
      · have := hL1
        rw [ta.held] at this
        exact this
    rw [decide_eq_true el]
    try simp -implicitDefEqProofs (maxSteps := 2000000) (disch := first|assumption|omega|rfl|(simp only[RD];done)|(simp only[RD];omega)) only [RN,Int.reduceBEq,Int.reduceBNe,Int.reduceLT,Int.reduceLE,Int.reduceAdd,Int.reduceSub,Int.reduceMul,Nat.reduceAdd,↓bc_flatz,↓bc_flat16,↓agg_bytez]
    exact hq _
end Go.Proofs.Ytchfpepbdnjhmaa
