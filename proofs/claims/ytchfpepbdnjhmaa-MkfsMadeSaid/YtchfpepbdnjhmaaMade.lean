/- Chapter 23: MkfsMade, walked. -/
import Derived.Test.YtchfpepbdnjhmaaKim
import Derived.Test.YtchfpepbdnjhmaaRof
import Derived.Test.YtchfpepbdnjhmaaCut23
import Derived.Test.YtchfpepbdnjhmaaPck
set_option linter.all false
set_option maxRecDepth 100000
set_option maxHeartbeats 1600000
namespace Go.Proofs.Ytchfpepbdnjhmaa
open Go.Am
variable {σ : Store} {Q : Value → Store → Prop} {n : Int} {v kv : Value} {L : List HB} {g : Geo} {ks : List Bool}
theorem made23_ (hv : SlR σ 1025 v L.length (waitC L)) (hl : ∀ p ∈ L, p.2.length = 1024) (hk : SlR σ 1 kv ks.length (bC ks)) (hq : ∀ σ', Q (.bool true) σ') : Does Try.prog 5 [.agg ⟨[.int .i64 n, v]⟩, .agg ⟨ic g.cells⟩, kv] σ Q := by
  refine d5 ?_
  obtain ⟨s1, hs1⟩ : ∃ s1, s1 = σ.push (.cells [.int .i64 n, v] none) := ⟨_, rfl⟩
  have k1 : Keeps σ s1 := by rw [hs1]; exact (Keeps.refl _).push _
  have c1 : s1.get σ.next = some (.cells [.int .i64 n, v] none) := by rw [hs1]; exact Store.get_push_same _ _
  obtain ⟨s2, hs2⟩ : ∃ s2, s2 = s1.push (.cells (ic g.cells) none) := ⟨_, rfl⟩
  have k2 : Keeps s1 s2 := by rw [hs2]; exact (Keeps.refl _).push _
  have c2 : s2.get s1.next = some (.cells (ic g.cells) none) := by rw [hs2]; exact Store.get_push_same _ _
  have r3 : rdPart (some (.cells (ic g.cells) none)) 0 3 = some (.agg ⟨ic g.cells⟩) := rfl
  have r0 : rdOne (some (.cells (ic g.cells) none)) 0 = some (.int .i64 g.blocks) := rfl
  have r2 : rdOne (some (.cells (ic g.cells) none)) 2 = some (.int .i64 g.inodes) := rfl
  have rp : ∀ v, rdPart (some (.cells [.int .i64 n, v] none)) 0 2 = some (.agg ⟨[.int .i64 n, v]⟩) := fun v => rfl
  have u9 : (unrle [(9, .int .i64 0)]).length = 9 := rfl
  have lof : (ic g.of).length = 9 := by unfold Geo.of; split <;> rfl
  unfold p5
  rw [box_agg, nop_some, ← hs1, box_agg, nop_some, ← hs2]
  simp -implicitDefEqProofs (maxSteps := 2000000) (disch := first|assumption|omega|rfl|(simp only[RD];done)|(simp only[RD];omega)) only [RN,Int.reduceBEq,Int.reduceBNe,Int.reduceLT,Int.reduceLE,Int.reduceAdd,Int.reduceSub,Int.reduceMul,Nat.reduceAdd,↓bc_flatz,↓bc_flat16,↓agg_bytez, c2, r3]
  refine rof_ ?_
  obtain ⟨s3, hs3⟩ : ∃ s3, s3 = s2.push (.cells (ic g.of) none) := ⟨_, rfl⟩
  have k3 : Keeps s2 s3 := by rw [hs3]; exact (Keeps.refl _).push _
  simp -implicitDefEqProofs (maxSteps := 2000000) (disch := first|assumption|omega|rfl|(simp only[RD];done)|(simp only[RD];omega)) only [RN,Int.reduceBEq,Int.reduceBNe,Int.reduceLT,Int.reduceLE,Int.reduceAdd,Int.reduceSub,Int.reduceMul,Nat.reduceAdd,↓bc_flatz,↓bc_flat16,↓agg_bytez, p5_8, u9, lof]
  rw [← hs3]
  have g0 : ∀ st, Keeps s3 st → st.get σ.next = some (.cells [.int .i64 n, v] none) ∧ st.get s1.next = some (.cells (ic g.cells) none) ∧ SlR st 1025 v L.length (waitC L) ∧ SlR st 1 kv ks.length (bC ks) := fun st k =>
    ⟨((k2.trans k3).trans k).get c1, (k3.trans k).get c2, hv.keeps fun i o h => (((k1.trans k2).trans k3).trans k).get h, hk.keeps fun i o h => (((k1.trans k2).trans k3).trans k).get h⟩
  obtain ⟨a1, a2, a4, a5⟩ := g0 s3 (Keeps.refl _)
  simp -implicitDefEqProofs (maxSteps := 2000000) (disch := first|assumption|omega|rfl|(simp only[RD];done)|(simp only[RD];omega)) only [RN,Int.reduceBEq,Int.reduceBNe,Int.reduceLT,Int.reduceLE,Int.reduceAdd,Int.reduceSub,Int.reduceMul,Nat.reduceAdd,↓bc_flatz,↓bc_flat16,↓agg_bytez, a1, rp, a2, r3]
  refine large_ a4.len (fun s4 k4 => ?_) (fun q1 q2 q3 s4 k4 => ?_)
  · simp -implicitDefEqProofs (maxSteps := 2000000) (disch := first|assumption|omega|rfl|(simp only[RD];done)|(simp only[RD];omega)) only [RN,Int.reduceBEq,Int.reduceBNe,Int.reduceLT,Int.reduceLE,Int.reduceAdd,Int.reduceSub,Int.reduceMul,Nat.reduceAdd,↓bc_flatz,↓bc_flat16,↓agg_bytez, p5_7]
    exact hq _
  obtain ⟨b1, b2, b4, b5⟩ := g0 s4 k4
  simp -implicitDefEqProofs (maxSteps := 2000000) (disch := first|assumption|omega|rfl|(simp only[RD];done)|(simp only[RD];omega)) only [RN,Int.reduceBEq,Int.reduceBNe,Int.reduceLT,Int.reduceLE,Int.reduceAdd,Int.reduceSub,Int.reduceMul,Nat.reduceAdd,↓bc_flatz,↓bc_flat16,↓agg_bytez, b1, rp]
  refine whole_ b4 hl (by omega) (fun hok s5 k5 => ?_) (fun _ s5 k5 => (by simp -implicitDefEqProofs (maxSteps := 2000000) (disch := first|assumption|omega|rfl|(simp only[RD];done)|(simp only[RD];omega)) only [RN,Int.reduceBEq,Int.reduceBNe,Int.reduceLT,Int.reduceLE,Int.reduceAdd,Int.reduceSub,Int.reduceMul,Nat.reduceAdd,↓bc_flatz,↓bc_flat16,↓agg_bytez, p5_7]; exact hq _))
  have k35 := k4.trans k5
  obtain ⟨d1, d2, d4, d5⟩ := g0 s5 k35
  by_cases hg : ¬ g.ok
  · have e : (g.err != 0) = true := by unfold Geo.err; rw [if_neg hg]; rfl
    simp -implicitDefEqProofs (maxSteps := 2000000) (disch := first|assumption|omega|rfl|(simp only[RD];done)|(simp only[RD];omega)) only [RN,Int.reduceBEq,Int.reduceBNe,Int.reduceLT,Int.reduceLE,Int.reduceAdd,Int.reduceSub,Int.reduceMul,Nat.reduceAdd,↓bc_flatz,↓bc_flat16,↓agg_bytez, e, p5_7]
    exact hq _
  have hg := Classical.not_not.1 hg
  have e : (g.err != 0) = false := by unfold Geo.err; rw [if_pos hg]; rfl
  by_cases hn : n < g.blocks
  · simp -implicitDefEqProofs (maxSteps := 2000000) (disch := first|assumption|omega|rfl|(simp only[RD];done)|(simp only[RD];omega)) only [RN,Int.reduceBEq,Int.reduceBNe,Int.reduceLT,Int.reduceLE,Int.reduceAdd,Int.reduceSub,Int.reduceMul,Nat.reduceAdd,↓bc_flatz,↓bc_flat16,↓agg_bytez, e, d2, r0, d1, p5_7, decide_eq_true hn]
    exact hq _
  simp -implicitDefEqProofs (maxSteps := 2000000) (disch := first|assumption|omega|rfl|(simp only[RD];done)|(simp only[RD];omega)) only [RN,Int.reduceBEq,Int.reduceBNe,Int.reduceLT,Int.reduceLE,Int.reduceAdd,Int.reduceSub,Int.reduceMul,Nat.reduceAdd,↓bc_flatz,↓bc_flat16,↓agg_bytez, e, d2, r0, d1, p5_7, decide_eq_false hn, rp]
  have hgi : g.inodes ≤ 2000 := by
    have := hg
    unfold Geo.ok at this
    omega
  have hmk : mkL g ≤ 1005 := by have := midW_len hg hgi; unfold mkL; omega
  refine kload_ (Dks.none k35) d4 hl (by omega) hok fun s6 wd hD6 => ?_
  simp -implicitDefEqProofs (maxSteps := 2000000) (disch := first|assumption|omega|rfl|(simp only[RD];done)|(simp only[RD];omega)) only [RN,Int.reduceBEq,Int.reduceBNe,Int.reduceLT,Int.reduceLE,Int.reduceAdd,Int.reduceSub,Int.reduceMul,Nat.reduceAdd,↓bc_flatz,↓bc_flat16,↓agg_bytez, p5_6]
  refine lives_ fun s8 k8 => ?_
  have hD8 := hD6.later k8
  obtain ⟨f1, f2, f4, f5⟩ := g0 s8 hD8.keeps
  have t0 := Stl.load hok hl
  simp -implicitDefEqProofs (maxSteps := 2000000) (disch := first|assumption|omega|rfl|(simp only[RD];done)|(simp only[RD];omega)) only [RN,Int.reduceBEq,Int.reduceBNe,Int.reduceLT,Int.reduceLE,Int.reduceAdd,Int.reduceSub,Int.reduceMul,Nat.reduceAdd,↓bc_flatz,↓bc_flat16,↓agg_bytez, f2, r3]
  refine kmake_ hD8 t0.C (by omega) hg fun s9 hD9 => ?_
  obtain ⟨m1, t1⟩ := t0.mkfs hg (by omega)
  rw [m1]
  obtain ⟨h1, h2, h4, h5⟩ := g0 s9 hD9.keeps
  simp -implicitDefEqProofs (maxSteps := 2000000) (disch := first|assumption|omega|rfl|(simp only[RD];done)|(simp only[RD];omega)) only [RN,Int.reduceBEq,Int.reduceBNe,Int.reduceLT,Int.reduceLE,Int.reduceAdd,Int.reduceSub,Int.reduceMul,Nat.reduceAdd,↓bc_flatz,↓bc_flat16,↓agg_bytez, p5_5]
  obtain ⟨f, hf⟩ : ∃ f, f = (DS.load n L).held := ⟨_, rfl⟩
  have hH : HeldL f L := by rw [hf]; exact load_held hok
  rw [← hf] at t1
  rw [Int.zero_add] at t1
  obtain ⟨W1, hW1⟩ : ∃ W1, W1 = ((DS.load n L).mkfs g).2 := ⟨_, rfl⟩
  rw [← hW1] at t1 hD9
  obtain ⟨M, hM⟩ : ∃ M, M = mkL g := ⟨_, rfl⟩
  rw [← hM] at t1 hmk
  refine kmade_ hD9 t1.C ?_
  rw [t1.made]
  simp -implicitDefEqProofs (maxSteps := 2000000) (disch := first|assumption|omega|rfl|(simp only[RD];done)|(simp only[RD];omega)) only [RN,Int.reduceBEq,Int.reduceBNe,Int.reduceLT,Int.reduceLE,Int.reduceAdd,Int.reduceSub,Int.reduceMul,Nat.reduceAdd,↓bc_flatz,↓bc_flat16,↓agg_bytez, h5.len, h2, r2]
  have pk : ∀ (x : Int) (Q : Value → Store → Prop), (∀ t : Nat, t ≤ M → Q (.int .i64 (t : Nat)) s9) → Does Try.prog 20 [.int .i64 x, .int .i64 (((M : Nat) : Int) + 1)] s9 Q := fun x Q h => pick_ (by omega) (by omega) (by
    have e1 := Int.emod_nonneg x (show (((M : Nat) : Int) + 1) ≠ 0 by omega)
    have e2 := Int.emod_lt_of_pos x (show (0 : Int) < ((M : Nat) : Int) + 1 by omega)
    obtain ⟨t, ht⟩ : ∃ t : Nat, x % (((M : Nat) : Int) + 1) = (t : Nat) := ⟨(x % (((M : Nat) : Int) + 1)).toNat, by omega⟩
    rw [ht]
    exact h t (by omega))
  refine pk _ _ fun t htM => ?_
  simp -implicitDefEqProofs (maxSteps := 2000000) (disch := first|assumption|omega|rfl|(simp only[RD];done)|(simp only[RD];omega)) only [RN,Int.reduceBEq,Int.reduceBNe,Int.reduceLT,Int.reduceLE,Int.reduceAdd,Int.reduceSub,Int.reduceMul,Nat.reduceAdd,↓bc_flatz,↓bc_flat16,↓agg_bytez, h1, rp]
  refine kload_ hD9 h4 hl (by omega) hok fun s10 d hD10 => ?_
  simp -implicitDefEqProofs (maxSteps := 2000000) (disch := first|assumption|omega|rfl|(simp only[RD];done)|(simp only[RD];omega)) only [RN,Int.reduceBEq,Int.reduceBNe,Int.reduceLT,Int.reduceLE,Int.reduceAdd,Int.reduceSub,Int.reduceMul,Nat.reduceAdd,↓bc_flatz,↓bc_flat16,↓agg_bytez, p5_4]
  refine kfuse_ hD10 t0.C rfl (t : Nat) fun s11 hD11 => ?_
  have cF : ((DS.load n L).fused (t : Nat)).C 0 := fused_C t0.C (by omega)
  have wF : ((DS.load n L).fused (t : Nat)).W := fused_W t0.W
  obtain ⟨i1, i2, i4, i5⟩ := g0 s11 hD11.keeps
  simp -implicitDefEqProofs (maxSteps := 2000000) (disch := first|assumption|omega|rfl|(simp only[RD];done)|(simp only[RD];omega)) only [RN,Int.reduceBEq,Int.reduceBNe,Int.reduceLT,Int.reduceLE,Int.reduceAdd,Int.reduceSub,Int.reduceMul,Nat.reduceAdd,↓bc_flatz,↓bc_flat16,↓agg_bytez, i2, r3]
  refine kmake_ hD11 cF (by omega) hg fun s12 hD12 => ?_
  have md := mkfs_does (s := (DS.load n L).fused (t : Nat)) hg (by show g.blocks ≤ n; omega) rfl cF wF
  have ego : goes ((DS.load n L).fused (t : Nat)).fuse (mkL g) = t := by
    show goes (max ((t : Nat) : Int) (-1)) (mkL g) = t
    unfold goes
    rw [if_neg (by omega)]
    omega
  rw [ego] at md
  obtain ⟨r, hr⟩ : ∃ r, r = ((DS.load n L).fused (t : Nat)).mkfs g := ⟨_, rfl⟩
  rw [← hr] at md hD12 ⊢
  have hrf : (r.2.held, r.2.wait) = effL ((mkOps g).take t) (f, []) := by rw [hf]; exact md.held
  have hrm : r.2.made = (t : Nat) := by rw [md.made]; show (0 : Int) + _ = _; omega
  have hcode : (r.1 == 0) = decide (t = M) ∧ (r.1 = 0 ∨ r.1 = 3) := by
    have := md.code
    rw [← hM] at this
    by_cases h : t = M
    · rw [if_pos h] at this; rw [this, decide_eq_true h]; exact ⟨rfl, .inl rfl⟩
    · rw [if_neg h] at this; rw [this, decide_eq_false h]; exact ⟨rfl, .inr rfl⟩
  have etm : (((t : Nat) : Int) == (M : Nat)) = decide (t = M) := by
    by_cases h : t = M
    · rw [h]; simp
    · rw [decide_eq_false h]; simp; omega
  have go : ∀ c : Int, (c = 0 ∨ c = 3) → ∀ b : Bool, decide (t = M) = b → Does Try.prog 9 [.pointer (some ⟨wd, 0, none⟩)] s12 fun v119 s120 =>
      vop (binI .eql (.int .i64 (t : Nat)) v119) s120 fun v121 s122 =>
      vop (eqB true (.bool b) v121) s122 fun v123 s124 =>
      p5_3 v123 s124 Q (.int .i64 c) (.pointer (some ⟨d, 0, none⟩)) (.int .i64 (t : Nat)) kv (.pointer (some ⟨σ.next, 0, none⟩)) (.pointer (some ⟨wd, 0, none⟩)) := fun c hc2 b hb2 => by
    refine kmade_ hD12.swap t1.C ?_
    rw [t1.made]
    have ett : (((t : Nat) : Int) != (t : Nat)) = false := by simp
    have rest : p5_3 (.bool false) s12 Q (.int .i64 c) (.pointer (some ⟨d, 0, none⟩)) (.int .i64 (t : Nat)) kv (.pointer (some ⟨σ.next, 0, none⟩)) (.pointer (some ⟨wd, 0, none⟩)) := by
      have key : ∀ st, Dks s3 st [(d, r.2), (wd, W1)] [] → p5_2 (.bool false) st Q kv (.pointer (some ⟨d, 0, none⟩)) (.pointer (some ⟨d, 0, none⟩)) (.int .i64 (t : Nat)) (.pointer (some ⟨σ.next, 0, none⟩)) (.pointer (some ⟨wd, 0, none⟩)) := fun st hD => by
        simp -implicitDefEqProofs (maxSteps := 2000000) (disch := first|assumption|omega|rfl|(simp only[RD];done)|(simp only[RD];omega)) only [RN,Int.reduceBEq,Int.reduceBNe,Int.reduceLT,Int.reduceLE,Int.reduceAdd,Int.reduceSub,Int.reduceMul,Nat.reduceAdd,↓bc_flatz,↓bc_flat16,↓agg_bytez, p5_2]
        refine kcrash_ (ks := ks) hD md.C (by omega) (fun st' k => (g0 st' k).2.2.2) fun s13 hD13 => ?_
        have C3 := crash_C (ks := ks) md.C
        have W3 := crash_W (ks := ks) md.W
        have hR : (r.2.crash ks).held = leftF ((mkOps g).take t) f ks := by
          show heldI r.2.held r.2.wait ks r.2.wait.length = _
          have e1 : r.2.held = (effL ((mkOps g).take t) (f, [])).1 := congrArg Prod.fst hrf
          have e2 : r.2.wait = (effL ((mkOps g).take t) (f, [])).2 := congrArg Prod.snd hrf
          rw [e1, e2]; rfl
        have hrn : (r.2.crash ks).n = n := md.n
        obtain ⟨R, hRR⟩ : ∃ R, R = r.2.crash ks := ⟨_, rfl⟩
        rw [← hRR] at C3 W3 hR hrn hD13
        try simp -implicitDefEqProofs (maxSteps := 2000000) (disch := first|assumption|omega|rfl|(simp only[RD];done)|(simp only[RD];omega)) only [RN,Int.reduceBEq,Int.reduceBNe,Int.reduceLT,Int.reduceLE,Int.reduceAdd,Int.reduceSub,Int.reduceMul,Nat.reduceAdd,↓bc_flatz,↓bc_flat16,↓agg_bytez]
        refine kimg_ hD13 C3 W3 fun L1 s14 v1 hL1 hD14 hv1 => ?_
        rw [hrn]
        have u2 : unrle [(1, Value.int .i64 0), (1, .slice none 0 0)] = [.int .i64 0, .slice none 0 0] := rfl
        have g2 : ([.int .i64 0, .slice none 0 0] : List Value).length = 2 := rfl
        have hD15 := hD14.push (.cells [.int .i64 n, v1] none)
        obtain ⟨s15, hs15⟩ : ∃ s15, s15 = s14.push (.cells [.int .i64 n, v1] none) := ⟨_, rfl⟩
        have k15 : Keeps s14 s15 := by rw [hs15]; exact (Keeps.refl _).push _
        have x0 : (s14.next, SObj.cells [.int .i64 n, v1] none) ∈ (s14.next, SObj.cells [.int .i64 n, v1] none) :: (imgO v1 L1 ++ []) := List.mem_cons_self ..
        rw [← hs15] at hD15
        have y15 := hD15.get x0
        simp -implicitDefEqProofs (maxSteps := 2000000) (disch := first|assumption|omega|rfl|(simp only[RD];done)|(simp only[RD];omega)) only [RN,Int.reduceBEq,Int.reduceBNe,Int.reduceLT,Int.reduceLE,Int.reduceAdd,Int.reduceSub,Int.reduceMul,Nat.reduceAdd,↓bc_flatz,↓bc_flat16,↓agg_bytez, u2, g2]
        rw [← hs15]
        try simp -implicitDefEqProofs (maxSteps := 2000000) (disch := first|assumption|omega|rfl|(simp only[RD];done)|(simp only[RD];omega)) only [RN,Int.reduceBEq,Int.reduceBNe,Int.reduceLT,Int.reduceLE,Int.reduceAdd,Int.reduceSub,Int.reduceMul,Nat.reduceAdd,↓bc_flatz,↓bc_flat16,↓agg_bytez, y15, rp]
        have len1 := hL1.lens C3
        have few1 := hL1.few W3 (by have := hok.1; omega)
        refine at_ (hv1.r.keeps fun i o h => k15.get h) len1 (by omega) hL1 fun s16 k16 => ?_
        have hD16 := hD15.later k16
        have y16 := hD16.get x0
        have z1 := zb_len
        have hRl : ((R.held 0).getD zb).length = 1024 := by
          cases hx : R.held 0 with
          | none => exact zb_len
          | some b => exact C3.ok.held _ _ hx
        have eq1 := eqA_bc (n := 1024) false hRl z1
        obtain ⟨b3, hb3⟩ : ∃ b3 : Bool, b3 = decide ((R.held 0).getD zb = zb) := ⟨_, rfl⟩
        rw [← hb3] at eq1
        have fin : ∀ (b : Bool) (s182 : Store), Keeps s16 s182 → (b = true ∨ b3 = true ∨ R.held = doneF g f) → Does Try.prog 18 [.pointer (some ⟨wd, 0, none⟩)] s182 fun v183 s184 =>
            vop (loadV true 2 (.pointer (some ⟨s14.next, 0, none⟩)) s184.get) s184 fun v185 _ =>
            kop (loadV true 2 (.pointer (some ⟨s14.next, 0, none⟩)) s182.get) v185 (
            Does Try.prog 19 [v185, v183] s184 fun v186 s187 =>
            gop (.bool b) false s187 (fun K => K (.bool b3) s187) fun v188 s189 =>
            vop (pickV (.bool b) (.bool true) v188) s189 fun v190 s191 =>
            gop v190 false s191 (fun K => K v186 s191) fun v192 s193 =>
            vop (pickV v190 (.bool true) v192) s193 fun v194 s195 =>
            Q v194 s195) := fun b s182 k182 hor => by
          have hD17 := hD16.later k182
          have y17 := hD17.get x0
          refine kimg_ hD17.swap t1.C t1.W fun L2 s18 v2 hL2 hD18 hv2 => ?_
          rw [t1.n]
          have y18 := hD18.get (List.mem_append_right _ x0)
          have hu1 := hD18.sl (v := v1) (L := L1) (fun p hp => List.mem_append_right _ (List.mem_cons_of_mem _ (List.mem_append_left _ hp))) hv1
          simp -implicitDefEqProofs (maxSteps := 2000000) (disch := first|assumption|omega|rfl|(simp only[RD];done)|(simp only[RD];omega)) only [RN,Int.reduceBEq,Int.reduceBNe,Int.reduceLT,Int.reduceLE,Int.reduceAdd,Int.reduceSub,Int.reduceMul,Nat.reduceAdd,↓bc_flatz,↓bc_flat16,↓agg_bytez, y17, y18, rp]
          refine sameim_ hu1.r hv2.r len1 (hL2.lens t1.C) (by omega) fun s19 k19 => ?_
          have e4 : R.held = doneF g f → decide (L1 = L2) = true := fun h => decide_eq_true (HeldL.uniq (f := doneF g f) (by rw [← h]; exact hL1) (by rw [← t1.held]; exact hL2))
          generalize decide (L1 = L2) = b4 at e4 ⊢
          have hor' : b = true ∨ b3 = true ∨ b4 = true := by
            rcases hor with h | h | h
            · exact .inl h
            · exact .inr (.inl h)
            · exact .inr (.inr (e4 h))
          clear hor e4 hb3 eq1
          rcases hor' with rfl | rfl | rfl
          · simp -implicitDefEqProofs (maxSteps := 2000000) (disch := first|assumption|omega|rfl|(simp only[RD];done)|(simp only[RD];omega)) only [RN,Int.reduceBEq,Int.reduceBNe,Int.reduceLT,Int.reduceLE,Int.reduceAdd,Int.reduceSub,Int.reduceMul,Nat.reduceAdd,↓bc_flatz,↓bc_flat16,↓agg_bytez]
            exact hq _
          · cases b with
            | true => simp -implicitDefEqProofs (maxSteps := 2000000) (disch := first|assumption|omega|rfl|(simp only[RD];done)|(simp only[RD];omega)) only [RN,Int.reduceBEq,Int.reduceBNe,Int.reduceLT,Int.reduceLE,Int.reduceAdd,Int.reduceSub,Int.reduceMul,Nat.reduceAdd,↓bc_flatz,↓bc_flat16,↓agg_bytez]; exact hq _
            | false => simp -implicitDefEqProofs (maxSteps := 2000000) (disch := first|assumption|omega|rfl|(simp only[RD];done)|(simp only[RD];omega)) only [RN,Int.reduceBEq,Int.reduceBNe,Int.reduceLT,Int.reduceLE,Int.reduceAdd,Int.reduceSub,Int.reduceMul,Nat.reduceAdd,↓bc_flatz,↓bc_flat16,↓agg_bytez]; exact hq _
          · cases b with
            | true => simp -implicitDefEqProofs (maxSteps := 2000000) (disch := first|assumption|omega|rfl|(simp only[RD];done)|(simp only[RD];omega)) only [RN,Int.reduceBEq,Int.reduceBNe,Int.reduceLT,Int.reduceLE,Int.reduceAdd,Int.reduceSub,Int.reduceMul,Nat.reduceAdd,↓bc_flatz,↓bc_flat16,↓agg_bytez]; exact hq _
            | false =>
              cases b3 with
              | true => simp -implicitDefEqProofs (maxSteps := 2000000) (disch := first|assumption|omega|rfl|(simp only[RD];done)|(simp only[RD];omega)) only [RN,Int.reduceBEq,Int.reduceBNe,Int.reduceLT,Int.reduceLE,Int.reduceAdd,Int.reduceSub,Int.reduceMul,Nat.reduceAdd,↓bc_flatz,↓bc_flat16,↓agg_bytez]; exact hq _
              | false => simp -implicitDefEqProofs (maxSteps := 2000000) (disch := first|assumption|omega|rfl|(simp only[RD];done)|(simp only[RD];omega)) only [RN,Int.reduceBEq,Int.reduceBNe,Int.reduceLT,Int.reduceLE,Int.reduceAdd,Int.reduceSub,Int.reduceMul,Nat.reduceAdd,↓bc_flatz,↓bc_flat16,↓agg_bytez]; exact hq _
        rw [Bool.xor_false] at eq1
        have hcut := cut_mk (f := f) (ks := ks) hg (t := t) (by omega)
        rw [← hR] at hcut
        obtain ⟨w1, _, w4, _⟩ := g0 s16 hD16.keeps
        have hu16 := hD16.sl (v := v1) (L := L1) (fun p hp => List.mem_cons_of_mem _ (List.mem_append_left _ hp)) hv1
        by_cases h2 : (((t : Nat) : Int)) < 2
        · simp -implicitDefEqProofs (maxSteps := 2000000) (disch := first|assumption|omega|rfl|(simp only[RD];done)|(simp only[RD];omega)) only [RN,Int.reduceBEq,Int.reduceBNe,Int.reduceLT,Int.reduceLE,Int.reduceAdd,Int.reduceSub,Int.reduceMul,Nat.reduceAdd,↓bc_flatz,↓bc_flat16,↓agg_bytez, eq1, p5_1, decide_eq_true h2, y16, rp, w1]
          refine sameim_ hu16.r w4 len1 hl (by omega) fun s17 k17 => ?_
          have hor : decide (L1 = L) = true ∨ b3 = true ∨ R.held = doneF g f := by
            rcases hcut with h | h | h
            · exact .inl (decide_eq_true (HeldL.uniq (f := f) (by rw [← h.2]; exact hL1) hH))
            · exact .inr (.inl (by rw [hb3, h]; exact decide_eq_true rfl))
            · exact .inr (.inr h)
          generalize decide (L1 = L) = b at hor ⊢
          cases b with
          | true =>
            simp -implicitDefEqProofs (maxSteps := 2000000) (disch := first|assumption|omega|rfl|(simp only[RD];done)|(simp only[RD];omega)) only [RN,Int.reduceBEq,Int.reduceBNe,Int.reduceLT,Int.reduceLE,Int.reduceAdd,Int.reduceSub,Int.reduceMul,Nat.reduceAdd,↓bc_flatz,↓bc_flat16,↓agg_bytez]
            have := fin true s17 k17 hor
            try simp -implicitDefEqProofs (maxSteps := 2000000) (disch := first|assumption|omega|rfl|(simp only[RD];done)|(simp only[RD];omega)) only [RN,Int.reduceBEq,Int.reduceBNe,Int.reduceLT,Int.reduceLE,Int.reduceAdd,Int.reduceSub,Int.reduceMul,Nat.reduceAdd,↓bc_flatz,↓bc_flat16,↓agg_bytez] at this
            exact this
          | false =>
            simp -implicitDefEqProofs (maxSteps := 2000000) (disch := first|assumption|omega|rfl|(simp only[RD];done)|(simp only[RD];omega)) only [RN,Int.reduceBEq,Int.reduceBNe,Int.reduceLT,Int.reduceLE,Int.reduceAdd,Int.reduceSub,Int.reduceMul,Nat.reduceAdd,↓bc_flatz,↓bc_flat16,↓agg_bytez]
            have := fin false s17 k17 hor
            try simp -implicitDefEqProofs (maxSteps := 2000000) (disch := first|assumption|omega|rfl|(simp only[RD];done)|(simp only[RD];omega)) only [RN,Int.reduceBEq,Int.reduceBNe,Int.reduceLT,Int.reduceLE,Int.reduceAdd,Int.reduceSub,Int.reduceMul,Nat.reduceAdd,↓bc_flatz,↓bc_flat16,↓agg_bytez] at this
            exact this
        · simp -implicitDefEqProofs (maxSteps := 2000000) (disch := first|assumption|omega|rfl|(simp only[RD];done)|(simp only[RD];omega)) only [RN,Int.reduceBEq,Int.reduceBNe,Int.reduceLT,Int.reduceLE,Int.reduceAdd,Int.reduceSub,Int.reduceMul,Nat.reduceAdd,↓bc_flatz,↓bc_flat16,↓agg_bytez, eq1, p5_1, decide_eq_false h2, y16, rp, w1]
          have hor : false = true ∨ b3 = true ∨ R.held = doneF g f := by
            rcases hcut with h | h | h
            · exact absurd h.1 (by omega)
            · exact .inr (.inl (by rw [hb3, h]; exact decide_eq_true rfl))
            · exact .inr (.inr h)
          have := fin false s16 (Keeps.refl _) hor
          try simp -implicitDefEqProofs (maxSteps := 2000000) (disch := first|assumption|omega|rfl|(simp only[RD];done)|(simp only[RD];omega)) only [RN,Int.reduceBEq,Int.reduceBNe,Int.reduceLT,Int.reduceLE,Int.reduceAdd,Int.reduceSub,Int.reduceMul,Nat.reduceAdd,↓bc_flatz,↓bc_flat16,↓agg_bytez, y16, rp] at this
          exact this
      rcases hc2 with rfl | rfl
      · simp -implicitDefEqProofs (maxSteps := 2000000) (disch := first|assumption|omega|rfl|(simp only[RD];done)|(simp only[RD];omega)) only [RN,Int.reduceBEq,Int.reduceBNe,Int.reduceLT,Int.reduceLE,Int.reduceAdd,Int.reduceSub,Int.reduceMul,Nat.reduceAdd,↓bc_flatz,↓bc_flat16,↓agg_bytez, p5_3]
        refine kmade_ hD12 md.C ?_
        rw [hrm]
        simp -implicitDefEqProofs (maxSteps := 2000000) (disch := first|assumption|omega|rfl|(simp only[RD];done)|(simp only[RD];omega)) only [RN,Int.reduceBEq,Int.reduceBNe,Int.reduceLT,Int.reduceLE,Int.reduceAdd,Int.reduceSub,Int.reduceMul,Nat.reduceAdd,↓bc_flatz,↓bc_flat16,↓agg_bytez, ett]
        exact key s12 hD12
      · simp -implicitDefEqProofs (maxSteps := 2000000) (disch := first|assumption|omega|rfl|(simp only[RD];done)|(simp only[RD];omega)) only [RN,Int.reduceBEq,Int.reduceBNe,Int.reduceLT,Int.reduceLE,Int.reduceAdd,Int.reduceSub,Int.reduceMul,Nat.reduceAdd,↓bc_flatz,↓bc_flat16,↓agg_bytez, p5_3]
        refine kmade_ hD12 md.C ?_
        rw [hrm]
        simp -implicitDefEqProofs (maxSteps := 2000000) (disch := first|assumption|omega|rfl|(simp only[RD];done)|(simp only[RD];omega)) only [RN,Int.reduceBEq,Int.reduceBNe,Int.reduceLT,Int.reduceLE,Int.reduceAdd,Int.reduceSub,Int.reduceMul,Nat.reduceAdd,↓bc_flatz,↓bc_flat16,↓agg_bytez, ett]
        exact key s12 hD12
    cases b with
    | true =>
      rw [hb2] at etm
      simp -implicitDefEqProofs (maxSteps := 2000000) (disch := first|assumption|omega|rfl|(simp only[RD];done)|(simp only[RD];omega)) only [RN,Int.reduceBEq,Int.reduceBNe,Int.reduceLT,Int.reduceLE,Int.reduceAdd,Int.reduceSub,Int.reduceMul,Nat.reduceAdd,↓bc_flatz,↓bc_flat16,↓agg_bytez, etm]
      exact rest
    | false =>
      rw [hb2] at etm
      simp -implicitDefEqProofs (maxSteps := 2000000) (disch := first|assumption|omega|rfl|(simp only[RD];done)|(simp only[RD];omega)) only [RN,Int.reduceBEq,Int.reduceBNe,Int.reduceLT,Int.reduceLE,Int.reduceAdd,Int.reduceSub,Int.reduceMul,Nat.reduceAdd,↓bc_flatz,↓bc_flat16,↓agg_bytez, etm]
      exact rest
  rcases hcode.2 with h | h
  · have hb : decide (t = M) = true := by rw [← hcode.1, h]; rfl
    rw [h]
    try simp -implicitDefEqProofs (maxSteps := 2000000) (disch := first|assumption|omega|rfl|(simp only[RD];done)|(simp only[RD];omega)) only [RN,Int.reduceBEq,Int.reduceBNe,Int.reduceLT,Int.reduceLE,Int.reduceAdd,Int.reduceSub,Int.reduceMul,Nat.reduceAdd,↓bc_flatz,↓bc_flat16,↓agg_bytez]
    have := go 0 (.inl rfl) true hb
    try simp -implicitDefEqProofs (maxSteps := 2000000) (disch := first|assumption|omega|rfl|(simp only[RD];done)|(simp only[RD];omega)) only [RN,Int.reduceBEq,Int.reduceBNe,Int.reduceLT,Int.reduceLE,Int.reduceAdd,Int.reduceSub,Int.reduceMul,Nat.reduceAdd,↓bc_flatz,↓bc_flat16,↓agg_bytez] at this
    exact this
  · have hb : decide (t = M) = false := by rw [← hcode.1, h]; rfl
    rw [h]
    try simp -implicitDefEqProofs (maxSteps := 2000000) (disch := first|assumption|omega|rfl|(simp only[RD];done)|(simp only[RD];omega)) only [RN,Int.reduceBEq,Int.reduceBNe,Int.reduceLT,Int.reduceLE,Int.reduceAdd,Int.reduceSub,Int.reduceMul,Nat.reduceAdd,↓bc_flatz,↓bc_flat16,↓agg_bytez]
    have := go 3 (.inr rfl) false hb
    try simp -implicitDefEqProofs (maxSteps := 2000000) (disch := first|assumption|omega|rfl|(simp only[RD];done)|(simp only[RD];omega)) only [RN,Int.reduceBEq,Int.reduceBNe,Int.reduceLT,Int.reduceLE,Int.reduceAdd,Int.reduceSub,Int.reduceMul,Nat.reduceAdd,↓bc_flatz,↓bc_flat16,↓agg_bytez] at this
    exact this
end Go.Proofs.Ytchfpepbdnjhmaa
