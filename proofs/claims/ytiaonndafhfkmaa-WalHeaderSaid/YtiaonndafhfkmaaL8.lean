/- Contracts of what the statements of chapter 08 lean on. -/
import Derived.Test.YtiaonndafhfkmaaWal6
set_option linter.all false
set_option maxRecDepth 100000
set_option maxHeartbeats 400000
namespace Go.Proofs.Ytiaonndafhfkmaa
open Go.Am
variable {σ : Store} {Q : Value → Store → Prop} {g : Geo}
theorem rof_ {g : Geo} (hq : Q (.tuple #[.agg ⟨ic g.of⟩, .int .i64 g.err]) σ) : Does Try.prog 19 [.agg ⟨ic g.cells⟩] σ Q := by
  refine Does.pureT (r := .tuple #[.agg ⟨ic g.of⟩, .int .i64 g.err]) ?_ (by simp [closedT, closed, ic, scalar]) hq
  refine d19 ?_
  have bad : ¬ g.ok → ic g.of = ic [0, 0, 0, 0, 0, 0, 0, 0, 0] ∧ g.err = 2 := fun h => by
    unfold Geo.of Geo.err
    rw [if_neg h, if_neg h]; exact ⟨rfl, rfl⟩
  simp only [Geo.cells, ic_cons, ic_nil]
  have u9 : unrle [(9, .int .i64 0)] = [.int .i64 0, .int .i64 0, .int .i64 0, .int .i64 0, .int .i64 0, .int .i64 0, .int .i64 0, .int .i64 0, .int .i64 0] := rfl
  have u3 : unrle [(3, .int .i64 0)] = [.int .i64 0, .int .i64 0, .int .i64 0] := rfl
  have fin : ∀ s, ¬ g.ok → Keeps σ s → Value.tuple #[.agg ⟨[.int .i64 0, .int .i64 0, .int .i64 0, .int .i64 0, .int .i64 0, .int .i64 0, .int .i64 0, .int .i64 0, .int .i64 0]⟩, .int .i64 2] = .tuple #[.agg ⟨ic g.of⟩, .int .i64 g.err] ∧ Keeps σ s := fun s h hk => by
    rw [(bad h).1, (bad h).2]; exact ⟨rfl, hk⟩
  by_cases h0 : g.log < 32
  · (simp -implicitDefEqProofs (maxSteps := 2000000) (disch := first|assumption|omega|rfl|(simp only[RD];done)|(simp only[RD];omega)) only [RN,Int.reduceBEq,Int.reduceBNe,Int.reduceLT,Int.reduceLE,Int.reduceAdd,Int.reduceSub,Int.reduceMul,Nat.reduceAdd,↓bc_flatz,↓bc_flat16,↓agg_bytez, p19,  decide_eq_true h0, u9, u3]; simp -implicitDefEqProofs (maxSteps := 2000000) (disch := first|assumption|omega|rfl|(simp only[RD];done)|(simp only[RD];omega)) only [RN,Int.reduceBEq,Int.reduceBNe,Int.reduceLT,Int.reduceLE,Int.reduceAdd,Int.reduceSub,Int.reduceMul,Nat.reduceAdd,↓bc_flatz,↓bc_flat16,↓agg_bytez, p19_6,  decide_eq_true h0, u9, u3]; simp -implicitDefEqProofs (maxSteps := 2000000) (disch := first|assumption|omega|rfl|(simp only[RD];done)|(simp only[RD];omega)) only [RN,Int.reduceBEq,Int.reduceBNe,Int.reduceLT,Int.reduceLE,Int.reduceAdd,Int.reduceSub,Int.reduceMul,Nat.reduceAdd,↓bc_flatz,↓bc_flat16,↓agg_bytez, p19_5,  decide_eq_true h0, u9, u3])
    exact fin _ (fun h => by unfold Geo.ok at h; omega) (((Keeps.refl σ).push _).push _)
  by_cases h1 : 256 < g.log
  · (simp -implicitDefEqProofs (maxSteps := 2000000) (disch := first|assumption|omega|rfl|(simp only[RD];done)|(simp only[RD];omega)) only [RN,Int.reduceBEq,Int.reduceBNe,Int.reduceLT,Int.reduceLE,Int.reduceAdd,Int.reduceSub,Int.reduceMul,Nat.reduceAdd,↓bc_flatz,↓bc_flat16,↓agg_bytez, p19,  decide_eq_false h0, decide_eq_true h1, u9, u3]; simp -implicitDefEqProofs (maxSteps := 2000000) (disch := first|assumption|omega|rfl|(simp only[RD];done)|(simp only[RD];omega)) only [RN,Int.reduceBEq,Int.reduceBNe,Int.reduceLT,Int.reduceLE,Int.reduceAdd,Int.reduceSub,Int.reduceMul,Nat.reduceAdd,↓bc_flatz,↓bc_flat16,↓agg_bytez, p19_6,  decide_eq_false h0, decide_eq_true h1, u9, u3]; simp -implicitDefEqProofs (maxSteps := 2000000) (disch := first|assumption|omega|rfl|(simp only[RD];done)|(simp only[RD];omega)) only [RN,Int.reduceBEq,Int.reduceBNe,Int.reduceLT,Int.reduceLE,Int.reduceAdd,Int.reduceSub,Int.reduceMul,Nat.reduceAdd,↓bc_flatz,↓bc_flat16,↓agg_bytez, p19_5,  decide_eq_false h0, decide_eq_true h1, u9, u3])
    exact fin _ (fun h => by unfold Geo.ok at h; omega) (((Keeps.refl σ).push _).push _)
  by_cases h2 : g.inodes < 1
  · (simp -implicitDefEqProofs (maxSteps := 2000000) (disch := first|assumption|omega|rfl|(simp only[RD];done)|(simp only[RD];omega)) only [RN,Int.reduceBEq,Int.reduceBNe,Int.reduceLT,Int.reduceLE,Int.reduceAdd,Int.reduceSub,Int.reduceMul,Nat.reduceAdd,↓bc_flatz,↓bc_flat16,↓agg_bytez, p19,  decide_eq_false h0, decide_eq_false h1, decide_eq_true h2, u9, u3]; simp -implicitDefEqProofs (maxSteps := 2000000) (disch := first|assumption|omega|rfl|(simp only[RD];done)|(simp only[RD];omega)) only [RN,Int.reduceBEq,Int.reduceBNe,Int.reduceLT,Int.reduceLE,Int.reduceAdd,Int.reduceSub,Int.reduceMul,Nat.reduceAdd,↓bc_flatz,↓bc_flat16,↓agg_bytez, p19_6,  decide_eq_false h0, decide_eq_false h1, decide_eq_true h2, u9, u3]; simp -implicitDefEqProofs (maxSteps := 2000000) (disch := first|assumption|omega|rfl|(simp only[RD];done)|(simp only[RD];omega)) only [RN,Int.reduceBEq,Int.reduceBNe,Int.reduceLT,Int.reduceLE,Int.reduceAdd,Int.reduceSub,Int.reduceMul,Nat.reduceAdd,↓bc_flatz,↓bc_flat16,↓agg_bytez, p19_5,  decide_eq_false h0, decide_eq_false h1, decide_eq_true h2, u9, u3])
    exact fin _ (fun h => by unfold Geo.ok at h; omega) (((Keeps.refl σ).push _).push _)
  by_cases h3 : 65535 < g.inodes
  · (simp -implicitDefEqProofs (maxSteps := 2000000) (disch := first|assumption|omega|rfl|(simp only[RD];done)|(simp only[RD];omega)) only [RN,Int.reduceBEq,Int.reduceBNe,Int.reduceLT,Int.reduceLE,Int.reduceAdd,Int.reduceSub,Int.reduceMul,Nat.reduceAdd,↓bc_flatz,↓bc_flat16,↓agg_bytez, p19,  decide_eq_false h0, decide_eq_false h1, decide_eq_false h2, decide_eq_true h3, u9, u3]; simp -implicitDefEqProofs (maxSteps := 2000000) (disch := first|assumption|omega|rfl|(simp only[RD];done)|(simp only[RD];omega)) only [RN,Int.reduceBEq,Int.reduceBNe,Int.reduceLT,Int.reduceLE,Int.reduceAdd,Int.reduceSub,Int.reduceMul,Nat.reduceAdd,↓bc_flatz,↓bc_flat16,↓agg_bytez, p19_6,  decide_eq_false h0, decide_eq_false h1, decide_eq_false h2, decide_eq_true h3, u9, u3]; simp -implicitDefEqProofs (maxSteps := 2000000) (disch := first|assumption|omega|rfl|(simp only[RD];done)|(simp only[RD];omega)) only [RN,Int.reduceBEq,Int.reduceBNe,Int.reduceLT,Int.reduceLE,Int.reduceAdd,Int.reduceSub,Int.reduceMul,Nat.reduceAdd,↓bc_flatz,↓bc_flat16,↓agg_bytez, p19_5,  decide_eq_false h0, decide_eq_false h1, decide_eq_false h2, decide_eq_true h3, u9, u3])
    exact fin _ (fun h => by unfold Geo.ok at h; omega) (((Keeps.refl σ).push _).push _)
  by_cases h5 : 1048576 < g.blocks
  · (simp -implicitDefEqProofs (maxSteps := 2000000) (disch := first|assumption|omega|rfl|(simp only[RD];done)|(simp only[RD];omega)) only [RN,Int.reduceBEq,Int.reduceBNe,Int.reduceLT,Int.reduceLE,Int.reduceAdd,Int.reduceSub,Int.reduceMul,Nat.reduceAdd,↓bc_flatz,↓bc_flat16,↓agg_bytez, p19,  decide_eq_false h0, decide_eq_false h1, decide_eq_false h2, decide_eq_false h3, decide_eq_true h5, u9, u3]; simp -implicitDefEqProofs (maxSteps := 2000000) (disch := first|assumption|omega|rfl|(simp only[RD];done)|(simp only[RD];omega)) only [RN,Int.reduceBEq,Int.reduceBNe,Int.reduceLT,Int.reduceLE,Int.reduceAdd,Int.reduceSub,Int.reduceMul,Nat.reduceAdd,↓bc_flatz,↓bc_flat16,↓agg_bytez, p19_6,  decide_eq_false h0, decide_eq_false h1, decide_eq_false h2, decide_eq_false h3, decide_eq_true h5, u9, u3]; simp -implicitDefEqProofs (maxSteps := 2000000) (disch := first|assumption|omega|rfl|(simp only[RD];done)|(simp only[RD];omega)) only [RN,Int.reduceBEq,Int.reduceBNe,Int.reduceLT,Int.reduceLE,Int.reduceAdd,Int.reduceSub,Int.reduceMul,Nat.reduceAdd,↓bc_flatz,↓bc_flat16,↓agg_bytez, p19_5,  decide_eq_false h0, decide_eq_false h1, decide_eq_false h2, decide_eq_false h3, decide_eq_true h5, u9, u3])
    exact fin _ (fun h => by unfold Geo.ok at h; omega) (((Keeps.refl σ).push _).push _)
  by_cases h4 : g.blocks < 1
  · (simp -implicitDefEqProofs (maxSteps := 2000000) (disch := first|assumption|omega|rfl|(simp only[RD];done)|(simp only[RD];omega)) only [RN,Int.reduceBEq,Int.reduceBNe,Int.reduceLT,Int.reduceLE,Int.reduceAdd,Int.reduceSub,Int.reduceMul,Nat.reduceAdd,↓bc_flatz,↓bc_flat16,↓agg_bytez, p19,  decide_eq_false h0, decide_eq_false h1, decide_eq_false h2, decide_eq_false h3, decide_eq_true h4, decide_eq_false h5, u9, u3]; simp -implicitDefEqProofs (maxSteps := 2000000) (disch := first|assumption|omega|rfl|(simp only[RD];done)|(simp only[RD];omega)) only [RN,Int.reduceBEq,Int.reduceBNe,Int.reduceLT,Int.reduceLE,Int.reduceAdd,Int.reduceSub,Int.reduceMul,Nat.reduceAdd,↓bc_flatz,↓bc_flat16,↓agg_bytez, p19_6,  decide_eq_false h0, decide_eq_false h1, decide_eq_false h2, decide_eq_false h3, decide_eq_true h4, decide_eq_false h5, u9, u3]; simp -implicitDefEqProofs (maxSteps := 2000000) (disch := first|assumption|omega|rfl|(simp only[RD];done)|(simp only[RD];omega)) only [RN,Int.reduceBEq,Int.reduceBNe,Int.reduceLT,Int.reduceLE,Int.reduceAdd,Int.reduceSub,Int.reduceMul,Nat.reduceAdd,↓bc_flatz,↓bc_flat16,↓agg_bytez, p19_5,  decide_eq_false h0, decide_eq_false h1, decide_eq_false h2, decide_eq_false h3, decide_eq_true h4, decide_eq_false h5, u9, u3])
    exact fin _ (fun h => by unfold Geo.ok at h; omega) (((Keeps.refl σ).push _).push _)
  have r1 : 0 ≤ g.nodeBlocks ∧ g.nodeBlocks ≤ 5000 := by unfold Geo.nodeBlocks; omega
  have r2 : 0 ≤ g.bitsBlocks ∧ g.bitsBlocks ≤ 200 := by unfold Geo.bitsBlocks; omega
  have q1 : ∀ i : Nat, 16 * (i : Int) < g.inodes + 1 ↔ (i : Int) < g.nodeBlocks := fun i => by unfold Geo.nodeBlocks; omega
  have q2 : ∀ i : Nat, 8192 * (i : Int) < g.blocks ↔ (i : Int) < g.bitsBlocks := fun i => by unfold Geo.bitsBlocks; omega
  obtain ⟨b0, hb0⟩ : ∃ b0, b0 = (σ.push (.cells [.int .i64 g.blocks, .int .i64 g.log, .int .i64 g.inodes] none)).push (.cells [.int .i64 0, .int .i64 0, .int .i64 0, .int .i64 0, .int .i64 0, .int .i64 0, .int .i64 0, .int .i64 0, .int .i64 0] none) := ⟨_, rfl⟩
  have kb : Keeps σ b0 := by rw [hb0]; exact ((Keeps.refl σ).push _).push _
  have nb : b0.next = σ.next + 2 := by rw [hb0]; simp only [Store.next_push]
  have c0 : b0.get σ.next = some (.cells [.int .i64 g.blocks, .int .i64 g.log, .int .i64 g.inodes] none) := by rw [hb0]; simp -implicitDefEqProofs (maxSteps := 2000000) (disch := first|assumption|omega|rfl|(simp only[RD];done)|(simp only[RD];omega)) only [RN,Int.reduceBEq,Int.reduceBNe,Int.reduceLT,Int.reduceLE,Int.reduceAdd,Int.reduceSub,Int.reduceMul,Nat.reduceAdd,↓bc_flatz,↓bc_flat16,↓agg_bytez]
  have c1 : b0.get (σ.next + 1) = some (.cells [.int .i64 0, .int .i64 0, .int .i64 0, .int .i64 0, .int .i64 0, .int .i64 0, .int .i64 0, .int .i64 0, .int .i64 0] none) := by rw [hb0]; simp -implicitDefEqProofs (maxSteps := 2000000) (disch := first|assumption|omega|rfl|(simp only[RD];done)|(simp only[RD];omega)) only [RN,Int.reduceBEq,Int.reduceBNe,Int.reduceLT,Int.reduceLE,Int.reduceAdd,Int.reduceSub,Int.reduceMul,Nat.reduceAdd,↓bc_flatz,↓bc_flat16,↓agg_bytez]
  simp -implicitDefEqProofs (maxSteps := 2000000) (disch := first|assumption|omega|rfl|(simp only[RD];done)|(simp only[RD];omega)) only [RN,Int.reduceBEq,Int.reduceBNe,Int.reduceLT,Int.reduceLE,Int.reduceAdd,Int.reduceSub,Int.reduceMul,Nat.reduceAdd,↓bc_flatz,↓bc_flat16,↓agg_bytez, p19, u9, decide_eq_false h0, decide_eq_false h1]
  simp -implicitDefEqProofs (maxSteps := 2000000) (disch := first|assumption|omega|rfl|(simp only[RD];done)|(simp only[RD];omega)) only [RN,Int.reduceBEq,Int.reduceBNe,Int.reduceLT,Int.reduceLE,Int.reduceAdd,Int.reduceSub,Int.reduceMul,Nat.reduceAdd,↓bc_flatz,↓bc_flat16,↓agg_bytez, p19_6, decide_eq_false h2, decide_eq_false h3, decide_eq_false h4, decide_eq_false h5]
  rw [← hb0]
  clear hb0
  simp -implicitDefEqProofs (maxSteps := 2000000) (disch := first|assumption|omega|rfl|(simp only[RD];done)|(simp only[RD];omega)) only [RN,Int.reduceBEq,Int.reduceBNe,Int.reduceLT,Int.reduceLE,Int.reduceAdd,Int.reduceSub,Int.reduceMul,Nat.reduceAdd,↓bc_flatz,↓bc_flat16,↓agg_bytez, p19_5, c0, u9, u3]
  refine lop0 (fun k st => ∃ i : Nat, (k + i : Int) = g.nodeBlocks ∧ st = b0.push (.cells [.int .i64 g.blocks, .int .i64 g.log, .int .i64 g.inodes, .int .i64 1, .int .i64 (1 + g.log), .int .i64 i, .int .i64 0, .int .i64 0, .int .i64 0] none)) g.nodeBlocks.toNat ⟨0, by omega, rfl⟩ ?_
  rintro k st next ⟨i, hi, rfl⟩ hnx
  by_cases h6 : 16 * (i : Int) < g.inodes + 1
  · have := (q1 i).1 h6
    simp -implicitDefEqProofs (maxSteps := 2000000) (disch := first|assumption|omega|rfl|(simp only[RD];done)|(simp only[RD];omega)) only [RN,Int.reduceBEq,Int.reduceBNe,Int.reduceLT,Int.reduceLE,Int.reduceAdd,Int.reduceSub,Int.reduceMul,Nat.reduceAdd,↓bc_flatz,↓bc_flat16,↓agg_bytez, p19_4, c0, decide_eq_true h6]
    exact hnx _ (by omega) ⟨i + 1, by omega, rfl⟩
  · have hin : (i : Int) = g.nodeBlocks := by have hnn : ¬ (i : Int) < g.nodeBlocks := fun h => h6 ((q1 i).2 h)
                                              omega
    simp -implicitDefEqProofs (maxSteps := 2000000) (disch := first|assumption|omega|rfl|(simp only[RD];done)|(simp only[RD];omega)) only [RN,Int.reduceBEq,Int.reduceBNe,Int.reduceLT,Int.reduceLE,Int.reduceAdd,Int.reduceSub,Int.reduceMul,Nat.reduceAdd,↓bc_flatz,↓bc_flat16,↓agg_bytez, p19_4, c0, decide_eq_false h6, p19_3]
    rw [hin]
    have e1 : 1 + g.log + g.nodeBlocks = g.bitsAt := rfl
    rw [e1]
    refine lop0 (fun k st => ∃ i : Nat, (k + i : Int) = g.bitsBlocks ∧ st = b0.push (.cells [.int .i64 g.blocks, .int .i64 g.log, .int .i64 g.inodes, .int .i64 1, .int .i64 (1 + g.log), .int .i64 g.nodeBlocks, .int .i64 g.bitsAt, .int .i64 i, .int .i64 0] none)) g.bitsBlocks.toNat ⟨0, by omega, rfl⟩ ?_
    rintro k st next ⟨j, hj, rfl⟩ hnx
    by_cases h7 : 8192 * (j : Int) < g.blocks
    · have := (q2 j).1 h7
      simp -implicitDefEqProofs (maxSteps := 2000000) (disch := first|assumption|omega|rfl|(simp only[RD];done)|(simp only[RD];omega)) only [RN,Int.reduceBEq,Int.reduceBNe,Int.reduceLT,Int.reduceLE,Int.reduceAdd,Int.reduceSub,Int.reduceMul,Nat.reduceAdd,↓bc_flatz,↓bc_flat16,↓agg_bytez, p19_2, c0, decide_eq_true h7]
      exact hnx _ (by omega) ⟨j + 1, by omega, rfl⟩
    · have hjn : (j : Int) = g.bitsBlocks := by have hnn : ¬ (j : Int) < g.bitsBlocks := fun h => h7 ((q2 j).2 h)
                                                omega
      have r3 : g.bitsAt = 1 + g.log + g.nodeBlocks := rfl
      have e2 : g.bitsAt + (j : Int) = g.dataAt := by rw [hjn]; rfl
      by_cases h8 : g.blocks ≤ g.dataAt
      · simp -implicitDefEqProofs (maxSteps := 2000000) (disch := first|assumption|omega|rfl|(simp only[RD];done)|(simp only[RD];omega)) only [RN,Int.reduceBEq,Int.reduceBNe,Int.reduceLT,Int.reduceLE,Int.reduceAdd,Int.reduceSub,Int.reduceMul,Nat.reduceAdd,↓bc_flatz,↓bc_flat16,↓agg_bytez, p19_2, c0, decide_eq_false h7, e2, p19_1, decide_eq_true h8, u3, c1]
        refine fin _ (fun h => by unfold Geo.ok at h; omega) ?_
        exact (kb.put _ (by omega)).push _
      · simp -implicitDefEqProofs (maxSteps := 2000000) (disch := first|assumption|omega|rfl|(simp only[RD];done)|(simp only[RD];omega)) only [RN,Int.reduceBEq,Int.reduceBNe,Int.reduceLT,Int.reduceLE,Int.reduceAdd,Int.reduceSub,Int.reduceMul,Nat.reduceAdd,↓bc_flatz,↓bc_flat16,↓agg_bytez, p19_2, c0, decide_eq_false h7, e2, p19_1, decide_eq_false h8, u3, c1]
        have hok : g.ok := by unfold Geo.ok; omega
        unfold Geo.of Geo.err
        rw [if_pos hok, if_pos hok, hjn]
        exact ⟨rfl, (kb.put _ (by omega)).push _⟩
/-- The block of a byte. -/
def blk (v : Int) : List Int := (zb.set 0 v).set 1023 (v.tdiv 2)
theorem blk_len (v : Int) : (blk v).length = 1024 := by simp [blk, zb_len]
theorem block_ {v : Int} (h0 : 0 ≤ v) (h1 : v < 256) (hq : Q (.agg ⟨bc (blk v)⟩) σ) : Does Try.prog 11 [.int .u8 v] σ Q := by
  refine Does.pureT (r := .agg ⟨bc (blk v)⟩) ?_ (by simp only [closedT, closed]; exact bc_scalar _) hq
  refine d11 ?_
  have hw : IntKind.u8.wrap (v.tdiv 2) = v.tdiv 2 := by rw [u8_wrap, Int.tdiv_eq_ediv_of_nonneg h0]; omega
  have t0 : (0 : Int).toNat = 0 := rfl
  have t1 : (1023 : Int).toNat = 1023 := rfl
  have hl := blk_len v
  unfold blk at hl
  have hl1 : (zb.set 0 v).length = 1024 := by simp [zb_len]
  simp -implicitDefEqProofs (maxSteps := 2000000) (disch := first|assumption|omega|rfl|(simp only[RD];done)|(simp only[RD];omega)) only [RN,Int.reduceBEq,Int.reduceBNe,Int.reduceLT,Int.reduceLE,Int.reduceAdd,Int.reduceSub,Int.reduceMul,Nat.reduceAdd,↓bc_flatz,↓bc_flat16,↓agg_bytez, p11, t0, t1, Nat.mul_one, bc_set, hw, hl, hl1]
  exact ⟨rfl, ((Keeps.refl σ).push _).push _⟩
end Go.Proofs.Ytiaonndafhfkmaa
