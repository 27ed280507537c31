/- WalNames: the examples of chapter 08. -/
import Derived.Test.YtlogocelkpmkbaaNm1
set_option linter.all false
set_option maxRecDepth 100000
set_option maxHeartbeats 1000000
namespace Go.Proofs.Ytlogocelkpmkbaa
open Go.Am
variable {σ : Store} {Q : Value → Store → Prop}
theorem walnames_ (hq : ∀ st, Q (.bool true) st) : Does Try.prog 5 [] σ Q := by
  refine d5 ?_
  have x0 : ∀ a b c e, extractV (.tuple #[a, b, c, e]) 0 = some a := fun _ _ _ _ => rfl
  have x1 : ∀ a b c e, extractV (.tuple #[a, b, c, e]) 1 = some b := fun _ _ _ _ => rfl
  have x2 : ∀ a b c e, extractV (.tuple #[a, b, c, e]) 2 = some c := fun _ _ _ _ => rfl
  have x3 : ∀ a b c e, extractV (.tuple #[a, b, c, e]) 3 = some e := fun _ _ _ _ => rfl
  have l9 : (ic g4.lay).length = 9 := rfl
  have u9 : (unrle [(9, .int .i64 0)]).length = 9 := rfl
  simp -implicitDefEqProofs (maxSteps := 2000000) (disch := first|assumption|omega|rfl|(simp only[RD];done)|(simp only[RD];omega)) only [RN,Int.reduceBEq,Int.reduceBNe,Int.reduceLT,Int.reduceLE,Int.reduceAdd,Int.reduceSub,Int.reduceMul,Nat.reduceAdd,↓bc_flatz,↓bc_flat16,↓agg_bytez, p5]
  refine fresh_ (g := g4) g4_ok fun s1 d l F G L1 D1 A1 U1 => ?_
  simp -implicitDefEqProofs (maxSteps := 2000000) (disch := first|assumption|omega|rfl|(simp only[RD];done)|(simp only[RD];omega)) only [RN,Int.reduceBEq,Int.reduceBNe,Int.reduceLT,Int.reduceLE,Int.reduceAdd,Int.reduceSub,Int.reduceMul,Nat.reduceAdd,↓bc_flatz,↓bc_flat16,↓agg_bytez, x0, x1, x2, x3, p5_16, u9, l9]
  obtain ⟨s2, hs2⟩ : ∃ s2, s2 = s1.push (.cells (ic g4.lay) none) := ⟨_, rfl⟩
  have k2 : Keeps s1 s2 := by rw [hs2]; exact (Keeps.refl _).push _
  have c2 : s2.get s1.next = some (.cells (ic g4.lay) none) := by rw [hs2]; exact Store.get_push_same _ _
  rw [← hs2]
  refine lives_ fun s3 k3 => ?_
  have h : NS l d s1.next (.cells (ic g4.lay) none) (WS.new g4 1) (fresh0 g4) 2 s3 := by
    have k := k2.trans k3
    refine ⟨F, G, L1.same k.1 fun j hj => k.2 j (L1.lt j hj), D1.later k, A1, fresh0_C g4_ok, rfl, k3.get c2, fun hx => ?_⟩
    rcases List.mem_append.1 hx with hx | hx
    · exact absurd (L1.lt _ hx) (Nat.lt_irrefl _)
    · exact absurd (D1.lt _ hx) (Nat.lt_irrefl _)
  try simp -implicitDefEqProofs (maxSteps := 2000000) (disch := first|assumption|omega|rfl|(simp only[RD];done)|(simp only[RD];omega)) only [RN,Int.reduceBEq,Int.reduceBNe,Int.reduceLT,Int.reduceLE,Int.reduceAdd,Int.reduceSub,Int.reduceMul,Nat.reduceAdd,↓bc_flatz,↓bc_flat16,↓agg_bytez, p5_16, p5_15, p5_14, p5_13, p5_12, p5_11, p5_10, p5_9, p5_8, p5_7, p5_6, p5_5, p5_4, p5_3, p5_2, p5_1]
  refine ns_begin h (by decide) rfl (r := 23) (by decide) (by decide) (by decide) fun st h => ?_
  replace h : NS l d s1.next (.cells (ic g4.lay) none) n1 (fresh0 g4) 2 st := h
  try simp -implicitDefEqProofs (maxSteps := 2000000) (disch := first|assumption|omega|rfl|(simp only[RD];done)|(simp only[RD];omega)) only [RN,Int.reduceBEq,Int.reduceBNe,Int.reduceLT,Int.reduceLE,Int.reduceAdd,Int.reduceSub,Int.reduceMul,Nat.reduceAdd,↓bc_flatz,↓bc_flat16,↓agg_bytez, p5_16, p5_15, p5_14, p5_13, p5_12, p5_11, p5_10, p5_9, p5_8, p5_7, p5_6, p5_5, p5_4, p5_3, p5_2, p5_1]
  refine block_ (v := 1) (by decide) (by decide) ?_
  try simp -implicitDefEqProofs (maxSteps := 2000000) (disch := first|assumption|omega|rfl|(simp only[RD];done)|(simp only[RD];omega)) only [RN,Int.reduceBEq,Int.reduceBNe,Int.reduceLT,Int.reduceLE,Int.reduceAdd,Int.reduceSub,Int.reduceMul,Nat.reduceAdd,↓bc_flatz,↓bc_flat16,↓agg_bytez, p5_16, p5_15, p5_14, p5_13, p5_12, p5_11, p5_10, p5_9, p5_8, p5_7, p5_6, p5_5, p5_4, p5_3, p5_2, p5_1]
  refine ns_write h (blk_len 1) (x := 40) fun st h => ?_
  rw [n1_w]
  replace h : NS l d s1.next (.cells (ic g4.lay) none) n2 (fresh0 g4) 2 st := h
  try simp -implicitDefEqProofs (maxSteps := 2000000) (disch := first|assumption|omega|rfl|(simp only[RD];done)|(simp only[RD];omega)) only [RN,Int.reduceBEq,Int.reduceBNe,Int.reduceLT,Int.reduceLE,Int.reduceAdd,Int.reduceSub,Int.reduceMul,Nat.reduceAdd,↓bc_flatz,↓bc_flat16,↓agg_bytez, p5_16, p5_15, p5_14, p5_13, p5_12, p5_11, p5_10, p5_9, p5_8, p5_7, p5_6, p5_5, p5_4, p5_3, p5_2, p5_1]
  refine block_ (v := 2) (by decide) (by decide) ?_
  try simp -implicitDefEqProofs (maxSteps := 2000000) (disch := first|assumption|omega|rfl|(simp only[RD];done)|(simp only[RD];omega)) only [RN,Int.reduceBEq,Int.reduceBNe,Int.reduceLT,Int.reduceLE,Int.reduceAdd,Int.reduceSub,Int.reduceMul,Nat.reduceAdd,↓bc_flatz,↓bc_flat16,↓agg_bytez, p5_16, p5_15, p5_14, p5_13, p5_12, p5_11, p5_10, p5_9, p5_8, p5_7, p5_6, p5_5, p5_4, p5_3, p5_2, p5_1]
  refine ns_write h (blk_len 2) (x := 41) fun st h => ?_
  rw [n2_w]
  replace h : NS l d s1.next (.cells (ic g4.lay) none) n3 (fresh0 g4) 2 st := h
  try simp -implicitDefEqProofs (maxSteps := 2000000) (disch := first|assumption|omega|rfl|(simp only[RD];done)|(simp only[RD];omega)) only [RN,Int.reduceBEq,Int.reduceBNe,Int.reduceLT,Int.reduceLE,Int.reduceAdd,Int.reduceSub,Int.reduceMul,Nat.reduceAdd,↓bc_flatz,↓bc_flat16,↓agg_bytez, p5_16, p5_15, p5_14, p5_13, p5_12, p5_11, p5_10, p5_9, p5_8, p5_7, p5_6, p5_5, p5_4, p5_3, p5_2, p5_1]
  refine block_ (v := 3) (by decide) (by decide) ?_
  try simp -implicitDefEqProofs (maxSteps := 2000000) (disch := first|assumption|omega|rfl|(simp only[RD];done)|(simp only[RD];omega)) only [RN,Int.reduceBEq,Int.reduceBNe,Int.reduceLT,Int.reduceLE,Int.reduceAdd,Int.reduceSub,Int.reduceMul,Nat.reduceAdd,↓bc_flatz,↓bc_flat16,↓agg_bytez, p5_16, p5_15, p5_14, p5_13, p5_12, p5_11, p5_10, p5_9, p5_8, p5_7, p5_6, p5_5, p5_4, p5_3, p5_2, p5_1]
  refine ns_write h (blk_len 3) (x := 40) fun st h => ?_
  rw [n3_w]
  replace h : NS l d s1.next (.cells (ic g4.lay) none) n4 (fresh0 g4) 2 st := h
  try simp -implicitDefEqProofs (maxSteps := 2000000) (disch := first|assumption|omega|rfl|(simp only[RD];done)|(simp only[RD];omega)) only [RN,Int.reduceBEq,Int.reduceBNe,Int.reduceLT,Int.reduceLE,Int.reduceAdd,Int.reduceSub,Int.reduceMul,Nat.reduceAdd,↓bc_flatz,↓bc_flat16,↓agg_bytez, p5_16, p5_15, p5_14, p5_13, p5_12, p5_11, p5_10, p5_9, p5_8, p5_7, p5_6, p5_5, p5_4, p5_3, p5_2, p5_1]
  refine ns_end h n4_f.1 n4_f.2 fun st h => ?_
  replace h : NS l d s1.next (.cells (ic g4.lay) none) n5 (fresh0 g4) 2 st := h
  try simp -implicitDefEqProofs (maxSteps := 2000000) (disch := first|assumption|omega|rfl|(simp only[RD];done)|(simp only[RD];omega)) only [RN,Int.reduceBEq,Int.reduceBNe,Int.reduceLT,Int.reduceLE,Int.reduceAdd,Int.reduceSub,Int.reduceMul,Nat.reduceAdd,↓bc_flatz,↓bc_flat16,↓agg_bytez, p5_16, p5_15, p5_14, p5_13, p5_12, p5_11, p5_10, p5_9, p5_8, p5_7, p5_6, p5_5, p5_4, p5_3, p5_2, p5_1]
  refine ns_begin h (by decide) n5_f.1 (r := 29) n5_f.2.1 (by decide) n5_f.2.2 fun st h => ?_
  replace h : NS l d s1.next (.cells (ic g4.lay) none) n6 (fresh0 g4) 2 st := h
  try simp -implicitDefEqProofs (maxSteps := 2000000) (disch := first|assumption|omega|rfl|(simp only[RD];done)|(simp only[RD];omega)) only [RN,Int.reduceBEq,Int.reduceBNe,Int.reduceLT,Int.reduceLE,Int.reduceAdd,Int.reduceSub,Int.reduceMul,Nat.reduceAdd,↓bc_flatz,↓bc_flat16,↓agg_bytez, p5_16, p5_15, p5_14, p5_13, p5_12, p5_11, p5_10, p5_9, p5_8, p5_7, p5_6, p5_5, p5_4, p5_3, p5_2, p5_1]
  refine ns_end h n6_f.1 n6_f.2 fun st h => ?_
  replace h : NS l d s1.next (.cells (ic g4.lay) none) n7 (fresh0 g4) 2 st := h
  try simp -implicitDefEqProofs (maxSteps := 2000000) (disch := first|assumption|omega|rfl|(simp only[RD];done)|(simp only[RD];omega)) only [RN,Int.reduceBEq,Int.reduceBNe,Int.reduceLT,Int.reduceLE,Int.reduceAdd,Int.reduceSub,Int.reduceMul,Nat.reduceAdd,↓bc_flatz,↓bc_flat16,↓agg_bytez, p5_16, p5_15, p5_14, p5_13, p5_12, p5_11, p5_10, p5_9, p5_8, p5_7, p5_6, p5_5, p5_4, p5_3, p5_2, p5_1]
  refine ns_made h ?_
  rw [y0_made]
  try simp -implicitDefEqProofs (maxSteps := 2000000) (disch := first|assumption|omega|rfl|(simp only[RD];done)|(simp only[RD];omega)) only [RN,Int.reduceBEq,Int.reduceBNe,Int.reduceLT,Int.reduceLE,Int.reduceAdd,Int.reduceSub,Int.reduceMul,Nat.reduceAdd,↓bc_flatz,↓bc_flat16,↓agg_bytez, p5_16, p5_15, p5_14, p5_13, p5_12, p5_11, p5_10, p5_9, p5_8, p5_7, p5_6, p5_5, p5_4, p5_3, p5_2, p5_1]
  refine ns_beginC h fresh0_live (by decide) n7_f.1 (r := 30) n7_f.2.1 (by decide) n7_f.2.2 fun st h lv => ?_
  replace h : NS l d s1.next (.cells (ic g4.lay) none) n8 y1 602 st := h
  try simp -implicitDefEqProofs (maxSteps := 2000000) (disch := first|assumption|omega|rfl|(simp only[RD];done)|(simp only[RD];omega)) only [RN,Int.reduceBEq,Int.reduceBNe,Int.reduceLT,Int.reduceLE,Int.reduceAdd,Int.reduceSub,Int.reduceMul,Nat.reduceAdd,↓bc_flatz,↓bc_flat16,↓agg_bytez, p5_16, p5_15, p5_14, p5_13, p5_12, p5_11, p5_10, p5_9, p5_8, p5_7, p5_6, p5_5, p5_4, p5_3, p5_2, p5_1]
  refine ns_made h ?_
  rw [y1_made]
  try simp -implicitDefEqProofs (maxSteps := 2000000) (disch := first|assumption|omega|rfl|(simp only[RD];done)|(simp only[RD];omega)) only [RN,Int.reduceBEq,Int.reduceBNe,Int.reduceLT,Int.reduceLE,Int.reduceAdd,Int.reduceSub,Int.reduceMul,Nat.reduceAdd,↓bc_flatz,↓bc_flat16,↓agg_bytez, p5_16, p5_15, p5_14, p5_13, p5_12, p5_11, p5_10, p5_9, p5_8, p5_7, p5_6, p5_5, p5_4, p5_3, p5_2, p5_1]
  refine ns_commits h ?_
  rw [n8_f.2.2]
  try simp -implicitDefEqProofs (maxSteps := 2000000) (disch := first|assumption|omega|rfl|(simp only[RD];done)|(simp only[RD];omega)) only [RN,Int.reduceBEq,Int.reduceBNe,Int.reduceLT,Int.reduceLE,Int.reduceAdd,Int.reduceSub,Int.reduceMul,Nat.reduceAdd,↓bc_flatz,↓bc_flat16,↓agg_bytez, p5_16, p5_15, p5_14, p5_13, p5_12, p5_11, p5_10, p5_9, p5_8, p5_7, p5_6, p5_5, p5_4, p5_3, p5_2, p5_1]
  refine ns_end h n8_f.1 n8_f.2.1 fun st h => ?_
  replace h : NS l d s1.next (.cells (ic g4.lay) none) n9 y1 602 st := h
  try simp -implicitDefEqProofs (maxSteps := 2000000) (disch := first|assumption|omega|rfl|(simp only[RD];done)|(simp only[RD];omega)) only [RN,Int.reduceBEq,Int.reduceBNe,Int.reduceLT,Int.reduceLE,Int.reduceAdd,Int.reduceSub,Int.reduceMul,Nat.reduceAdd,↓bc_flatz,↓bc_flat16,↓agg_bytez, p5_16, p5_15, p5_14, p5_13, p5_12, p5_11, p5_10, p5_9, p5_8, p5_7, p5_6, p5_5, p5_4, p5_3, p5_2, p5_1]
  refine ns_beginE h (by decide) n9_f.1 (r := 32) n9_f.2.1 (by decide) n9_f.2.2.1 ?_
  try simp -implicitDefEqProofs (maxSteps := 2000000) (disch := first|assumption|omega|rfl|(simp only[RD];done)|(simp only[RD];omega)) only [RN,Int.reduceBEq,Int.reduceBNe,Int.reduceLT,Int.reduceLE,Int.reduceAdd,Int.reduceSub,Int.reduceMul,Nat.reduceAdd,↓bc_flatz,↓bc_flat16,↓agg_bytez, p5_16, p5_15, p5_14, p5_13, p5_12, p5_11, p5_10, p5_9, p5_8, p5_7, p5_6, p5_5, p5_4, p5_3, p5_2, p5_1]
  refine ns_endE h n9_f.1 n9_f.2.2.2 ?_
  try simp -implicitDefEqProofs (maxSteps := 2000000) (disch := first|assumption|omega|rfl|(simp only[RD];done)|(simp only[RD];omega)) only [RN,Int.reduceBEq,Int.reduceBNe,Int.reduceLT,Int.reduceLE,Int.reduceAdd,Int.reduceSub,Int.reduceMul,Nat.reduceAdd,↓bc_flatz,↓bc_flat16,↓agg_bytez, p5_16, p5_15, p5_14, p5_13, p5_12, p5_11, p5_10, p5_9, p5_8, p5_7, p5_6, p5_5, p5_4, p5_3, p5_2, p5_1]
  refine block_ (v := 1) (by decide) (by decide) ?_
  try simp -implicitDefEqProofs (maxSteps := 2000000) (disch := first|assumption|omega|rfl|(simp only[RD];done)|(simp only[RD];omega)) only [RN,Int.reduceBEq,Int.reduceBNe,Int.reduceLT,Int.reduceLE,Int.reduceAdd,Int.reduceSub,Int.reduceMul,Nat.reduceAdd,↓bc_flatz,↓bc_flat16,↓agg_bytez, p5_16, p5_15, p5_14, p5_13, p5_12, p5_11, p5_10, p5_9, p5_8, p5_7, p5_6, p5_5, p5_4, p5_3, p5_2, p5_1]
  refine ns_write h (blk_len 1) (x := 40) fun st h => ?_
  rw [n9_w]
  replace h : NS l d s1.next (.cells (ic g4.lay) none) n10 y1 602 st := h
  try simp -implicitDefEqProofs (maxSteps := 2000000) (disch := first|assumption|omega|rfl|(simp only[RD];done)|(simp only[RD];omega)) only [RN,Int.reduceBEq,Int.reduceBNe,Int.reduceLT,Int.reduceLE,Int.reduceAdd,Int.reduceSub,Int.reduceMul,Nat.reduceAdd,↓bc_flatz,↓bc_flat16,↓agg_bytez, p5_16, p5_15, p5_14, p5_13, p5_12, p5_11, p5_10, p5_9, p5_8, p5_7, p5_6, p5_5, p5_4, p5_3, p5_2, p5_1]
  refine ns_begin h (by decide) n10_f.1 (r := 9) n10_f.2.1 (by decide) n10_f.2.2 fun st h => ?_
  replace h : NS l d s1.next (.cells (ic g4.lay) none) n11 y1 602 st := h
  try simp -implicitDefEqProofs (maxSteps := 2000000) (disch := first|assumption|omega|rfl|(simp only[RD];done)|(simp only[RD];omega)) only [RN,Int.reduceBEq,Int.reduceBNe,Int.reduceLT,Int.reduceLE,Int.reduceAdd,Int.reduceSub,Int.reduceMul,Nat.reduceAdd,↓bc_flatz,↓bc_flat16,↓agg_bytez, p5_16, p5_15, p5_14, p5_13, p5_12, p5_11, p5_10, p5_9, p5_8, p5_7, p5_6, p5_5, p5_4, p5_3, p5_2, p5_1]
  refine block_ (v := 1) (by decide) (by decide) ?_
  try simp -implicitDefEqProofs (maxSteps := 2000000) (disch := first|assumption|omega|rfl|(simp only[RD];done)|(simp only[RD];omega)) only [RN,Int.reduceBEq,Int.reduceBNe,Int.reduceLT,Int.reduceLE,Int.reduceAdd,Int.reduceSub,Int.reduceMul,Nat.reduceAdd,↓bc_flatz,↓bc_flat16,↓agg_bytez, p5_16, p5_15, p5_14, p5_13, p5_12, p5_11, p5_10, p5_9, p5_8, p5_7, p5_6, p5_5, p5_4, p5_3, p5_2, p5_1]
  refine ns_write h (blk_len 1) (x := 0) fun st h => ?_
  rw [n11_w]
  replace h : NS l d s1.next (.cells (ic g4.lay) none) n12 y1 602 st := h
  try simp -implicitDefEqProofs (maxSteps := 2000000) (disch := first|assumption|omega|rfl|(simp only[RD];done)|(simp only[RD];omega)) only [RN,Int.reduceBEq,Int.reduceBNe,Int.reduceLT,Int.reduceLE,Int.reduceAdd,Int.reduceSub,Int.reduceMul,Nat.reduceAdd,↓bc_flatz,↓bc_flat16,↓agg_bytez, p5_16, p5_15, p5_14, p5_13, p5_12, p5_11, p5_10, p5_9, p5_8, p5_7, p5_6, p5_5, p5_4, p5_3, p5_2, p5_1]
  refine block_ (v := 1) (by decide) (by decide) ?_
  try simp -implicitDefEqProofs (maxSteps := 2000000) (disch := first|assumption|omega|rfl|(simp only[RD];done)|(simp only[RD];omega)) only [RN,Int.reduceBEq,Int.reduceBNe,Int.reduceLT,Int.reduceLE,Int.reduceAdd,Int.reduceSub,Int.reduceMul,Nat.reduceAdd,↓bc_flatz,↓bc_flat16,↓agg_bytez, p5_16, p5_15, p5_14, p5_13, p5_12, p5_11, p5_10, p5_9, p5_8, p5_7, p5_6, p5_5, p5_4, p5_3, p5_2, p5_1]
  refine ns_write h (blk_len 1) (x := 1) fun st h => ?_
  rw [n12_w]
  replace h : NS l d s1.next (.cells (ic g4.lay) none) n13 y1 602 st := h
  try simp -implicitDefEqProofs (maxSteps := 2000000) (disch := first|assumption|omega|rfl|(simp only[RD];done)|(simp only[RD];omega)) only [RN,Int.reduceBEq,Int.reduceBNe,Int.reduceLT,Int.reduceLE,Int.reduceAdd,Int.reduceSub,Int.reduceMul,Nat.reduceAdd,↓bc_flatz,↓bc_flat16,↓agg_bytez, p5_16, p5_15, p5_14, p5_13, p5_12, p5_11, p5_10, p5_9, p5_8, p5_7, p5_6, p5_5, p5_4, p5_3, p5_2, p5_1]
  refine block_ (v := 1) (by decide) (by decide) ?_
  try simp -implicitDefEqProofs (maxSteps := 2000000) (disch := first|assumption|omega|rfl|(simp only[RD];done)|(simp only[RD];omega)) only [RN,Int.reduceBEq,Int.reduceBNe,Int.reduceLT,Int.reduceLE,Int.reduceAdd,Int.reduceSub,Int.reduceMul,Nat.reduceAdd,↓bc_flatz,↓bc_flat16,↓agg_bytez, p5_16, p5_15, p5_14, p5_13, p5_12, p5_11, p5_10, p5_9, p5_8, p5_7, p5_6, p5_5, p5_4, p5_3, p5_2, p5_1]
  refine ns_write h (blk_len 1) (x := 32) fun st h => ?_
  rw [n13_w]
  replace h : NS l d s1.next (.cells (ic g4.lay) none) n14 y1 602 st := h
  try simp -implicitDefEqProofs (maxSteps := 2000000) (disch := first|assumption|omega|rfl|(simp only[RD];done)|(simp only[RD];omega)) only [RN,Int.reduceBEq,Int.reduceBNe,Int.reduceLT,Int.reduceLE,Int.reduceAdd,Int.reduceSub,Int.reduceMul,Nat.reduceAdd,↓bc_flatz,↓bc_flat16,↓agg_bytez, p5_16, p5_15, p5_14, p5_13, p5_12, p5_11, p5_10, p5_9, p5_8, p5_7, p5_6, p5_5, p5_4, p5_3, p5_2, p5_1]
  refine block_ (v := 1) (by decide) (by decide) ?_
  try simp -implicitDefEqProofs (maxSteps := 2000000) (disch := first|assumption|omega|rfl|(simp only[RD];done)|(simp only[RD];omega)) only [RN,Int.reduceBEq,Int.reduceBNe,Int.reduceLT,Int.reduceLE,Int.reduceAdd,Int.reduceSub,Int.reduceMul,Nat.reduceAdd,↓bc_flatz,↓bc_flat16,↓agg_bytez, p5_16, p5_15, p5_14, p5_13, p5_12, p5_11, p5_10, p5_9, p5_8, p5_7, p5_6, p5_5, p5_4, p5_3, p5_2, p5_1]
  refine ns_write h (blk_len 1) (x := 400) fun st h => ?_
  rw [n14_w]
  replace h : NS l d s1.next (.cells (ic g4.lay) none) n15 y1 602 st := h
  try simp -implicitDefEqProofs (maxSteps := 2000000) (disch := first|assumption|omega|rfl|(simp only[RD];done)|(simp only[RD];omega)) only [RN,Int.reduceBEq,Int.reduceBNe,Int.reduceLT,Int.reduceLE,Int.reduceAdd,Int.reduceSub,Int.reduceMul,Nat.reduceAdd,↓bc_flatz,↓bc_flat16,↓agg_bytez, p5_16, p5_15, p5_14, p5_13, p5_12, p5_11, p5_10, p5_9, p5_8, p5_7, p5_6, p5_5, p5_4, p5_3, p5_2, p5_1]
  refine block_ (v := 1) (by decide) (by decide) ?_
  try simp -implicitDefEqProofs (maxSteps := 2000000) (disch := first|assumption|omega|rfl|(simp only[RD];done)|(simp only[RD];omega)) only [RN,Int.reduceBEq,Int.reduceBNe,Int.reduceLT,Int.reduceLE,Int.reduceAdd,Int.reduceSub,Int.reduceMul,Nat.reduceAdd,↓bc_flatz,↓bc_flat16,↓agg_bytez, p5_16, p5_15, p5_14, p5_13, p5_12, p5_11, p5_10, p5_9, p5_8, p5_7, p5_6, p5_5, p5_4, p5_3, p5_2, p5_1]
  refine ns_write h (blk_len 1) (x := 33) fun st h => ?_
  rw [n15_w]
  replace h : NS l d s1.next (.cells (ic g4.lay) none) n16 y1 602 st := h
  try simp -implicitDefEqProofs (maxSteps := 2000000) (disch := first|assumption|omega|rfl|(simp only[RD];done)|(simp only[RD];omega)) only [RN,Int.reduceBEq,Int.reduceBNe,Int.reduceLT,Int.reduceLE,Int.reduceAdd,Int.reduceSub,Int.reduceMul,Nat.reduceAdd,↓bc_flatz,↓bc_flat16,↓agg_bytez, p5_16, p5_15, p5_14, p5_13, p5_12, p5_11, p5_10, p5_9, p5_8, p5_7, p5_6, p5_5, p5_4, p5_3, p5_2, p5_1]
  refine block_ (v := 1) (by decide) (by decide) ?_
  try simp -implicitDefEqProofs (maxSteps := 2000000) (disch := first|assumption|omega|rfl|(simp only[RD];done)|(simp only[RD];omega)) only [RN,Int.reduceBEq,Int.reduceBNe,Int.reduceLT,Int.reduceLE,Int.reduceAdd,Int.reduceSub,Int.reduceMul,Nat.reduceAdd,↓bc_flatz,↓bc_flat16,↓agg_bytez, p5_16, p5_15, p5_14, p5_13, p5_12, p5_11, p5_10, p5_9, p5_8, p5_7, p5_6, p5_5, p5_4, p5_3, p5_2, p5_1]
  refine ns_write h (blk_len 1) (x := 60) fun st h => ?_
  rw [n16_w]
  replace h : NS l d s1.next (.cells (ic g4.lay) none) n17 y1 602 st := h
  try simp -implicitDefEqProofs (maxSteps := 2000000) (disch := first|assumption|omega|rfl|(simp only[RD];done)|(simp only[RD];omega)) only [RN,Int.reduceBEq,Int.reduceBNe,Int.reduceLT,Int.reduceLE,Int.reduceAdd,Int.reduceSub,Int.reduceMul,Nat.reduceAdd,↓bc_flatz,↓bc_flat16,↓agg_bytez, p5_16, p5_15, p5_14, p5_13, p5_12, p5_11, p5_10, p5_9, p5_8, p5_7, p5_6, p5_5, p5_4, p5_3, p5_2, p5_1]
  refine ns_end h n17_f.1 n17_f.2 fun st h => ?_
  replace h : NS l d s1.next (.cells (ic g4.lay) none) n18 y1 602 st := h
  try simp -implicitDefEqProofs (maxSteps := 2000000) (disch := first|assumption|omega|rfl|(simp only[RD];done)|(simp only[RD];omega)) only [RN,Int.reduceBEq,Int.reduceBNe,Int.reduceLT,Int.reduceLE,Int.reduceAdd,Int.reduceSub,Int.reduceMul,Nat.reduceAdd,↓bc_flatz,↓bc_flat16,↓agg_bytez, p5_16, p5_15, p5_14, p5_13, p5_12, p5_11, p5_10, p5_9, p5_8, p5_7, p5_6, p5_5, p5_4, p5_3, p5_2, p5_1]
  refine ns_fuse h (x := 3) (by decide) fun st h => ?_
  replace h : NS l d s1.next (.cells (ic g4.lay) none) n18 y2 602 st := h
  try simp -implicitDefEqProofs (maxSteps := 2000000) (disch := first|assumption|omega|rfl|(simp only[RD];done)|(simp only[RD];omega)) only [RN,Int.reduceBEq,Int.reduceBNe,Int.reduceLT,Int.reduceLE,Int.reduceAdd,Int.reduceSub,Int.reduceMul,Nat.reduceAdd,↓bc_flatz,↓bc_flat16,↓agg_bytez, p5_16, p5_15, p5_14, p5_13, p5_12, p5_11, p5_10, p5_9, p5_8, p5_7, p5_6, p5_5, p5_4, p5_3, p5_2, p5_1]
  refine ns_syncE h (by decide) n18_f.1 n18_f.2.1 (fun e => by have := n18_f.2.2; rw [e] at this; cases this) y2_r fun st h => ?_
  replace h : NX l d s1.next (.cells (ic g4.lay) none) 1 y3 1202 st := by rw [n18_m] at h; exact h
  try simp -implicitDefEqProofs (maxSteps := 2000000) (disch := first|assumption|omega|rfl|(simp only[RD];done)|(simp only[RD];omega)) only [RN,Int.reduceBEq,Int.reduceBNe,Int.reduceLT,Int.reduceLE,Int.reduceAdd,Int.reduceSub,Int.reduceMul,Nat.reduceAdd,↓bc_flatz,↓bc_flat16,↓agg_bytez, p5_16, p5_15, p5_14, p5_13, p5_12, p5_11, p5_10, p5_9, p5_8, p5_7, p5_6, p5_5, p5_4, p5_3, p5_2, p5_1]
  refine nx_crash (ks := []) h (by decide) (fun _ _ _ _ _ => SlR.nil) fun st h => ?_
  replace h : NX l d s1.next (.cells (ic g4.lay) none) 1 y4 1202 st := h
  have cc := h.get
  try simp -implicitDefEqProofs (maxSteps := 2000000) (disch := first|assumption|omega|rfl|(simp only[RD];done)|(simp only[RD];omega)) only [RN,Int.reduceBEq,Int.reduceBNe,Int.reduceLT,Int.reduceLE,Int.reduceAdd,Int.reduceSub,Int.reduceMul,Nat.reduceAdd,↓bc_flatz,↓bc_flat16,↓agg_bytez, p5_16, p5_15, p5_14, p5_13, p5_12, p5_11, p5_10, p5_9, p5_8, p5_7, p5_6, p5_5, p5_4, p5_3, p5_2, p5_1, cc, l9]
  refine nx_recover0 (g := g4) h (by decide) g4_ok (by rw [y4_f.2.2]; decide) (by rw [y4_at]; exact zb_bytes) y4_f.1 (by rw [y4_at]; exact dec_zb g4_ok) (by rw [y4_at]; exact decL_zb) fun st h => ?_
  replace h : NX l d s1.next (.cells (ic g4.lay) none) 1 y5 1203 st := h
  try simp -implicitDefEqProofs (maxSteps := 2000000) (disch := first|assumption|omega|rfl|(simp only[RD];done)|(simp only[RD];omega)) only [RN,Int.reduceBEq,Int.reduceBNe,Int.reduceLT,Int.reduceLE,Int.reduceAdd,Int.reduceSub,Int.reduceMul,Nat.reduceAdd,↓bc_flatz,↓bc_flat16,↓agg_bytez, p5_16, p5_15, p5_14, p5_13, p5_12, p5_11, p5_10, p5_9, p5_8, p5_7, p5_6, p5_5, p5_4, p5_3, p5_2, p5_1]
  refine nx_check h y5_f.2.1 ?_
  try simp -implicitDefEqProofs (maxSteps := 2000000) (disch := first|assumption|omega|rfl|(simp only[RD];done)|(simp only[RD];omega)) only [RN,Int.reduceBEq,Int.reduceBNe,Int.reduceLT,Int.reduceLE,Int.reduceAdd,Int.reduceSub,Int.reduceMul,Nat.reduceAdd,↓bc_flatz,↓bc_flat16,↓agg_bytez, p5_16, p5_15, p5_14, p5_13, p5_12, p5_11, p5_10, p5_9, p5_8, p5_7, p5_6, p5_5, p5_4, p5_3, p5_2, p5_1]
  refine nx_used h y5_f.2.1 ?_
  have cc := h.get
  try simp -implicitDefEqProofs (maxSteps := 2000000) (disch := first|assumption|omega|rfl|(simp only[RD];done)|(simp only[RD];omega)) only [RN,Int.reduceBEq,Int.reduceBNe,Int.reduceLT,Int.reduceLE,Int.reduceAdd,Int.reduceSub,Int.reduceMul,Nat.reduceAdd,↓bc_flatz,↓bc_flat16,↓agg_bytez, p5_16, p5_15, p5_14, p5_13, p5_12, p5_11, p5_10, p5_9, p5_8, p5_7, p5_6, p5_5, p5_4, p5_3, p5_2, p5_1, cc, l9]
  refine nx_new (g := g4) h (by decide) g4_ok (by rw [y5_f.2.2.1]; decide) (by rw [y5_at]; exact zb_bytes) y5_f.1 y5_f.2.2.2 (by rw [y5_at]; exact dec_zb g4_ok) (by rw [y5_at]; exact decL_zb) fun st l2 h => ?_
  replace h : NS l2 d s1.next (.cells (ic g4.lay) none) m0 y6 1205 st := h
  try simp -implicitDefEqProofs (maxSteps := 2000000) (disch := first|assumption|omega|rfl|(simp only[RD];done)|(simp only[RD];omega)) only [RN,Int.reduceBEq,Int.reduceBNe,Int.reduceLT,Int.reduceLE,Int.reduceAdd,Int.reduceSub,Int.reduceMul,Nat.reduceAdd,↓bc_flatz,↓bc_flat16,↓agg_bytez, p5_16, p5_15, p5_14, p5_13, p5_12, p5_11, p5_10, p5_9, p5_8, p5_7, p5_6, p5_5, p5_4, p5_3, p5_2, p5_1]
  refine ns_begin h (by decide) m0_f.1 (r := 2) m0_f.2.1 (by decide) m0_f.2.2 fun st h => ?_
  replace h : NS l2 d s1.next (.cells (ic g4.lay) none) m1 y6 1205 st := h
  try simp -implicitDefEqProofs (maxSteps := 2000000) (disch := first|assumption|omega|rfl|(simp only[RD];done)|(simp only[RD];omega)) only [RN,Int.reduceBEq,Int.reduceBNe,Int.reduceLT,Int.reduceLE,Int.reduceAdd,Int.reduceSub,Int.reduceMul,Nat.reduceAdd,↓bc_flatz,↓bc_flat16,↓agg_bytez, p5_16, p5_15, p5_14, p5_13, p5_12, p5_11, p5_10, p5_9, p5_8, p5_7, p5_6, p5_5, p5_4, p5_3, p5_2, p5_1]
  refine block_ (v := 5) (by decide) (by decide) ?_
  try simp -implicitDefEqProofs (maxSteps := 2000000) (disch := first|assumption|omega|rfl|(simp only[RD];done)|(simp only[RD];omega)) only [RN,Int.reduceBEq,Int.reduceBNe,Int.reduceLT,Int.reduceLE,Int.reduceAdd,Int.reduceSub,Int.reduceMul,Nat.reduceAdd,↓bc_flatz,↓bc_flat16,↓agg_bytez, p5_16, p5_15, p5_14, p5_13, p5_12, p5_11, p5_10, p5_9, p5_8, p5_7, p5_6, p5_5, p5_4, p5_3, p5_2, p5_1]
  refine ns_write h (blk_len 5) (x := 50) fun st h => ?_
  rw [m1_w]
  replace h : NS l2 d s1.next (.cells (ic g4.lay) none) m2 y6 1205 st := h
  try simp -implicitDefEqProofs (maxSteps := 2000000) (disch := first|assumption|omega|rfl|(simp only[RD];done)|(simp only[RD];omega)) only [RN,Int.reduceBEq,Int.reduceBNe,Int.reduceLT,Int.reduceLE,Int.reduceAdd,Int.reduceSub,Int.reduceMul,Nat.reduceAdd,↓bc_flatz,↓bc_flat16,↓agg_bytez, p5_16, p5_15, p5_14, p5_13, p5_12, p5_11, p5_10, p5_9, p5_8, p5_7, p5_6, p5_5, p5_4, p5_3, p5_2, p5_1]
  refine block_ (v := 6) (by decide) (by decide) ?_
  try simp -implicitDefEqProofs (maxSteps := 2000000) (disch := first|assumption|omega|rfl|(simp only[RD];done)|(simp only[RD];omega)) only [RN,Int.reduceBEq,Int.reduceBNe,Int.reduceLT,Int.reduceLE,Int.reduceAdd,Int.reduceSub,Int.reduceMul,Nat.reduceAdd,↓bc_flatz,↓bc_flat16,↓agg_bytez, p5_16, p5_15, p5_14, p5_13, p5_12, p5_11, p5_10, p5_9, p5_8, p5_7, p5_6, p5_5, p5_4, p5_3, p5_2, p5_1]
  refine ns_write h (blk_len 6) (x := 51) fun st h => ?_
  rw [m2_w]
  replace h : NS l2 d s1.next (.cells (ic g4.lay) none) m3 y6 1205 st := h
  try simp -implicitDefEqProofs (maxSteps := 2000000) (disch := first|assumption|omega|rfl|(simp only[RD];done)|(simp only[RD];omega)) only [RN,Int.reduceBEq,Int.reduceBNe,Int.reduceLT,Int.reduceLE,Int.reduceAdd,Int.reduceSub,Int.reduceMul,Nat.reduceAdd,↓bc_flatz,↓bc_flat16,↓agg_bytez, p5_16, p5_15, p5_14, p5_13, p5_12, p5_11, p5_10, p5_9, p5_8, p5_7, p5_6, p5_5, p5_4, p5_3, p5_2, p5_1]
  refine ns_end h m3_f.1 m3_f.2 fun st h => ?_
  replace h : NS l2 d s1.next (.cells (ic g4.lay) none) m4 y6 1205 st := h
  try simp -implicitDefEqProofs (maxSteps := 2000000) (disch := first|assumption|omega|rfl|(simp only[RD];done)|(simp only[RD];omega)) only [RN,Int.reduceBEq,Int.reduceBNe,Int.reduceLT,Int.reduceLE,Int.reduceAdd,Int.reduceSub,Int.reduceMul,Nat.reduceAdd,↓bc_flatz,↓bc_flat16,↓agg_bytez, p5_16, p5_15, p5_14, p5_13, p5_12, p5_11, p5_10, p5_9, p5_8, p5_7, p5_6, p5_5, p5_4, p5_3, p5_2, p5_1]
  refine ns_fuse h (x := 4) (by decide) fun st h => ?_
  replace h : NS l2 d s1.next (.cells (ic g4.lay) none) m4 y7 1205 st := h
  try simp -implicitDefEqProofs (maxSteps := 2000000) (disch := first|assumption|omega|rfl|(simp only[RD];done)|(simp only[RD];omega)) only [RN,Int.reduceBEq,Int.reduceBNe,Int.reduceLT,Int.reduceLE,Int.reduceAdd,Int.reduceSub,Int.reduceMul,Nat.reduceAdd,↓bc_flatz,↓bc_flat16,↓agg_bytez, p5_16, p5_15, p5_14, p5_13, p5_12, p5_11, p5_10, p5_9, p5_8, p5_7, p5_6, p5_5, p5_4, p5_3, p5_2, p5_1]
  refine ns_syncE h (by decide) m4_f.1 m4_f.2.1 (fun e => by have := m4_f.2.2; rw [e] at this; cases this) y7_r fun st h => ?_
  replace h : NX l2 d s1.next (.cells (ic g4.lay) none) m4.mine y8 1805 st := h
  try simp -implicitDefEqProofs (maxSteps := 2000000) (disch := first|assumption|omega|rfl|(simp only[RD];done)|(simp only[RD];omega)) only [RN,Int.reduceBEq,Int.reduceBNe,Int.reduceLT,Int.reduceLE,Int.reduceAdd,Int.reduceSub,Int.reduceMul,Nat.reduceAdd,↓bc_flatz,↓bc_flat16,↓agg_bytez, p5_16, p5_15, p5_14, p5_13, p5_12, p5_11, p5_10, p5_9, p5_8, p5_7, p5_6, p5_5, p5_4, p5_3, p5_2, p5_1]
  obtain ⟨sk, hsk⟩ : ∃ sk, sk = st.push (.cells [.bool true] none) := ⟨_, rfl⟩
  have kk : Keeps st sk := by rw [hsk]; exact (Keeps.refl _).push _
  have ck : sk.get st.next = some (.cells [.bool true] none) := by rw [hsk]; exact Store.get_push_same _ _
  rw [← hsk]
  have hk : NX l2 d s1.next (.cells (ic g4.lay) none) m4.mine y8 1805 sk ∧ ∀ F G, LogX st l2 d m4.mine F → Disk st d y8 G → True := by
    obtain ⟨F, G, L, D, A, C, hc, hn⟩ := h
    exact ⟨⟨F, G, L.same kk.1 fun j hj => kk.2 j (L.2.1 j hj), D.later kk, A, C, kk.get hc, hn⟩, fun _ _ _ _ => trivial⟩
  obtain ⟨F8, G8, L8, D8, A8, C8, hc8, hn8⟩ := h
  have hkG : st.next ∉ G8 := fun hx => absurd (D8.lt _ hx) (Nat.lt_irrefl _)
  refine crash_o (ks := [true]) (D8.later kk) C8 (by decide) (fun st' h1 h2 => SlR.new (.inl rfl) (by rw [h2 _ (Store.lt_of_get ck) hkG]; exact ck) rfl) fun st9 G9 D9 U9 => ?_
  have h : NX l2 d s1.next (.cells (ic g4.lay) none) m4.mine y9 1805 st9 := by
    obtain ⟨L', A'⟩ := nx_step (L8.same kk.1 fun j hj => kk.2 j (L8.2.1 j hj)) A8 U9
    obtain ⟨h1, h2⟩ := ns_step (kk.get hc8) hn8 (upd_right U9 fun j hj => by have := L8.2.1 j hj; have := kk.1; omega)
    exact ⟨F8, G9, L', D9, A', crash_C C8, h1, h2⟩
  have cc := h.get
  try simp -implicitDefEqProofs (maxSteps := 2000000) (disch := first|assumption|omega|rfl|(simp only[RD];done)|(simp only[RD];omega)) only [RN,Int.reduceBEq,Int.reduceBNe,Int.reduceLT,Int.reduceLE,Int.reduceAdd,Int.reduceSub,Int.reduceMul,Nat.reduceAdd,↓bc_flatz,↓bc_flat16,↓agg_bytez, p5_16, p5_15, p5_14, p5_13, p5_12, p5_11, p5_10, p5_9, p5_8, p5_7, p5_6, p5_5, p5_4, p5_3, p5_2, p5_1, cc, l9]
  refine nx_newE (g := g4) h (by decide) g4_ok (by rw [y9_f.2]; decide) y9_b y9_f.1 (by rw [y9_dec]; decide) fun st h => ?_
  replace h : NX l2 d s1.next (.cells (ic g4.lay) none) m4.mine y10 1806 st := h
  have cc := h.get
  try simp -implicitDefEqProofs (maxSteps := 2000000) (disch := first|assumption|omega|rfl|(simp only[RD];done)|(simp only[RD];omega)) only [RN,Int.reduceBEq,Int.reduceBNe,Int.reduceLT,Int.reduceLE,Int.reduceAdd,Int.reduceSub,Int.reduceMul,Nat.reduceAdd,↓bc_flatz,↓bc_flat16,↓agg_bytez, p5_16, p5_15, p5_14, p5_13, p5_12, p5_11, p5_10, p5_9, p5_8, p5_7, p5_6, p5_5, p5_4, p5_3, p5_2, p5_1, cc, l9]
  refine nx_recover (g := g4) h (by decide) g4_ok (by rw [y10_f.2]; decide) y9_b y10_f.1 y10_ok (by rw [y10_at, y9_dec]; decide) y10_r fun st G' D C => ?_
  replace D : Disk st d y11 G' := D
  replace C : y11.C (1806 + 1 + 2 * (decL (y10.at 1)).length + 3) := C
  rw [y10_at, y9_dec] at C
  rw [y10_at, y9_dec]
  try simp -implicitDefEqProofs (maxSteps := 2000000) (disch := first|assumption|omega|rfl|(simp only[RD];done)|(simp only[RD];omega)) only [RN,Int.reduceBEq,Int.reduceBNe,Int.reduceLT,Int.reduceLE,Int.reduceAdd,Int.reduceSub,Int.reduceMul,Nat.reduceAdd,↓bc_flatz,↓bc_flat16,↓agg_bytez, p5_16, p5_15, p5_14, p5_13, p5_12, p5_11, p5_10, p5_9, p5_8, p5_7, p5_6, p5_5, p5_4, p5_3, p5_2, p5_1]
  refine read_o D C (by decide) (i := 51) fun st2 D2 U2 => ?_
  have er : y11.read 51 = (blk 6, 0, y11.readed) := by
    unfold DS.read
    rw [y11_f.1, y11_at, y11_f.2]
    rfl
  rw [er]
  have b6 := blk_len 6
  have two : ((([50, 51] : List Int).length : Nat) : Int) = 2 := rfl
  rw [two]
  simp -implicitDefEqProofs (maxSteps := 2000000) (disch := first|assumption|omega|rfl|(simp only[RD];done)|(simp only[RD];omega)) only [RN,Int.reduceBEq,Int.reduceBNe,Int.reduceLT,Int.reduceLE,Int.reduceAdd,Int.reduceSub,Int.reduceMul,Nat.reduceAdd,↓bc_flatz,↓bc_flat16,↓agg_bytez, p5_16, p5_15, p5_14, p5_13, p5_12, p5_11, p5_10, p5_9, p5_8, p5_7, p5_6, p5_5, p5_4, p5_3, p5_2, p5_1, b6]
  refine block_ (v := 6) (by decide) (by decide) ?_
  have e2 := eqA_bc (n := 1024) false b6 b6
  simp -implicitDefEqProofs (maxSteps := 2000000) (disch := first|assumption|omega|rfl|(simp only[RD];done)|(simp only[RD];omega)) only [RN,Int.reduceBEq,Int.reduceBNe,Int.reduceLT,Int.reduceLE,Int.reduceAdd,Int.reduceSub,Int.reduceMul,Nat.reduceAdd,↓bc_flatz,↓bc_flat16,↓agg_bytez, b6, e2, decide_eq_true (rfl : blk 6 = blk 6)]
  exact hq _
end Go.Proofs.Ytlogocelkpmkbaa
