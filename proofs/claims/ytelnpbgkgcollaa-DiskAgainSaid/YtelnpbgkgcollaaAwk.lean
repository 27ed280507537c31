/- Chapter 04: the document's examples; DiskKnown. -/
import Derived.Test.YtelnpbgkgcollaaBun
set_option linter.all false
set_option maxRecDepth 100000
set_option maxHeartbeats 800000
namespace Go.Proofs.Ytelnpbgkgcollaa
open Go.Am
variable {σ σ' : Store} {Q : Value → Store → Prop}
abbrev bx (v : Int) : List Int := zb.set 0 v
theorem bx_len (v : Int) : (bx v).length = 1024 := by simp [bx, zb_len]
def A0 : DS := DS.new 4
def A1 : DS := (A0.write 1 (bx 1)).2
def A2 : DS := A1.barrier.2
def A3 : DS := (A2.write 1 (bx 2)).2
def A4 : DS := (A3.write 2 (bx 2)).2
def A5 : DS := A4.crash [false, true]
def A6 : DS := (A5.read 1).2.2
def A7 : DS := (A6.read 2).2.2
theorem A0_e : (A0.write 1 (bx 1)).1 = 0 := by decide +kernel
theorem A1_e : A1.barrier.1 = 0 := by decide +kernel
theorem A2_e : (A2.write 1 (bx 2)).1 = 0 := by decide +kernel
theorem A3_e : (A3.write 2 (bx 2)).1 = 0 := by decide +kernel
theorem A4_w : A4.wait.length = 2 := by decide +kernel
theorem A5_e : (A5.read 1).2.1 = 0 := by decide +kernel
theorem A5_b : (A5.read 1).1 = bx 1 := by decide +kernel
theorem A6_e : (A6.read 2).2.1 = 0 := by decide +kernel
theorem A6_b : (A6.read 2).1 = bx 2 := by decide +kernel
theorem A7_m : A7.made = 4 := by decide +kernel
theorem A0_C : A0.C 0 := new_C (by decide) (by decide)
theorem A1_C : A1.C 1 := write_C A0_C (bx_len 1)
theorem A2_C : A2.C 2 := barrier_C A1_C
theorem A3_C : A3.C 3 := write_C A2_C (bx_len 2)
theorem A4_C : A4.C 4 := write_C A3_C (bx_len 2)
theorem A5_C : A5.C 4 := crash_C A4_C
theorem A6_C : A6.C 5 := read_C A5_C
theorem A7_C : A7.C 6 := read_C A6_C
theorem A1_W : A1.W := write_W new_W
theorem A2_W : A2.W := barrier_W A1_W
theorem A1_L {L : List HB} (h : HeldL A1.held L) : L.length = 0 := by
  have : HeldL A1.held [] := ⟨List.Pairwise.nil, fun p => ⟨fun h => (by cases h), fun h => (by cases h)⟩⟩
  rw [h.uniq this]; rfl
theorem A2_held : A2.held = keepF (fun _ => none) 1 (bx 1) := by rfl
theorem bx1_ne : bx 1 ≠ zb := by decide +kernel
theorem A2_L {L : List HB} (h : HeldL A2.held L) : L.length = 1 := by
  have : HeldL A2.held [(1, bx 1)] := ⟨List.pairwise_singleton _ _, fun p => by
    rw [A2_held]
    unfold keepF
    rw [if_neg bx1_ne]
    obtain ⟨x, b⟩ := p
    constructor
    · intro h
      have : (x, b) = (1, bx 1) := by simpa using h
      cases this
      rw [if_pos rfl]
    · intro h
      split at h
      · rename_i e
        simp only at e h
        rw [e, ← Option.some.inj h]
        exact List.mem_singleton.2 rfl
      · cases h⟩
  rw [h.uniq this]; rfl
theorem awake_ (hq : ∀ σ', Keeps σ σ' → Q (.bool true) σ') : Does Try.prog 23 [] σ Q := by
  refine d23 ?_
  simp -implicitDefEqProofs (maxSteps := 2000000) (disch := first|assumption|omega|rfl|(simp only[RD];done)|(simp only[RD];omega)) only [RN,Int.reduceBEq,Int.reduceBNe,Int.reduceLT,Int.reduceLE,Int.reduceAdd,Int.reduceSub,Int.reduceMul,Nat.reduceAdd,↓bc_flatz,↓bc_flat16,↓agg_bytez, p23]
  refine bnew_ (by decide) (by decide) [] (fun p hp => by cases hp) fun s0 d b0 => ?_
  have b0 : Bun σ s0 d A0 [] := b0
  have fp : ∀ (n : Int) v, fpart false 1 1 (.agg ⟨[.int .i64 n, v]⟩) = some v := fun n v => rfl
  have l1 := bx_len 1
  have l2 := bx_len 2
  simp -implicitDefEqProofs (maxSteps := 2000000) (disch := first|assumption|omega|rfl|(simp only[RD];done)|(simp only[RD];omega)) only [RN,Int.reduceBEq,Int.reduceBNe,Int.reduceLT,Int.reduceLE,Int.reduceAdd,Int.reduceSub,Int.reduceMul,Nat.reduceAdd,↓bc_flatz,↓bc_flat16,↓agg_bytez, p23_6, l1, l2]
  obtain ⟨s1, hs1⟩ : ∃ s1, s1 = (s0.push (.cells (bc (bx 1)) none)).push (.cells (bc (bx 2)) none) := ⟨_, rfl⟩
  have b1 : Bun σ s1 d A0 [(s0.next + 1, .cells (bc (bx 2)) none), (s0.next, .cells (bc (bx 1)) none)] := by
    have := (b0.push (.cells (bc (bx 1)) none)).push (.cells (bc (bx 2)) none)
    rw [Store.next_push] at this
    rw [hs1]; exact this
  rw [← hs1]
  clear hs1
  have hx : (s0.next, SObj.cells (bc (bx 1)) none) ∈ [(s0.next + 1, SObj.cells (bc (bx 2)) none), (s0.next, .cells (bc (bx 1)) none)] := by simp
  have hy : (s0.next + 1, SObj.cells (bc (bx 2)) none) ∈ [(s0.next + 1, SObj.cells (bc (bx 2)) none), (s0.next, .cells (bc (bx 1)) none)] := by simp
  try simp -implicitDefEqProofs (maxSteps := 2000000) (disch := first|assumption|omega|rfl|(simp only[RD];done)|(simp only[RD];omega)) only [RN,Int.reduceBEq,Int.reduceBNe,Int.reduceLT,Int.reduceLE,Int.reduceAdd,Int.reduceSub,Int.reduceMul,Nat.reduceAdd,↓bc_flatz,↓bc_flat16,↓agg_bytez, b1.get hx]
  refine bwrite_ b1 A0_C (by decide) l1 fun s2 b2 => ?_
  rw [show (A0.write 1 (bx 1)).1 = 0 from A0_e]
  simp -implicitDefEqProofs (maxSteps := 2000000) (disch := first|assumption|omega|rfl|(simp only[RD];done)|(simp only[RD];omega)) only [RN,Int.reduceBEq,Int.reduceBNe,Int.reduceLT,Int.reduceLE,Int.reduceAdd,Int.reduceSub,Int.reduceMul,Nat.reduceAdd,↓bc_flatz,↓bc_flat16,↓agg_bytez, p23_5]
  refine bimage_ (s := A1) b2 A1_C A1_W fun L s3 v hL b3 hv _ => ?_
  have hv' : lenSl v = some (.int .i64 0) := by have h0 := hv.len; rw [A1_L hL] at h0; exact h0
  simp -implicitDefEqProofs (maxSteps := 2000000) (disch := first|assumption|omega|rfl|(simp only[RD];done)|(simp only[RD];omega)) only [RN,Int.reduceBEq,Int.reduceBNe,Int.reduceLT,Int.reduceLE,Int.reduceAdd,Int.reduceSub,Int.reduceMul,Nat.reduceAdd,↓bc_flatz,↓bc_flat16,↓agg_bytez, fp, hv']
  refine bbar_ (s := A1) b3 A1_C (by decide) fun s4 b4 => ?_
  rw [A1_e]
  try simp -implicitDefEqProofs (maxSteps := 2000000) (disch := first|assumption|omega|rfl|(simp only[RD];done)|(simp only[RD];omega)) only [RN,Int.reduceBEq,Int.reduceBNe,Int.reduceLT,Int.reduceLE,Int.reduceAdd,Int.reduceSub,Int.reduceMul,Nat.reduceAdd,↓bc_flatz,↓bc_flat16,↓agg_bytez]
  refine bimage_ (s := A2) b4 A2_C A2_W fun L s5 v hL b5 hv _ => ?_
  have hv' : lenSl v = some (.int .i64 1) := by have h0 := hv.len; rw [A2_L hL] at h0; exact h0
  simp -implicitDefEqProofs (maxSteps := 2000000) (disch := first|assumption|omega|rfl|(simp only[RD];done)|(simp only[RD];omega)) only [RN,Int.reduceBEq,Int.reduceBNe,Int.reduceLT,Int.reduceLE,Int.reduceAdd,Int.reduceSub,Int.reduceMul,Nat.reduceAdd,↓bc_flatz,↓bc_flat16,↓agg_bytez, p23_4, fp, hv', b5.get hy]
  refine bwrite_ (s := A2) b5 A2_C (by decide) l2 fun s6 b6 => ?_
  rw [show (A2.write 1 (bx 2)).1 = 0 from A2_e]
  simp -implicitDefEqProofs (maxSteps := 2000000) (disch := first|assumption|omega|rfl|(simp only[RD];done)|(simp only[RD];omega)) only [RN,Int.reduceBEq,Int.reduceBNe,Int.reduceLT,Int.reduceLE,Int.reduceAdd,Int.reduceSub,Int.reduceMul,Nat.reduceAdd,↓bc_flatz,↓bc_flat16,↓agg_bytez, b6.get hy]
  refine bwrite_ (s := A3) b6 A3_C (by decide) l2 fun s7 b7 => ?_
  rw [show (A3.write 2 (bx 2)).1 = 0 from A3_e]
  simp -implicitDefEqProofs (maxSteps := 2000000) (disch := first|assumption|omega|rfl|(simp only[RD];done)|(simp only[RD];omega)) only [RN,Int.reduceBEq,Int.reduceBNe,Int.reduceLT,Int.reduceLE,Int.reduceAdd,Int.reduceSub,Int.reduceMul,Nat.reduceAdd,↓bc_flatz,↓bc_flat16,↓agg_bytez, p23_3]
  refine bpending_ (s := A4) b7 A4_C (by decide) fun s8 v b8 hv => ?_
  rw [A4_w] at hv
  have hv : lenSl v = some (.int .i64 2) := hv
  simp -implicitDefEqProofs (maxSteps := 2000000) (disch := first|assumption|omega|rfl|(simp only[RD];done)|(simp only[RD];omega)) only [RN,Int.reduceBEq,Int.reduceBNe,Int.reduceLT,Int.reduceLE,Int.reduceAdd,Int.reduceSub,Int.reduceMul,Nat.reduceAdd,↓bc_flatz,↓bc_flat16,↓agg_bytez, hv]
  have b9 := b8.push (.cells [.bool false, .bool true] none)
  have hz : (s8.next, SObj.cells [.bool false, .bool true] none) ∈ (s8.next, SObj.cells [.bool false, .bool true] none) :: [(s0.next + 1, SObj.cells (bc (bx 2)) none), (s0.next, .cells (bc (bx 1)) none)] := by simp
  refine bcrash_ (s := A4) (ks := [false, true]) b9 A4_C (by decide) (fun st' _ h => SlR.new (.inl rfl) (h _ hz) rfl) fun s10 b10 => ?_
  have b10 : Bun σ s10 d A5 [(s0.next + 1, .cells (bc (bx 2)) none), (s0.next, .cells (bc (bx 1)) none)] := b10.less fun p hp => List.mem_cons_of_mem _ hp
  try simp -implicitDefEqProofs (maxSteps := 2000000) (disch := first|assumption|omega|rfl|(simp only[RD];done)|(simp only[RD];omega)) only [RN,Int.reduceBEq,Int.reduceBNe,Int.reduceLT,Int.reduceLE,Int.reduceAdd,Int.reduceSub,Int.reduceMul,Nat.reduceAdd,↓bc_flatz,↓bc_flat16,↓agg_bytez]
  refine bread_ (s := A5) b10 A5_C (by decide) fun s11 b11 => ?_
  rw [A5_e, A5_b]
  simp -implicitDefEqProofs (maxSteps := 2000000) (disch := first|assumption|omega|rfl|(simp only[RD];done)|(simp only[RD];omega)) only [RN,Int.reduceBEq,Int.reduceBNe,Int.reduceLT,Int.reduceLE,Int.reduceAdd,Int.reduceSub,Int.reduceMul,Nat.reduceAdd,↓bc_flatz,↓bc_flat16,↓agg_bytez, p23_2, l1]
  have b12 := b11.push (.cells (bc (bx 1)) none)
  have hc : (s11.next, SObj.cells (bc (bx 1)) none) ∈ (s11.next, SObj.cells (bc (bx 1)) none) :: [(s0.next + 1, SObj.cells (bc (bx 2)) none), (s0.next, .cells (bc (bx 1)) none)] := by simp
  refine bread_ (s := A6) b12 A6_C (by decide) fun s13 b13 => ?_
  rw [A6_e, A6_b]
  simp -implicitDefEqProofs (maxSteps := 2000000) (disch := first|assumption|omega|rfl|(simp only[RD];done)|(simp only[RD];omega)) only [RN,Int.reduceBEq,Int.reduceBNe,Int.reduceLT,Int.reduceLE,Int.reduceAdd,Int.reduceSub,Int.reduceMul,Nat.reduceAdd,↓bc_flatz,↓bc_flat16,↓agg_bytez, l2]
  have b14 := b13.push (.cells (bc (bx 2)) none)
  have e1 := eqA_bc (n := 1024) false l1 l1
  have e2 := eqA_bc (n := 1024) false l2 l2
  rw [decide_eq_true rfl] at e1 e2
  have g1 := b14.get (show (s13.next, SObj.cells (bc (bx 2)) none) ∈ _ by simp)
  have g2 := b14.get (show (s11.next, SObj.cells (bc (bx 1)) none) ∈ _ by simp)
  have g3 := b14.get (show (s0.next, SObj.cells (bc (bx 1)) none) ∈ _ by simp)
  have g4 := b14.get (show (s0.next + 1, SObj.cells (bc (bx 2)) none) ∈ _ by simp)
  obtain ⟨s14, hs14⟩ : ∃ s14, s14 = s13.push (.cells (bc (bx 2)) none) := ⟨_, rfl⟩
  rw [← hs14] at b14 g1 g2 g3 g4 ⊢
  simp -implicitDefEqProofs (maxSteps := 2000000) (disch := first|assumption|omega|rfl|(simp only[RD];done)|(simp only[RD];omega)) only [RN,Int.reduceBEq,Int.reduceBNe,Int.reduceLT,Int.reduceLE,Int.reduceAdd,Int.reduceSub,Int.reduceMul,Nat.reduceAdd,↓bc_flatz,↓bc_flat16,↓agg_bytez, p23_1, g1, g2, g3, g4, l1, l2, e1, e2]
  refine bmade_ (s := A7) b14 A7_C ?_
  rw [A7_m]
  try simp -implicitDefEqProofs (maxSteps := 2000000) (disch := first|assumption|omega|rfl|(simp only[RD];done)|(simp only[RD];omega)) only [RN,Int.reduceBEq,Int.reduceBNe,Int.reduceLT,Int.reduceLE,Int.reduceAdd,Int.reduceSub,Int.reduceMul,Nat.reduceAdd,↓bc_flatz,↓bc_flat16,↓agg_bytez]
  exact hq _ b14.keeps
/-! ## DiskKnown -/
def M0 : DS := DS.new 1048576
def M1 : DS := (M0.write 1048575 (bx 5)).2
theorem M0_e : (M0.write 1048575 (bx 5)).1 = 0 := by decide +kernel
theorem M1_e : (M1.write 1048576 (bx 5)).1 = 2 := by decide +kernel
def K0 : DS := (DS.new 4).fused 1
def K1 : DS := (K0.write 0 (bx 1)).2
def K2 : DS := K1.barrier.2
def K3 : DS := (K2.read 0).2.2
def K4 : DS := (K3.write 0 zb).2
def K5 : DS := K4.crash []
def K6 : DS := (K5.read 0).2.2
def K7 : DS := K6.claimed
def K8 : DS := K7.claimed
def K9 : DS := K8.crash []
theorem K0_e : (K0.write 0 (bx 1)).1 = 0 := by decide +kernel
theorem K1_e : K1.barrier.1 = 3 := by decide +kernel
theorem K2_d : K2.dead = true := by decide +kernel
theorem K2_w : K2.wait.length = 1 := by decide +kernel
theorem K2_m : K2.made = 1 := by decide +kernel
theorem K2_e : (K2.read 0).2.1 = 3 := by decide +kernel
theorem K2_b : (K2.read 0).1 = zb := by decide +kernel
theorem K3_d : K3.dead = true := by decide +kernel
theorem K3_e : (K3.write 0 zb).1 = 3 := by decide +kernel
theorem K5_e : (K5.read 0).2.1 = 0 := by decide +kernel
theorem K5_b : (K5.read 0).1 = zb := by decide +kernel
theorem K6_d : K6.dead = false := by decide +kernel
theorem K6_c : K6.claims = 0 := by decide +kernel
theorem K7_d : K7.dead = false := by decide +kernel
theorem K7_c : K7.claims = 1 := by decide +kernel
theorem K8_1 : K8.mine 1 = false := by decide +kernel
theorem K8_2 : K8.mine 2 = true := by decide +kernel
theorem K9_2 : K9.mine 2 = false := by decide +kernel
theorem K9_0 : K9.mine 0 = false := by decide +kernel
theorem K9_d : K9.dead = false := by decide +kernel
theorem K9_c : K9.claims = 2 := by decide +kernel
theorem M0_C : M0.C 0 := new_C (by decide) (by decide)
theorem M1_C : M1.C 1 := write_C M0_C (bx_len 5)
theorem K0_C : K0.C 0 := fused_C (new_C (by decide) (by decide)) (by decide)
theorem K1_C : K1.C 1 := write_C K0_C (bx_len 1)
theorem K2_C : K2.C 2 := barrier_C K1_C
theorem K3_C : K3.C 3 := read_C K2_C
theorem K4_C : K4.C 4 := write_C K3_C zb_len
theorem K5_C : K5.C 4 := crash_C K4_C
theorem K6_C : K6.C 5 := read_C K5_C
theorem K7_C : K7.C 6 := claimed_C K6_C
theorem K8_C : K8.C 7 := claimed_C K7_C
theorem K9_C : K9.C 7 := crash_C K8_C
theorem known_ (hq : ∀ σ', Q (.bool true) σ') : Does Try.prog 6 [] σ Q := by
  refine d6 ?_
  simp -implicitDefEqProofs (maxSteps := 2000000) (disch := first|assumption|omega|rfl|(simp only[RD];done)|(simp only[RD];omega)) only [RN,Int.reduceBEq,Int.reduceBNe,Int.reduceLT,Int.reduceLE,Int.reduceAdd,Int.reduceSub,Int.reduceMul,Nat.reduceAdd,↓bc_flatz,↓bc_flat16,↓agg_bytez, p6]
  refine newbad_ (.inl (by decide)) ?_
  simp -implicitDefEqProofs (maxSteps := 2000000) (disch := first|assumption|omega|rfl|(simp only[RD];done)|(simp only[RD];omega)) only [RN,Int.reduceBEq,Int.reduceBNe,Int.reduceLT,Int.reduceLE,Int.reduceAdd,Int.reduceSub,Int.reduceMul,Nat.reduceAdd,↓bc_flatz,↓bc_flat16,↓agg_bytez, p6_10]
  refine newbad_ (.inr (by decide)) ?_
  try simp -implicitDefEqProofs (maxSteps := 2000000) (disch := first|assumption|omega|rfl|(simp only[RD];done)|(simp only[RD];omega)) only [RN,Int.reduceBEq,Int.reduceBNe,Int.reduceLT,Int.reduceLE,Int.reduceAdd,Int.reduceSub,Int.reduceMul,Nat.reduceAdd,↓bc_flatz,↓bc_flat16,↓agg_bytez]
  refine bnew_ (by decide) (by decide) [] (fun p hp => by cases hp) fun s0 dm bm => ?_
  have bm : Bun σ s0 dm M0 [] := bm
  have l1 := bx_len 1
  have l5 := bx_len 5
  try simp -implicitDefEqProofs (maxSteps := 2000000) (disch := first|assumption|omega|rfl|(simp only[RD];done)|(simp only[RD];omega)) only [RN,Int.reduceBEq,Int.reduceBNe,Int.reduceLT,Int.reduceLE,Int.reduceAdd,Int.reduceSub,Int.reduceMul,Nat.reduceAdd,↓bc_flatz,↓bc_flat16,↓agg_bytez]
  refine blen_ bm M0_C ?_
  simp -implicitDefEqProofs (maxSteps := 2000000) (disch := first|assumption|omega|rfl|(simp only[RD];done)|(simp only[RD];omega)) only [RN,Int.reduceBEq,Int.reduceBNe,Int.reduceLT,Int.reduceLE,Int.reduceAdd,Int.reduceSub,Int.reduceMul,Nat.reduceAdd,↓bc_flatz,↓bc_flat16,↓agg_bytez, p6_9, show M0.n = 1048576 from rfl]
  refine bwrite_ bm M0_C (by decide) l5 fun s1 bm1 => ?_
  rw [show (M0.write 1048575 (bx 5)).1 = 0 from M0_e]
  try simp -implicitDefEqProofs (maxSteps := 2000000) (disch := first|assumption|omega|rfl|(simp only[RD];done)|(simp only[RD];omega)) only [RN,Int.reduceBEq,Int.reduceBNe,Int.reduceLT,Int.reduceLE,Int.reduceAdd,Int.reduceSub,Int.reduceMul,Nat.reduceAdd,↓bc_flatz,↓bc_flat16,↓agg_bytez]
  refine bwrite_ (s := M1) bm1 M1_C (by decide) l5 fun s2 bm2 => ?_
  rw [show (M1.write 1048576 (bx 5)).1 = 2 from M1_e]
  have k2 := bm2.keeps
  simp -implicitDefEqProofs (maxSteps := 2000000) (disch := first|assumption|omega|rfl|(simp only[RD];done)|(simp only[RD];omega)) only [RN,Int.reduceBEq,Int.reduceBNe,Int.reduceLT,Int.reduceLE,Int.reduceAdd,Int.reduceSub,Int.reduceMul,Nat.reduceAdd,↓bc_flatz,↓bc_flat16,↓agg_bytez, p6_8]
  refine bnew_ (by decide) (by decide) [] (fun p hp => by cases hp) fun s3 d c0 => ?_
  try simp -implicitDefEqProofs (maxSteps := 2000000) (disch := first|assumption|omega|rfl|(simp only[RD];done)|(simp only[RD];omega)) only [RN,Int.reduceBEq,Int.reduceBNe,Int.reduceLT,Int.reduceLE,Int.reduceAdd,Int.reduceSub,Int.reduceMul,Nat.reduceAdd,↓bc_flatz,↓bc_flat16,↓agg_bytez]
  refine bfuse_ c0 (new_C (by decide) (by decide)) rfl 1 fun s4 c1 => ?_
  try simp -implicitDefEqProofs (maxSteps := 2000000) (disch := first|assumption|omega|rfl|(simp only[RD];done)|(simp only[RD];omega)) only [RN,Int.reduceBEq,Int.reduceBNe,Int.reduceLT,Int.reduceLE,Int.reduceAdd,Int.reduceSub,Int.reduceMul,Nat.reduceAdd,↓bc_flatz,↓bc_flat16,↓agg_bytez]
  refine bwrite_ (s := K0) c1 K0_C (by decide) l1 fun s5 c2 => ?_
  rw [show (K0.write 0 (bx 1)).1 = 0 from K0_e]
  simp -implicitDefEqProofs (maxSteps := 2000000) (disch := first|assumption|omega|rfl|(simp only[RD];done)|(simp only[RD];omega)) only [RN,Int.reduceBEq,Int.reduceBNe,Int.reduceLT,Int.reduceLE,Int.reduceAdd,Int.reduceSub,Int.reduceMul,Nat.reduceAdd,↓bc_flatz,↓bc_flat16,↓agg_bytez, p6_7]
  refine bbar_ (s := K1) c2 K1_C (by decide) fun s6 c3 => ?_
  rw [K1_e]
  try simp -implicitDefEqProofs (maxSteps := 2000000) (disch := first|assumption|omega|rfl|(simp only[RD];done)|(simp only[RD];omega)) only [RN,Int.reduceBEq,Int.reduceBNe,Int.reduceLT,Int.reduceLE,Int.reduceAdd,Int.reduceSub,Int.reduceMul,Nat.reduceAdd,↓bc_flatz,↓bc_flat16,↓agg_bytez]
  refine bstopped_ (s := K2) c3 K2_C ?_
  rw [K2_d]
  try simp -implicitDefEqProofs (maxSteps := 2000000) (disch := first|assumption|omega|rfl|(simp only[RD];done)|(simp only[RD];omega)) only [RN,Int.reduceBEq,Int.reduceBNe,Int.reduceLT,Int.reduceLE,Int.reduceAdd,Int.reduceSub,Int.reduceMul,Nat.reduceAdd,↓bc_flatz,↓bc_flat16,↓agg_bytez]
  refine bpending_ (s := K2) c3 K2_C (by decide) fun s7 v c4 hv => ?_
  rw [K2_w] at hv
  have hv : lenSl v = some (.int .i64 1) := hv
  simp -implicitDefEqProofs (maxSteps := 2000000) (disch := first|assumption|omega|rfl|(simp only[RD];done)|(simp only[RD];omega)) only [RN,Int.reduceBEq,Int.reduceBNe,Int.reduceLT,Int.reduceLE,Int.reduceAdd,Int.reduceSub,Int.reduceMul,Nat.reduceAdd,↓bc_flatz,↓bc_flat16,↓agg_bytez, hv, p6_6]
  refine bclaimdead_ (s := K2) c4 K2_C K2_d ?_
  try simp -implicitDefEqProofs (maxSteps := 2000000) (disch := first|assumption|omega|rfl|(simp only[RD];done)|(simp only[RD];omega)) only [RN,Int.reduceBEq,Int.reduceBNe,Int.reduceLT,Int.reduceLE,Int.reduceAdd,Int.reduceSub,Int.reduceMul,Nat.reduceAdd,↓bc_flatz,↓bc_flat16,↓agg_bytez]
  refine bmade_ (s := K2) c4 K2_C ?_
  rw [K2_m]
  try simp -implicitDefEqProofs (maxSteps := 2000000) (disch := first|assumption|omega|rfl|(simp only[RD];done)|(simp only[RD];omega)) only [RN,Int.reduceBEq,Int.reduceBNe,Int.reduceLT,Int.reduceLE,Int.reduceAdd,Int.reduceSub,Int.reduceMul,Nat.reduceAdd,↓bc_flatz,↓bc_flat16,↓agg_bytez]
  refine bread_ (s := K2) c4 K2_C (by decide) fun s8 c5 => ?_
  rw [K2_e, K2_b]
  try simp -implicitDefEqProofs (maxSteps := 2000000) (disch := first|assumption|omega|rfl|(simp only[RD];done)|(simp only[RD];omega)) only [RN,Int.reduceBEq,Int.reduceBNe,Int.reduceLT,Int.reduceLE,Int.reduceAdd,Int.reduceSub,Int.reduceMul,Nat.reduceAdd,↓bc_flatz,↓bc_flat16,↓agg_bytez]
  have c6 := (c5.push (.cells (bc zb) none)).less (os' := []) fun p hp => by cases hp
  refine bfused_ (s := K3) c6 K3_C K3_d (-1) ?_
  simp -implicitDefEqProofs (maxSteps := 2000000) (disch := first|assumption|omega|rfl|(simp only[RD];done)|(simp only[RD];omega)) only [RN,Int.reduceBEq,Int.reduceBNe,Int.reduceLT,Int.reduceLE,Int.reduceAdd,Int.reduceSub,Int.reduceMul,Nat.reduceAdd,↓bc_flatz,↓bc_flat16,↓agg_bytez, p6_5]
  refine bstopped_ (s := K3) c6 K3_C ?_
  rw [K3_d]
  try simp -implicitDefEqProofs (maxSteps := 2000000) (disch := first|assumption|omega|rfl|(simp only[RD];done)|(simp only[RD];omega)) only [RN,Int.reduceBEq,Int.reduceBNe,Int.reduceLT,Int.reduceLE,Int.reduceAdd,Int.reduceSub,Int.reduceMul,Nat.reduceAdd,↓bc_flatz,↓bc_flat16,↓agg_bytez]
  refine bwrite_ (s := K3) c6 K3_C (by decide) zb_len fun s9 c7 => ?_
  rw [K3_e]
  try simp -implicitDefEqProofs (maxSteps := 2000000) (disch := first|assumption|omega|rfl|(simp only[RD];done)|(simp only[RD];omega)) only [RN,Int.reduceBEq,Int.reduceBNe,Int.reduceLT,Int.reduceLE,Int.reduceAdd,Int.reduceSub,Int.reduceMul,Nat.reduceAdd,↓bc_flatz,↓bc_flat16,↓agg_bytez]
  refine bcrash_ (s := K4) (ks := []) c7 K4_C (by decide) (fun st' _ h => SlR.nil) fun s10 c8 => ?_
  try simp -implicitDefEqProofs (maxSteps := 2000000) (disch := first|assumption|omega|rfl|(simp only[RD];done)|(simp only[RD];omega)) only [RN,Int.reduceBEq,Int.reduceBNe,Int.reduceLT,Int.reduceLE,Int.reduceAdd,Int.reduceSub,Int.reduceMul,Nat.reduceAdd,↓bc_flatz,↓bc_flat16,↓agg_bytez]
  refine bread_ (s := K5) c8 K5_C (by decide) fun s11 c9 => ?_
  rw [K5_e, K5_b]
  try simp -implicitDefEqProofs (maxSteps := 2000000) (disch := first|assumption|omega|rfl|(simp only[RD];done)|(simp only[RD];omega)) only [RN,Int.reduceBEq,Int.reduceBNe,Int.reduceLT,Int.reduceLE,Int.reduceAdd,Int.reduceSub,Int.reduceMul,Nat.reduceAdd,↓bc_flatz,↓bc_flat16,↓agg_bytez]
  have c10 := c9.push (.cells (bc zb) none)
  have hz : (s11.next, SObj.cells (bc zb) none) ∈ [(s11.next, SObj.cells (bc zb) none)] := by simp
  refine bclaim_ (s := K6) c10 K6_C (by decide) K6_d fun s12 c11 => ?_
  rw [K6_c]
  simp -implicitDefEqProofs (maxSteps := 2000000) (disch := first|assumption|omega|rfl|(simp only[RD];done)|(simp only[RD];omega)) only [RN,Int.reduceBEq,Int.reduceBNe,Int.reduceLT,Int.reduceLE,Int.reduceAdd,Int.reduceSub,Int.reduceMul,Nat.reduceAdd,↓bc_flatz,↓bc_flat16,↓agg_bytez, p6_4]
  refine bclaim_ (s := K7) c11 K7_C (by decide) K7_d fun s13 c12 => ?_
  rw [K7_c]
  try simp -implicitDefEqProofs (maxSteps := 2000000) (disch := first|assumption|omega|rfl|(simp only[RD];done)|(simp only[RD];omega)) only [RN,Int.reduceBEq,Int.reduceBNe,Int.reduceLT,Int.reduceLE,Int.reduceAdd,Int.reduceSub,Int.reduceMul,Nat.reduceAdd,↓bc_flatz,↓bc_flat16,↓agg_bytez]
  refine bclaimed_ (s := K8) c12 K8_C 1 ?_
  rw [K8_1]
  try simp -implicitDefEqProofs (maxSteps := 2000000) (disch := first|assumption|omega|rfl|(simp only[RD];done)|(simp only[RD];omega)) only [RN,Int.reduceBEq,Int.reduceBNe,Int.reduceLT,Int.reduceLE,Int.reduceAdd,Int.reduceSub,Int.reduceMul,Nat.reduceAdd,↓bc_flatz,↓bc_flat16,↓agg_bytez]
  refine bclaimed_ (s := K8) c12 K8_C 2 ?_
  rw [K8_2]
  simp -implicitDefEqProofs (maxSteps := 2000000) (disch := first|assumption|omega|rfl|(simp only[RD];done)|(simp only[RD];omega)) only [RN,Int.reduceBEq,Int.reduceBNe,Int.reduceLT,Int.reduceLE,Int.reduceAdd,Int.reduceSub,Int.reduceMul,Nat.reduceAdd,↓bc_flatz,↓bc_flat16,↓agg_bytez, p6_3]
  refine bcrash_ (s := K8) (ks := []) c12 K8_C (by decide) (fun st' _ h => SlR.nil) fun s14 c13 => ?_
  try simp -implicitDefEqProofs (maxSteps := 2000000) (disch := first|assumption|omega|rfl|(simp only[RD];done)|(simp only[RD];omega)) only [RN,Int.reduceBEq,Int.reduceBNe,Int.reduceLT,Int.reduceLE,Int.reduceAdd,Int.reduceSub,Int.reduceMul,Nat.reduceAdd,↓bc_flatz,↓bc_flat16,↓agg_bytez]
  refine bclaimed_ (s := K9) c13 K9_C 2 ?_
  rw [K9_2]
  try simp -implicitDefEqProofs (maxSteps := 2000000) (disch := first|assumption|omega|rfl|(simp only[RD];done)|(simp only[RD];omega)) only [RN,Int.reduceBEq,Int.reduceBNe,Int.reduceLT,Int.reduceLE,Int.reduceAdd,Int.reduceSub,Int.reduceMul,Nat.reduceAdd,↓bc_flatz,↓bc_flat16,↓agg_bytez]
  refine bclaimed_ (s := K9) c13 K9_C 0 ?_
  rw [K9_0]
  try simp -implicitDefEqProofs (maxSteps := 2000000) (disch := first|assumption|omega|rfl|(simp only[RD];done)|(simp only[RD];omega)) only [RN,Int.reduceBEq,Int.reduceBNe,Int.reduceLT,Int.reduceLE,Int.reduceAdd,Int.reduceSub,Int.reduceMul,Nat.reduceAdd,↓bc_flatz,↓bc_flat16,↓agg_bytez]
  refine bclaim_ (s := K9) c13 K9_C (by decide) K9_d fun s15 c14 => ?_
  rw [K9_c]
  simp -implicitDefEqProofs (maxSteps := 2000000) (disch := first|assumption|omega|rfl|(simp only[RD];done)|(simp only[RD];omega)) only [RN,Int.reduceBEq,Int.reduceBNe,Int.reduceLT,Int.reduceLE,Int.reduceAdd,Int.reduceSub,Int.reduceMul,Nat.reduceAdd,↓bc_flatz,↓bc_flat16,↓agg_bytez, p6_2]
  refine awake_ fun s16 k16 => ?_
  have g1 := k16.get (c14.get hz)
  have ez := eqA_bc (n := 1024) false zb_len zb_len
  rw [decide_eq_true rfl] at ez
  simp -implicitDefEqProofs (maxSteps := 2000000) (disch := first|assumption|omega|rfl|(simp only[RD];done)|(simp only[RD];omega)) only [RN,Int.reduceBEq,Int.reduceBNe,Int.reduceLT,Int.reduceLE,Int.reduceAdd,Int.reduceSub,Int.reduceMul,Nat.reduceAdd,↓bc_flatz,↓bc_flat16,↓agg_bytez, cond_true, cond_false]
  simp -implicitDefEqProofs (maxSteps := 2000000) (disch := first|assumption|omega|rfl|(simp only[RD];done)|(simp only[RD];omega)) only [RN,Int.reduceBEq,Int.reduceBNe,Int.reduceLT,Int.reduceLE,Int.reduceAdd,Int.reduceSub,Int.reduceMul,Nat.reduceAdd,↓bc_flatz,↓bc_flat16,↓agg_bytez, p6_1, g1, ez, cond_true, cond_false]
  exact hq _
end Go.Proofs.Ytelnpbgkgcollaa
