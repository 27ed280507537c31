/- Contracts of the packages shape (Encode), node, entry. -/
import Derived.Test.YtchfpepbdnjhmaaShape
set_option linter.all false
set_option maxRecDepth 100000
namespace Go.Proofs.Ytchfpepbdnjhmaa
open Go.Am
def layD : EqD := .fields [(0, 3, (.fields [(0, 1, (.one (.int .i64))), (1, 1, (.one (.int .i64))), (2, 1, (.one (.int .i64)))])), (3, 1, (.one (.int .i64))), (4, 1, (.one (.int .i64))), (5, 1, (.one (.int .i64))), (6, 1, (.one (.int .i64))), (7, 1, (.one (.int .i64))), (8, 1, (.one (.int .i64)))]
theorem eq_lay (g : Geo) : eqA layD false (.agg ⟨ic g.lay⟩) (.agg ⟨ic g.lay⟩) = some (.bool true) := by
  simp [eqA, layD, eqD, eqDs, ic, Geo.lay, eqLeaf, eq1]
theorem made_ {g : Geo} (hg : g.ok) {σ : Store} {Q : Value → Store → Prop} (hq : Q (.bool true) σ) : Does Try.prog 36 [.agg ⟨ic g.lay⟩] σ Q := by
  refine Does.pureT (r := .bool true) ?_ rfl hq
  refine d36 ?_
  have e3 : rdPart (some (.cells (ic g.lay) none)) 0 3 = some (.agg ⟨ic g.cells⟩) := rfl
  simp -implicitDefEqProofs (maxSteps := 2000000) (disch := first|assumption|omega|rfl|(simp only[RD];done)|(simp only[RD];omega)) only [RN,Int.reduceBEq,Int.reduceBNe,Int.reduceLT,Int.reduceLE,Int.reduceAdd,Int.reduceSub,Int.reduceMul,Nat.reduceAdd,↓bc_flatz,↓bc_flat16,↓agg_bytez, p36, e3]
  refine of_ ?_
  have e4 : g.of = g.lay := if_pos hg
  have e5 : g.err = 0 := if_pos hg
  have l9 : (ic g.lay).length = 9 := rfl
  have u9 : (unrle [(9, .int .i64 0)]).length = 9 := rfl
  have e6 := eq_lay g
  unfold layD at e6
  simp -implicitDefEqProofs (maxSteps := 2000000) (disch := first|assumption|omega|rfl|(simp only[RD];done)|(simp only[RD];omega)) only [RN,Int.reduceBEq,Int.reduceBNe,Int.reduceLT,Int.reduceLE,Int.reduceAdd,Int.reduceSub,Int.reduceMul,Nat.reduceAdd,↓bc_flatz,↓bc_flat16,↓agg_bytez, e4, e5, l9, u9, e6]
  exact ⟨by first | rfl | trivial, ((Keeps.refl σ).push _).push _⟩
def magic : List Int := [99, 114, 111, 102, 116, 102, 115, 49]
/-- The superblock, as far as some numbers are laid. -/
def superI (g : Geo) : Nat → List Int
  | 0 => layB (zb) 0 magic
  | i + 1 => set32 (superI g i) (8 + 4 * i) (IntKind.u32.wrap (g.lay.getD i 0)) 4
def superB (g : Geo) : List Int := superI g 9
theorem superI_len (g : Geo) : ∀ i, (superI g i).length = 1024
  | 0 => by rw [superI, layB_len (by rw [zb_len]; simp [magic]), zb_len]
  | i + 1 => by simp [superI, set32_len, superI_len g i]
theorem enc_ {g : Geo} (hg : g.ok) {σ : Store} {Q : Value → Store → Prop} (hq : Q (.tuple #[.agg ⟨bc (superB g)⟩, .int .i64 0]) σ) : Does Try.prog 24 [.agg ⟨ic g.lay⟩] σ Q := by
  refine Does.pureT (r := .tuple #[.agg ⟨bc (superB g)⟩, .int .i64 0]) ?_ (by simp only [closedT, closed, List.all_cons, List.all_nil, bc_scalar, scalar, Bool.and_self]) hq
  refine d24 ?_
  have e1 : ic g.lay = [.int .i64 g.blocks, .int .i64 g.log, .int .i64 g.inodes, .int .i64 1, .int .i64 (1 + g.log), .int .i64 g.nodeBlocks, .int .i64 g.bitsAt, .int .i64 g.bitsBlocks, .int .i64 g.dataAt] := rfl
  have l9 : (ic g.lay).length = 9 := rfl
  simp -implicitDefEqProofs (maxSteps := 2000000) (disch := first|assumption|omega|rfl|(simp only[RD];done)|(simp only[RD];omega)) only [RN,Int.reduceBEq,Int.reduceBNe,Int.reduceLT,Int.reduceLE,Int.reduceAdd,Int.reduceSub,Int.reduceMul,Nat.reduceAdd,↓bc_flatz,↓bc_flat16,↓agg_bytez, p24, l9]
  refine made_ hg ?_
  have m8 : [Value.int IntKind.u8 99, Value.int IntKind.u8 114, Value.int IntKind.u8 111, Value.int IntKind.u8 102, Value.int IntKind.u8 116, Value.int IntKind.u8 102, Value.int IntKind.u8 115, Value.int IntKind.u8 49] = bc magic := rfl
  simp -implicitDefEqProofs (maxSteps := 2000000) (disch := first|assumption|omega|rfl|(simp only[RD];done)|(simp only[RD];omega)) only [RN,Int.reduceBEq,Int.reduceBNe,Int.reduceLT,Int.reduceLE,Int.reduceAdd,Int.reduceSub,Int.reduceMul,Nat.reduceAdd,↓bc_flatz,↓bc_flat16,↓agg_bytez, p24_4, l9, m8]
  rw [hand_at (cs := bc magic) (get_push_eq (by simp only [Store.next_push])) (by simp [magic]) (by simp [magic])]
  simp -implicitDefEqProofs (maxSteps := 2000000) (disch := first|assumption|omega|rfl|(simp only[RD];done)|(simp only[RD];omega)) only [RN,Int.reduceBEq,Int.reduceBNe,Int.reduceLT,Int.reduceLE,Int.reduceAdd,Int.reduceSub,Int.reduceMul,Nat.reduceAdd,↓bc_flatz,↓bc_flat16,↓agg_bytez]
  refine lay_ (b := zb) (x := 0) (l := magic) zb_len (by decide) (by exact SlR.new (.inr rfl) (get_push_eq (by simp only [Store.next_push, skip_next])) (by decide)) ?_
  have hl : (layB zb 0 magic).length = 1024 := superI_len g 0
  have u9 : (unrle [(9, .int .i64 0)]).length = 9 := rfl
  have u3 : (unrle [(3, .int .i64 0)]).length = 3 := rfl
  simp only [e1]
  have e3 : rdPart (some (.cells [.int .i64 g.blocks, .int .i64 g.log, .int .i64 g.inodes, .int .i64 1, .int .i64 (1 + g.log), .int .i64 g.nodeBlocks, .int .i64 g.bitsAt, .int .i64 g.bitsBlocks, .int .i64 g.dataAt] none)) 0 3 = some (.agg ⟨[.int .i64 g.blocks, .int .i64 g.log, .int .i64 g.inodes]⟩) := rfl
  (simp -implicitDefEqProofs (maxSteps := 2000000) (disch := first|assumption|omega|rfl|(simp only[RD];done)|(simp only[RD];omega)) only [RN,Int.reduceBEq,Int.reduceBNe,Int.reduceLT,Int.reduceLE,Int.reduceAdd,Int.reduceSub,Int.reduceMul,Nat.reduceAdd,↓bc_flatz,↓bc_flat16,↓agg_bytez, p24_3,  hl, u9, u3, e3]; simp -implicitDefEqProofs (maxSteps := 2000000) (disch := first|assumption|omega|rfl|(simp only[RD];done)|(simp only[RD];omega)) only [RN,Int.reduceBEq,Int.reduceBNe,Int.reduceLT,Int.reduceLE,Int.reduceAdd,Int.reduceSub,Int.reduceMul,Nat.reduceAdd,↓bc_flatz,↓bc_flat16,↓agg_bytez, p24_2,  hl, u9, u3, e3])
  refine lop1 (fun k v s => ∃ i : Nat, k + i = 9 ∧ v = .int .i64 i ∧ Keeps σ s ∧ s.get (σ.next + 1) = some (.cells (bc zb) none) ∧ s.get (σ.next + 1 + 1 + 1 + 1) = some (.cells (bc (superI g i)) none)) 9 ⟨0, rfl, rfl, ?_, ?_, ?_⟩ ?_
  · exact (((((((Keeps.refl σ).push _).push _).skip.push _).push _).push _).push _)
  · simp -implicitDefEqProofs (maxSteps := 2000000) (disch := first|assumption|omega|rfl|(simp only[RD];done)|(simp only[RD];omega)) only [RN,Int.reduceBEq,Int.reduceBNe,Int.reduceLT,Int.reduceLE,Int.reduceAdd,Int.reduceSub,Int.reduceMul,Nat.reduceAdd,↓bc_flatz,↓bc_flat16,↓agg_bytez]
  · simp -implicitDefEqProofs (maxSteps := 2000000) (disch := first|assumption|omega|rfl|(simp only[RD];done)|(simp only[RD];omega)) only [RN,Int.reduceBEq,Int.reduceBNe,Int.reduceLT,Int.reduceLE,Int.reduceAdd,Int.reduceSub,Int.reduceMul,Nat.reduceAdd,↓bc_flatz,↓bc_flat16,↓agg_bytez]
    rfl
  rintro k v s next ⟨i, hi, rfl, hk, h1, h2⟩ hn
  have h3 := superI_len g i
  by_cases h4 : (i : Int) < 9
  · have h5 : i < 9 := by omega
    simp -implicitDefEqProofs (maxSteps := 2000000) (disch := first|assumption|omega|rfl|(simp only[RD];done)|(simp only[RD];omega)) only [RN,Int.reduceBEq,Int.reduceBNe,Int.reduceLT,Int.reduceLE,Int.reduceAdd,Int.reduceSub,Int.reduceMul,Nat.reduceAdd,↓bc_flatz,↓bc_flat16,↓agg_bytez, decide_eq_true h4, h1, h2]
    have h6 : (ic g.lay)[i]? = some (.int .i64 (g.lay.getD i 0)) := by
      have : i < g.lay.length := h5
      simp [ic, this]
    rw [e1] at h6
    simp -implicitDefEqProofs (maxSteps := 2000000) (disch := first|assumption|omega|rfl|(simp only[RD];done)|(simp only[RD];omega)) only [RN,Int.reduceBEq,Int.reduceBNe,Int.reduceLT,Int.reduceLE,Int.reduceAdd,Int.reduceSub,Int.reduceMul,Nat.reduceAdd,↓bc_flatz,↓bc_flat16,↓agg_bytez, p24_1, h1, h2, h6]
    have h7 : (8 + 4 * (i : Int)) = ((8 + 4 * i : Nat) : Int) := by omega
    rw [h7]
    refine setU32_ h3 (by omega) ?_
    have h8 : (set32 (superI g i) (8 + 4 * i) (IntKind.u32.wrap (g.lay.getD i 0)) 4).length = 1024 := by rw [set32_len, h3]
    simp -implicitDefEqProofs (maxSteps := 2000000) (disch := first|assumption|omega|rfl|(simp only[RD];done)|(simp only[RD];omega)) only [RN,Int.reduceBEq,Int.reduceBNe,Int.reduceLT,Int.reduceLE,Int.reduceAdd,Int.reduceSub,Int.reduceMul,Nat.reduceAdd,↓bc_flatz,↓bc_flat16,↓agg_bytez, h1, h2, h8]
    refine hn _ _ (by omega) ⟨i + 1, by omega, by congr 1, hk.put _ (by omega), ?_, ?_⟩
    · simp -implicitDefEqProofs (maxSteps := 2000000) (disch := first|assumption|omega|rfl|(simp only[RD];done)|(simp only[RD];omega)) only [RN,Int.reduceBEq,Int.reduceBNe,Int.reduceLT,Int.reduceLE,Int.reduceAdd,Int.reduceSub,Int.reduceMul,Nat.reduceAdd,↓bc_flatz,↓bc_flat16,↓agg_bytez, h1]
    · simp -implicitDefEqProofs (maxSteps := 2000000) (disch := first|assumption|omega|rfl|(simp only[RD];done)|(simp only[RD];omega)) only [RN,Int.reduceBEq,Int.reduceBNe,Int.reduceLT,Int.reduceLE,Int.reduceAdd,Int.reduceSub,Int.reduceMul,Nat.reduceAdd,↓bc_flatz,↓bc_flat16,↓agg_bytez]
      rfl
  · have e : i = 9 := by omega
    subst e
    simp -implicitDefEqProofs (maxSteps := 2000000) (disch := first|assumption|omega|rfl|(simp only[RD];done)|(simp only[RD];omega)) only [RN,Int.reduceBEq,Int.reduceBNe,Int.reduceLT,Int.reduceLE,Int.reduceAdd,Int.reduceSub,Int.reduceMul,Nat.reduceAdd,↓bc_flatz,↓bc_flat16,↓agg_bytez, decide_eq_false h4, h1, h2]
    simp -implicitDefEqProofs (maxSteps := 2000000) (disch := first|assumption|omega|rfl|(simp only[RD];done)|(simp only[RD];omega)) only [RN,Int.reduceBEq,Int.reduceBNe,Int.reduceLT,Int.reduceLE,Int.reduceAdd,Int.reduceSub,Int.reduceMul,Nat.reduceAdd,↓bc_flatz,↓bc_flat16,↓agg_bytez, p24_1, h1, h2]
    exact ⟨rfl, hk.put _ (by omega)⟩
/-! inodes -/
/-- Whether a text may be a name. -/
def nameOk (s : List UInt8) : Prop := s ≠ [] ∧ s.length ≤ 14 ∧ ∀ c ∈ s, c ≠ 0 ∧ c ≠ 47
end Go.Proofs.Ytchfpepbdnjhmaa
