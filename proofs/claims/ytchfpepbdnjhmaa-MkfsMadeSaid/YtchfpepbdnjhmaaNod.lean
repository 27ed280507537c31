/- Contracts of the packages node, entry. -/
import Derived.Test.YtchfpepbdnjhmaaEnc
set_option linter.all false
set_option maxRecDepth 100000
namespace Go.Proofs.Ytchfpepbdnjhmaa
open Go.Am
structure Nd where
  kind : Int
  links : Int
  size : Int
  blocks : Int
  direct : List Int
  single : Int
  double : Int
def uc (l : List Int) : List Value := l.map (.int .u32)
def Nd.cells (n : Nd) : List Value := .int .u16 n.kind :: .int .u16 n.links :: .int .u32 n.size :: .int .u32 n.blocks :: (uc n.direct ++ [.int .u32 n.single, .int .u32 n.double])
def Nd.head (n : Nd) : List Int := set32 (set32 (set16 (set16 zb 0 n.kind) 2 n.links) 4 n.size 4) 8 n.blocks 4
def Nd.part (n : Nd) : Nat → List Int
  | 0 => n.head
  | i + 1 => set32 (n.part i) (12 + 4 * i) (n.direct.getD i 0) 4
def Nd.bytes (n : Nd) : List Int := (set32 (set32 (n.part 10) 52 n.single 4) 56 n.double 4).take 64
theorem Nd.head_len (n : Nd) : n.head.length = 1024 := by simp [Nd.head, set32_len, set16_len, zb_len]
theorem Nd.part_len (n : Nd) : ∀ i, (n.part i).length = 1024
  | 0 => n.head_len
  | i + 1 => by simp [Nd.part, set32_len, n.part_len i]
theorem Nd.bytes_len (n : Nd) : n.bytes.length = 64 := by simp [Nd.bytes, set32_len, n.part_len]
theorem node_ {n : Nd} (hn : n.direct.length = 10) {σ : Store} {Q : Value → Store → Prop} (hq : Q (.agg ⟨bc n.bytes⟩) σ) : Does Try.prog 41 [.agg ⟨n.cells⟩] σ Q := by
  refine Does.pureT (r := .agg ⟨bc n.bytes⟩) ?_ (by simp only [closedT, closed, bc_scalar]) hq
  refine d41 ?_
  have c0 : n.cells[0]? = some (.int .u16 n.kind) := rfl
  have c1 : n.cells[1]? = some (.int .u16 n.links) := rfl
  have c2 : n.cells[2]? = some (.int .u32 n.size) := rfl
  have c3 : n.cells[3]? = some (.int .u32 n.blocks) := rfl
  have c14 : n.cells[14]? = some (.int .u32 n.single) := by simp [Nd.cells, uc, hn]
  have c15 : n.cells[15]? = some (.int .u32 n.double) := by simp [Nd.cells, uc, hn]
  have cd : rdPart (some (.cells n.cells none)) 4 10 = some (.agg ⟨uc n.direct⟩) := by
    have h1 : Nat.ble (4 + 10) n.cells.length = true := Nat.ble_eq_true_of_le (by simp [Nd.cells, uc, hn])
    simp only [rdPart, part?, h1, cond_true]
    simp [Nd.cells, uc, hn]
  simp -implicitDefEqProofs (maxSteps := 2000000) (disch := first|assumption|omega|rfl|(simp only[RD];done)|(simp only[RD];omega)) only [RN,Int.reduceBEq,Int.reduceBNe,Int.reduceLT,Int.reduceLE,Int.reduceAdd,Int.reduceSub,Int.reduceMul,Nat.reduceAdd,↓bc_flatz,↓bc_flat16,↓agg_bytez, p41, c0]
  refine setU16_ (x := 0) zb_len (by omega) ?_
  have l1 : (set16 zb 0 n.kind).length = 1024 := by rw [set16_len, zb_len]
  simp -implicitDefEqProofs (maxSteps := 2000000) (disch := first|assumption|omega|rfl|(simp only[RD];done)|(simp only[RD];omega)) only [RN,Int.reduceBEq,Int.reduceBNe,Int.reduceLT,Int.reduceLE,Int.reduceAdd,Int.reduceSub,Int.reduceMul,Nat.reduceAdd,↓bc_flatz,↓bc_flat16,↓agg_bytez, l1, c1]
  refine setU16_ (x := 2) l1 (by omega) ?_
  have l2 : (set16 (set16 zb 0 n.kind) 2 n.links).length = 1024 := by rw [set16_len, l1]
  simp -implicitDefEqProofs (maxSteps := 2000000) (disch := first|assumption|omega|rfl|(simp only[RD];done)|(simp only[RD];omega)) only [RN,Int.reduceBEq,Int.reduceBNe,Int.reduceLT,Int.reduceLE,Int.reduceAdd,Int.reduceSub,Int.reduceMul,Nat.reduceAdd,↓bc_flatz,↓bc_flat16,↓agg_bytez, p41_3, l1, l2, c2]
  refine setU32_ (x := 4) l2 (by omega) ?_
  have l3 : (set32 (set16 (set16 zb 0 n.kind) 2 n.links) 4 n.size 4).length = 1024 := by rw [set32_len, l2]
  simp -implicitDefEqProofs (maxSteps := 2000000) (disch := first|assumption|omega|rfl|(simp only[RD];done)|(simp only[RD];omega)) only [RN,Int.reduceBEq,Int.reduceBNe,Int.reduceLT,Int.reduceLE,Int.reduceAdd,Int.reduceSub,Int.reduceMul,Nat.reduceAdd,↓bc_flatz,↓bc_flat16,↓agg_bytez, l2, l3, c3]
  refine setU32_ (x := 8) l3 (by omega) ?_
  have l4 : (set32 (set32 (set16 (set16 zb 0 n.kind) 2 n.links) 4 n.size 4) 8 n.blocks 4).length = 1024 := by rw [set32_len, l3]
  simp -implicitDefEqProofs (maxSteps := 2000000) (disch := first|assumption|omega|rfl|(simp only[RD];done)|(simp only[RD];omega)) only [RN,Int.reduceBEq,Int.reduceBNe,Int.reduceLT,Int.reduceLE,Int.reduceAdd,Int.reduceSub,Int.reduceMul,Nat.reduceAdd,↓bc_flatz,↓bc_flat16,↓agg_bytez, l3, l4, cd]
  simp -implicitDefEqProofs (maxSteps := 2000000) (disch := first|assumption|omega|rfl|(simp only[RD];done)|(simp only[RD];omega)) only [RN,Int.reduceBEq,Int.reduceBNe,Int.reduceLT,Int.reduceLE,Int.reduceAdd,Int.reduceSub,Int.reduceMul,Nat.reduceAdd,↓bc_flatz,↓bc_flat16,↓agg_bytez, p41_2, l4, cd]
  refine lop1 (fun k v s => ∃ i : Nat, k + i = 10 ∧ v = .int .i64 i ∧ Keeps σ s ∧ s.get σ.next = some (.cells n.cells none) ∧ s.get (σ.next + 1) = some (.cells (bc (List.replicate 64 0)) none) ∧ s.get (σ.next + 1 + 1) = some (.cells (bc (n.part i)) none)) 10 ⟨0, rfl, rfl, ?_, ?_, ?_, ?_⟩ ?_
  · exact (((Keeps.refl σ).push _).push _).push _
  · simp -implicitDefEqProofs (maxSteps := 2000000) (disch := first|assumption|omega|rfl|(simp only[RD];done)|(simp only[RD];omega)) only [RN,Int.reduceBEq,Int.reduceBNe,Int.reduceLT,Int.reduceLE,Int.reduceAdd,Int.reduceSub,Int.reduceMul,Nat.reduceAdd,↓bc_flatz,↓bc_flat16,↓agg_bytez]
  · simp -implicitDefEqProofs (maxSteps := 2000000) (disch := first|assumption|omega|rfl|(simp only[RD];done)|(simp only[RD];omega)) only [RN,Int.reduceBEq,Int.reduceBNe,Int.reduceLT,Int.reduceLE,Int.reduceAdd,Int.reduceSub,Int.reduceMul,Nat.reduceAdd,↓bc_flatz,↓bc_flat16,↓agg_bytez]
  · simp -implicitDefEqProofs (maxSteps := 2000000) (disch := first|assumption|omega|rfl|(simp only[RD];done)|(simp only[RD];omega)) only [RN,Int.reduceBEq,Int.reduceBNe,Int.reduceLT,Int.reduceLE,Int.reduceAdd,Int.reduceSub,Int.reduceMul,Nat.reduceAdd,↓bc_flatz,↓bc_flat16,↓agg_bytez]
    rfl
  rintro k v s next ⟨i, hi, rfl, hk, h1, h2, h3⟩ hnx
  have h4 := n.part_len i
  by_cases h5 : (i : Int) < 10
  · have h6 : i < 10 := by omega
    have h7 : (uc n.direct)[i]? = some (.int .u32 (n.direct.getD i 0)) := by
      have : i < n.direct.length := by omega
      simp [uc, this]
    simp -implicitDefEqProofs (maxSteps := 2000000) (disch := first|assumption|omega|rfl|(simp only[RD];done)|(simp only[RD];omega)) only [RN,Int.reduceBEq,Int.reduceBNe,Int.reduceLT,Int.reduceLE,Int.reduceAdd,Int.reduceSub,Int.reduceMul,Nat.reduceAdd,↓bc_flatz,↓bc_flat16,↓agg_bytez, decide_eq_true h5, h7, h3]
    have h8 : (12 + 4 * (i : Int)) = ((12 + 4 * i : Nat) : Int) := by omega
    rw [h8]
    refine setU32_ h4 (by omega) ?_
    have h9 : (set32 (n.part i) (12 + 4 * i) (n.direct.getD i 0) 4).length = 1024 := by rw [set32_len, h4]
    simp -implicitDefEqProofs (maxSteps := 2000000) (disch := first|assumption|omega|rfl|(simp only[RD];done)|(simp only[RD];omega)) only [RN,Int.reduceBEq,Int.reduceBNe,Int.reduceLT,Int.reduceLE,Int.reduceAdd,Int.reduceSub,Int.reduceMul,Nat.reduceAdd,↓bc_flatz,↓bc_flat16,↓agg_bytez, h3, h9]
    refine hnx _ _ (by omega) ⟨i + 1, by omega, by congr 1, hk.put _ (by omega), ?_, ?_, ?_⟩
    · simp -implicitDefEqProofs (maxSteps := 2000000) (disch := first|assumption|omega|rfl|(simp only[RD];done)|(simp only[RD];omega)) only [RN,Int.reduceBEq,Int.reduceBNe,Int.reduceLT,Int.reduceLE,Int.reduceAdd,Int.reduceSub,Int.reduceMul,Nat.reduceAdd,↓bc_flatz,↓bc_flat16,↓agg_bytez, h1]
    · simp -implicitDefEqProofs (maxSteps := 2000000) (disch := first|assumption|omega|rfl|(simp only[RD];done)|(simp only[RD];omega)) only [RN,Int.reduceBEq,Int.reduceBNe,Int.reduceLT,Int.reduceLE,Int.reduceAdd,Int.reduceSub,Int.reduceMul,Nat.reduceAdd,↓bc_flatz,↓bc_flat16,↓agg_bytez, h2]
    · simp -implicitDefEqProofs (maxSteps := 2000000) (disch := first|assumption|omega|rfl|(simp only[RD];done)|(simp only[RD];omega)) only [RN,Int.reduceBEq,Int.reduceBNe,Int.reduceLT,Int.reduceLE,Int.reduceAdd,Int.reduceSub,Int.reduceMul,Nat.reduceAdd,↓bc_flatz,↓bc_flat16,↓agg_bytez]
      rfl
  · have e : i = 10 := by omega
    subst e
    simp -implicitDefEqProofs (maxSteps := 2000000) (disch := first|assumption|omega|rfl|(simp only[RD];done)|(simp only[RD];omega)) only [RN,Int.reduceBEq,Int.reduceBNe,Int.reduceLT,Int.reduceLE,Int.reduceAdd,Int.reduceSub,Int.reduceMul,Nat.reduceAdd,↓bc_flatz,↓bc_flat16,↓agg_bytez, decide_eq_false h5, h1, h2, h3, c14]
    simp -implicitDefEqProofs (maxSteps := 2000000) (disch := first|assumption|omega|rfl|(simp only[RD];done)|(simp only[RD];omega)) only [RN,Int.reduceBEq,Int.reduceBNe,Int.reduceLT,Int.reduceLE,Int.reduceAdd,Int.reduceSub,Int.reduceMul,Nat.reduceAdd,↓bc_flatz,↓bc_flat16,↓agg_bytez, p41_1, h1, h2, h3, c14]
    refine setU32_ (x := 52) h4 (by omega) ?_
    have h9 : (set32 (n.part 10) 52 n.single 4).length = 1024 := by rw [set32_len, h4]
    simp -implicitDefEqProofs (maxSteps := 2000000) (disch := first|assumption|omega|rfl|(simp only[RD];done)|(simp only[RD];omega)) only [RN,Int.reduceBEq,Int.reduceBNe,Int.reduceLT,Int.reduceLE,Int.reduceAdd,Int.reduceSub,Int.reduceMul,Nat.reduceAdd,↓bc_flatz,↓bc_flat16,↓agg_bytez, h1, h2, h3, h9, c15]
    refine setU32_ (x := 56) h9 (by omega) ?_
    have h10 : (set32 (set32 (n.part 10) 52 n.single 4) 56 n.double 4).length = 1024 := by rw [set32_len, h9]
    have hs : sliceAr 1024 1 (.pointer (some ⟨σ.next + 1 + 1, 0, none⟩)) none (some (.int .i64 64)) = some (.slice (some ⟨σ.next + 1 + 1, 0, none⟩) 64 1024) := slice_upto (m := 64) (by omega) (by omega)
    simp -implicitDefEqProofs (maxSteps := 2000000) (disch := first|assumption|omega|rfl|(simp only[RD];done)|(simp only[RD];omega)) only [RN,Int.reduceBEq,Int.reduceBNe,Int.reduceLT,Int.reduceLE,Int.reduceAdd,Int.reduceSub,Int.reduceMul,Nat.reduceAdd,↓bc_flatz,↓bc_flat16,↓agg_bytez, h1, h2, h3, h9, h10, c15, hs]
    rw [rdPart_bc (by omega)]
    have h11 : n.bytes.length = 64 := n.bytes_len
    have h12 : ((set32 (set32 (n.part 10) 52 n.single 4) 56 n.double 4).drop 0).take 64 = n.bytes := by rw [List.drop_zero]; rfl
    rw [h12]
    simp -implicitDefEqProofs (maxSteps := 2000000) (disch := first|assumption|omega|rfl|(simp only[RD];done)|(simp only[RD];omega)) only [RN,Int.reduceBEq,Int.reduceBNe,Int.reduceLT,Int.reduceLE,Int.reduceAdd,Int.reduceSub,Int.reduceMul,Nat.reduceAdd,↓bc_flatz,↓bc_flat16,↓agg_bytez, h1, h2, h3, h11]
    exact ⟨by first | rfl | trivial, (hk.put _ (by omega)).put _ (by omega)⟩
/-! entries -/
/-- A text's bytes as numbers. -/
def nums (s : ByteArray) : List Int := s.data.toList.map fun b => ((b.toNat : Nat) : Int)
theorem bytesV_bc (s : ByteArray) : bytesV s = bc (nums s) := by simp [bytesV, bc, nums]
def NameOk (s : ByteArray) : Prop := ∀ (σ : Store) (Q : Value → Store → Prop), Q (.int .i64 0) σ → Does Try.prog 52 [.string s] σ Q
/-- The bytes of an entry that is in use. -/
def entB (i : Int) (s : ByteArray) : List Int := (layB (set16 zb 0 i) 2 (nums s)).take 16
theorem entry_ {i : Int} {s : ByteArray} (hi : i ≠ 0) (hs : NameOk s) (hl : s.size ≤ 14) {σ : Store} {Q : Value → Store → Prop} (hq : Q (.tuple #[.agg ⟨bc (entB i s)⟩, .int .i64 0]) σ) : Does Try.prog 42 [.agg ⟨[.int .u16 i, .string s]⟩] σ Q := by
  refine Does.pureT (r := .tuple #[.agg ⟨bc (entB i s)⟩, .int .i64 0]) ?_ (by simp only [closedT, closed, List.all_cons, List.all_nil, bc_scalar, scalar, Bool.and_self]) hq
  refine d42 ?_
  have hb : (i == 0) = false := by simp [hi]
  (simp -implicitDefEqProofs (maxSteps := 2000000) (disch := first|assumption|omega|rfl|(simp only[RD];done)|(simp only[RD];omega)) only [RN,Int.reduceBEq,Int.reduceBNe,Int.reduceLT,Int.reduceLE,Int.reduceAdd,Int.reduceSub,Int.reduceMul,Nat.reduceAdd,↓bc_flatz,↓bc_flat16,↓agg_bytez, p42,  hb]; simp -implicitDefEqProofs (maxSteps := 2000000) (disch := first|assumption|omega|rfl|(simp only[RD];done)|(simp only[RD];omega)) only [RN,Int.reduceBEq,Int.reduceBNe,Int.reduceLT,Int.reduceLE,Int.reduceAdd,Int.reduceSub,Int.reduceMul,Nat.reduceAdd,↓bc_flatz,↓bc_flat16,↓agg_bytez, p42_2,  hb])
  refine hs _ _ ?_
  simp -implicitDefEqProofs (maxSteps := 2000000) (disch := first|assumption|omega|rfl|(simp only[RD];done)|(simp only[RD];omega)) only [RN,Int.reduceBEq,Int.reduceBNe,Int.reduceLT,Int.reduceLE,Int.reduceAdd,Int.reduceSub,Int.reduceMul,Nat.reduceAdd,↓bc_flatz,↓bc_flat16,↓agg_bytez, p42_1]
  refine setU16_ (x := 0) zb_len (by omega) ?_
  have l1 : (set16 zb 0 i).length = 1024 := by rw [set16_len, zb_len]
  have hcb : convB (.string s) = some (.cells (bc (nums s)) (some 1), fun i => .slice (some ⟨i, 0, some 1⟩) s.size s.size) := by simp [convB, bytesV_bc]
  have l2 : (nums s).length = s.size := by simp [nums]
  have l3 : (layB (set16 zb 0 i) 2 (nums s)).length = 1024 := by rw [layB_len (by omega), l1]
  have hsl : sliceAr 1024 1 (.pointer (some ⟨σ.next + 1 + 1 + 1, 0, none⟩)) none (some (.int .i64 16)) = some (.slice (some ⟨σ.next + 1 + 1 + 1, 0, none⟩) 16 1024) := slice_upto (m := 16) (by omega) (by omega)
  simp -implicitDefEqProofs (maxSteps := 2000000) (disch := first|assumption|omega|rfl|(simp only[RD];done)|(simp only[RD];omega)) only [RN,Int.reduceBEq,Int.reduceBNe,Int.reduceLT,Int.reduceLE,Int.reduceAdd,Int.reduceSub,Int.reduceMul,Nat.reduceAdd,↓bc_flatz,↓bc_flat16,↓agg_bytez, hcb]
  refine lay_ (b := set16 zb 0 i) (x := 2) (l := nums s) l1 (by omega) (by rw [l2]; exact SlR.new (.inr rfl) (get_push_eq (by simp only [Store.next_push])) (by rw [bc_len, l2, Nat.mul_one])) ?_
  simp -implicitDefEqProofs (maxSteps := 2000000) (disch := first|assumption|omega|rfl|(simp only[RD];done)|(simp only[RD];omega)) only [RN,Int.reduceBEq,Int.reduceBNe,Int.reduceLT,Int.reduceLE,Int.reduceAdd,Int.reduceSub,Int.reduceMul,Nat.reduceAdd,↓bc_flatz,↓bc_flat16,↓agg_bytez, l3, hsl]
  rw [rdPart_bc (by omega)]
  have l4 : (entB i s).length = 16 := by unfold entB; rw [List.length_take, l3]; rfl
  have h5 : ((layB (set16 zb 0 i) 2 (nums s)).drop 0).take 16 = entB i s := by rw [List.drop_zero]; rfl
  rw [h5]
  simp -implicitDefEqProofs (maxSteps := 2000000) (disch := first|assumption|omega|rfl|(simp only[RD];done)|(simp only[RD];omega)) only [RN,Int.reduceBEq,Int.reduceBNe,Int.reduceLT,Int.reduceLE,Int.reduceAdd,Int.reduceSub,Int.reduceMul,Nat.reduceAdd,↓bc_flatz,↓bc_flat16,↓agg_bytez, l3, l4]
  exact ⟨by first | rfl | trivial, ((((Keeps.refl σ).push _).push _).push _).push _⟩
theorem name1 : NameOk ⟨#[46]⟩ := by
  intro σ Q hq
  refine d52 ?_
  have e1 : binS .eql (.string ⟨#[46]⟩) (.string ⟨#[]⟩) = some (.bool false) := by rw [s_eql]; rfl
  have e2 : lenStr (.string ⟨#[46]⟩) = some (.int .i64 1) := by rfl
  simp -implicitDefEqProofs (maxSteps := 2000000) (disch := first|assumption|omega|rfl|(simp only[RD];done)|(simp only[RD];omega)) only [RN,Int.reduceBEq,Int.reduceBNe,Int.reduceLT,Int.reduceLE,Int.reduceAdd,Int.reduceSub,Int.reduceMul,Nat.reduceAdd,↓bc_flatz,↓bc_flat16,↓agg_bytez, p52, e1, e2]
  refine lop1 (fun k v s => ∃ i : Nat, k + i = 1 ∧ v = .int .i64 i ∧ s = σ) 1 ⟨0, rfl, rfl, rfl⟩ ?_
  rintro k v s next ⟨i, hi, rfl, rfl⟩ hn
  by_cases h : i = 0
  · subst h
    have e3 : indexStr (.string ⟨#[46]⟩) (.int .i64 ((0 : Nat) : Int)) = some (.int .u8 46) := by rfl
    simp -implicitDefEqProofs (maxSteps := 2000000) (disch := first|assumption|omega|rfl|(simp only[RD];done)|(simp only[RD];omega)) only [RN,Int.reduceBEq,Int.reduceBNe,Int.reduceLT,Int.reduceLE,Int.reduceAdd,Int.reduceSub,Int.reduceMul,Nat.reduceAdd,↓bc_flatz,↓bc_flat16,↓agg_bytez, e3, decide_eq_true (show ((0 : Nat) : Int) < 1 by omega)]
    exact hn _ _ (by omega) ⟨1, by omega, rfl, rfl⟩
  · have e : i = 1 := by omega
    subst e
    simp -implicitDefEqProofs (maxSteps := 2000000) (disch := first|assumption|omega|rfl|(simp only[RD];done)|(simp only[RD];omega)) only [RN,Int.reduceBEq,Int.reduceBNe,Int.reduceLT,Int.reduceLE,Int.reduceAdd,Int.reduceSub,Int.reduceMul,Nat.reduceAdd,↓bc_flatz,↓bc_flat16,↓agg_bytez, decide_eq_false (show ¬ ((1 : Nat) : Int) < 1 by omega)]
    exact hq
theorem name2 : NameOk ⟨#[46, 46]⟩ := by
  intro σ Q hq
  refine d52 ?_
  have e1 : binS .eql (.string ⟨#[46, 46]⟩) (.string ⟨#[]⟩) = some (.bool false) := by rw [s_eql]; rfl
  have e2 : lenStr (.string ⟨#[46, 46]⟩) = some (.int .i64 2) := by rfl
  simp -implicitDefEqProofs (maxSteps := 2000000) (disch := first|assumption|omega|rfl|(simp only[RD];done)|(simp only[RD];omega)) only [RN,Int.reduceBEq,Int.reduceBNe,Int.reduceLT,Int.reduceLE,Int.reduceAdd,Int.reduceSub,Int.reduceMul,Nat.reduceAdd,↓bc_flatz,↓bc_flat16,↓agg_bytez, p52, e1, e2]
  refine lop1 (fun k v s => ∃ i : Nat, k + i = 2 ∧ v = .int .i64 i ∧ s = σ) 2 ⟨0, rfl, rfl, rfl⟩ ?_
  rintro k v s next ⟨i, hi, rfl, rfl⟩ hn
  by_cases h : i < 2
  · have e3 : indexStr (.string ⟨#[46, 46]⟩) (.int .i64 (i : Int)) = some (.int .u8 46) := by
      have : i = 0 ∨ i = 1 := by omega
      rcases this with rfl | rfl <;> rfl
    simp -implicitDefEqProofs (maxSteps := 2000000) (disch := first|assumption|omega|rfl|(simp only[RD];done)|(simp only[RD];omega)) only [RN,Int.reduceBEq,Int.reduceBNe,Int.reduceLT,Int.reduceLE,Int.reduceAdd,Int.reduceSub,Int.reduceMul,Nat.reduceAdd,↓bc_flatz,↓bc_flat16,↓agg_bytez, e3, decide_eq_true (show (i : Int) < 2 by omega)]
    exact hn _ _ (by omega) ⟨i + 1, by omega, by congr 1, rfl⟩
  · have e : i = 2 := by omega
    subst e
    simp -implicitDefEqProofs (maxSteps := 2000000) (disch := first|assumption|omega|rfl|(simp only[RD];done)|(simp only[RD];omega)) only [RN,Int.reduceBEq,Int.reduceBNe,Int.reduceLT,Int.reduceLE,Int.reduceAdd,Int.reduceSub,Int.reduceMul,Nat.reduceAdd,↓bc_flatz,↓bc_flat16,↓agg_bytez, decide_eq_false (show ¬ ((2 : Nat) : Int) < 2 by omega)]
    exact hq
end Go.Proofs.Ytchfpepbdnjhmaa
