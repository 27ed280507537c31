/- Contracts of the package slab. -/
import Derived.Test.YtchfpepbdnjhmaaAm34
import Derived.Test.YtchfpepbdnjhmaaP1
import Derived.Test.YtchfpepbdnjhmaaRuns
set_option linter.all false
set_option maxRecDepth 10000
namespace Go.Proofs.Ytchfpepbdnjhmaa
open Go.Am
theorem inside_ {x y : Int} {σ : Store} {Q : Value → Store → Prop} (hy : 0 ≤ y) (hy2 : y ≤ 1024) (h : Q (.bool (decide (0 ≤ x ∧ x ≤ 1024 - y))) σ) : Does Try.prog 49 [.int .i64 x, .int .i64 y] σ Q := by
  refine d49 ?_
  by_cases h0 : 0 ≤ x
  · simp -implicitDefEqProofs (maxSteps := 2000000) (disch := first|assumption|omega|rfl|(simp only[RD];done)|(simp only[RD];omega)) only [RN,Int.reduceBEq,Int.reduceBNe,Int.reduceLT,Int.reduceLE,Int.reduceAdd,Int.reduceSub,Int.reduceMul,Nat.reduceAdd,↓bc_flatz,↓bc_flat16,↓agg_bytez, p49, decide_eq_true h0]
    simpa [h0] using h
  · simp -implicitDefEqProofs (maxSteps := 2000000) (disch := first|assumption|omega|rfl|(simp only[RD];done)|(simp only[RD];omega)) only [RN,Int.reduceBEq,Int.reduceBNe,Int.reduceLT,Int.reduceLE,Int.reduceAdd,Int.reduceSub,Int.reduceMul,Nat.reduceAdd,↓bc_flatz,↓bc_flat16,↓agg_bytez, p49, decide_eq_false h0]
    simpa [h0] using h
def set16 (b : List Int) (x : Nat) (y : Int) : List Int := (b.set x (IntKind.u8.wrap y)).set (x + 1) (IntKind.u8.wrap (y.fdiv 256))
theorem set16_len (b : List Int) (x : Nat) (y : Int) : (set16 b x y).length = b.length := by simp [set16]
theorem setU16_ {b : List Int} {x : Nat} {y : Int} (hb : b.length = 1024) (hx : x ≤ 1022) {σ : Store} {Q : Value → Store → Prop} (hq : Q (.agg ⟨bc (set16 b x y)⟩) σ) : Does Try.prog 51 [.agg ⟨bc b⟩, .int .i64 x, .int .u16 y] σ Q := by
  refine Does.pureT (r := .agg ⟨bc (set16 b x y)⟩) ?_ (by simp only [closedT, closed]; exact bc_scalar _) hq
  refine d51 ?_
  simp -implicitDefEqProofs (maxSteps := 2000000) (disch := first|assumption|omega|rfl|(simp only[RD];done)|(simp only[RD];omega)) only [RN,Int.reduceBEq,Int.reduceBNe,Int.reduceLT,Int.reduceLE,Int.reduceAdd,Int.reduceSub,Int.reduceMul,Nat.reduceAdd,↓bc_flatz,↓bc_flat16,↓agg_bytez, p51]
  refine inside_ (by omega) (by omega) ?_
  have h1 : (0 ≤ (x : Int) ∧ (x : Int) ≤ 1022) := by omega
  have h2 : ((x : Int) + 1).toNat = x + 1 := by omega
  have h3 : (2 : Int) ^ min (Int.toNat 8) IntKind.u16.bits = 256 := rfl
  simp -implicitDefEqProofs (maxSteps := 2000000) (disch := first|assumption|omega|rfl|(simp only[RD];done)|(simp only[RD];omega)) only [RN,Int.reduceBEq,Int.reduceBNe,Int.reduceLT,Int.reduceLE,Int.reduceAdd,Int.reduceSub,Int.reduceMul,Nat.reduceAdd,↓bc_flatz,↓bc_flat16,↓agg_bytez, decide_eq_true h1, Int.toNat_natCast, h2, Nat.mul_one, bc_len, bc_set, List.length_set, List.length_replicate, h3, set16]
  exact ⟨by first | rfl | trivial, ((Keeps.refl σ).push _).push _⟩
/-- A number of four bytes, as far as some of them are laid. -/
def set32 (b : List Int) (x : Nat) (y : Int) : Nat → List Int
  | 0 => b
  | i + 1 => (set32 b x y i).set (x + i) (IntKind.u8.wrap (y.fdiv (2 ^ (8 * i))))
theorem set32_len (b : List Int) (x : Nat) (y : Int) : ∀ i, (set32 b x y i).length = b.length
  | 0 => rfl
  | i + 1 => by simp [set32, set32_len b x y i]
theorem setU32_ {b : List Int} {x : Nat} {y : Int} (hb : b.length = 1024) (hx : x ≤ 1020) {σ : Store} {Q : Value → Store → Prop} (hq : Q (.agg ⟨bc (set32 b x y 4)⟩) σ) : Does Try.prog 38 [.agg ⟨bc b⟩, .int .i64 x, .int .u32 y] σ Q := by
  refine Does.pureT (r := .agg ⟨bc (set32 b x y 4)⟩) ?_ (by simp only [closedT, closed]; exact bc_scalar _) hq
  refine d38 ?_
  simp -implicitDefEqProofs (maxSteps := 2000000) (disch := first|assumption|omega|rfl|(simp only[RD];done)|(simp only[RD];omega)) only [RN,Int.reduceBEq,Int.reduceBNe,Int.reduceLT,Int.reduceLE,Int.reduceAdd,Int.reduceSub,Int.reduceMul,Nat.reduceAdd,↓bc_flatz,↓bc_flat16,↓agg_bytez, p38]
  refine inside_ (by omega) (by omega) ?_
  have h1 : (0 ≤ (x : Int) ∧ (x : Int) ≤ 1020) := by omega
  simp -implicitDefEqProofs (maxSteps := 2000000) (disch := first|assumption|omega|rfl|(simp only[RD];done)|(simp only[RD];omega)) only [RN,Int.reduceBEq,Int.reduceBNe,Int.reduceLT,Int.reduceLE,Int.reduceAdd,Int.reduceSub,Int.reduceMul,Nat.reduceAdd,↓bc_flatz,↓bc_flat16,↓agg_bytez, decide_eq_true h1]
  refine lop1 (fun k v s => ∃ i : Nat, k + i = 4 ∧ v = .int .i64 i ∧ s = (σ.push (.cells (bc (set32 b x y i)) none)).push (.cells (bc (zb)) none)) 4 ⟨0, rfl, rfl, rfl⟩ ?_
  rintro k v s next ⟨i, hi, rfl, rfl⟩ hn
  by_cases h4 : (i : Int) < 4
  · have h5 : ((x : Int) + i).toNat = x + i := by omega
    have h6 : (8 * (i : Int)).toNat = 8 * i := by omega
    have h7 : min (8 * i) IntKind.u32.bits = 8 * i := by show min (8 * i) 32 = _; omega
    have h8 := set32_len b x y i
    simp -implicitDefEqProofs (maxSteps := 2000000) (disch := first|assumption|omega|rfl|(simp only[RD];done)|(simp only[RD];omega)) only [RN,Int.reduceBEq,Int.reduceBNe,Int.reduceLT,Int.reduceLE,Int.reduceAdd,Int.reduceSub,Int.reduceMul,Nat.reduceAdd,↓bc_flatz,↓bc_flat16,↓agg_bytez, decide_eq_true h4, h5, h6, h7, Nat.mul_one, bc_len, bc_set, set32_len]
    exact hn _ _ (by omega) ⟨i + 1, by omega, by congr 1, rfl⟩
  · have e : i = 4 := by omega
    subst e
    have h8 := set32_len b x y 4
    simp -implicitDefEqProofs (maxSteps := 2000000) (disch := first|assumption|omega|rfl|(simp only[RD];done)|(simp only[RD];omega)) only [RN,Int.reduceBEq,Int.reduceBNe,Int.reduceLT,Int.reduceLE,Int.reduceAdd,Int.reduceSub,Int.reduceMul,Nat.reduceAdd,↓bc_flatz,↓bc_flat16,↓agg_bytez, decide_eq_false h4]
    exact ⟨by first | rfl | trivial, ((Keeps.refl σ).push _).push _⟩
theorem span_ {x n : Nat} (h : x + n ≤ 1024) {σ : Store} {Q : Value → Store → Prop} (hq : Q (.tuple #[.int .i64 (if n = 0 then 0 else (x : Int)), .int .i64 (if n = 0 then 0 else ((x + n : Nat) : Int))]) σ) : Does Try.prog 48 [.int .i64 x, .int .i64 n] σ Q := by
  refine d48 ?_
  by_cases h0 : n = 0
  · subst h0
    simp -implicitDefEqProofs (maxSteps := 2000000) (disch := first|assumption|omega|rfl|(simp only[RD];done)|(simp only[RD];omega)) only [RN,Int.reduceBEq,Int.reduceBNe,Int.reduceLT,Int.reduceLE,Int.reduceAdd,Int.reduceSub,Int.reduceMul,Nat.reduceAdd,↓bc_flatz,↓bc_flat16,↓agg_bytez, p48, decide_eq_true (show ((0 : Nat) : Int) < 1 by omega)]
    simpa using hq
  · have h1 : ¬ (n : Int) < 1 := by omega
    have h2 : ¬ (1024 : Int) ≤ x := by omega
    have h3 : ¬ (x : Int) < 0 := by omega
    have e : ((x + n : Nat) : Int) = x + n := by omega
    rw [if_neg h0, if_neg h0, e] at hq
    have hm : max (x : Int) 0 = x := by omega
    have hm2 : max (x : Int) (x + n) = x + n := by omega
    by_cases h4 : (n : Int) < 1024 - x
    · simp -implicitDefEqProofs (maxSteps := 2000000) (disch := first|assumption|omega|rfl|(simp only[RD];done)|(simp only[RD];omega)) only [RN,Int.reduceBEq,Int.reduceBNe,Int.reduceLT,Int.reduceLE,Int.reduceAdd,Int.reduceSub,Int.reduceMul,Nat.reduceAdd,↓bc_flatz,↓bc_flat16,↓agg_bytez, p48, decide_eq_false h1, decide_eq_false h2, decide_eq_false h3, decide_eq_true h4, hm, hm2]
      exact hq
    · have e2 : (x : Int) + n = 1024 := by omega
      have hm3 : max (x : Int) 1024 = 1024 := by omega
      rw [e2] at hq
      simp -implicitDefEqProofs (maxSteps := 2000000) (disch := first|assumption|omega|rfl|(simp only[RD];done)|(simp only[RD];omega)) only [RN,Int.reduceBEq,Int.reduceBNe,Int.reduceLT,Int.reduceLE,Int.reduceAdd,Int.reduceSub,Int.reduceMul,Nat.reduceAdd,↓bc_flatz,↓bc_flat16,↓agg_bytez, p48, decide_eq_false h1, decide_eq_false h2, decide_eq_false h3, decide_eq_false h4, hm, hm3]
      exact hq
/-- Bytes laid over others. -/
def layB (b : List Int) (x : Nat) (l : List Int) : List Int := b.take x ++ l ++ b.drop (x + l.length)
theorem layB_len {b l : List Int} {x : Nat} (h : x + l.length ≤ b.length) : (layB b x l).length = b.length := by simp [layB]; omega
theorem layB_set {b l : List Int} {x i : Nat} {v : Int} (h : x + i < b.length) (hi : l[i]? = some v) : (layB b x (l.take i)).set (x + i) v = layB b x (l.take (i + 1)) := by
  have hil : i < l.length := (List.getElem?_eq_some_iff.1 hi).1
  apply List.ext_getElem?
  intro k
  simp only [layB, List.getElem?_set, List.getElem?_append, List.length_append, List.length_take, List.getElem?_take, List.getElem?_drop]
  have e1 : min x b.length = x := by omega
  have e2 : min i l.length = i := by omega
  have e3 : min (i + 1) l.length = i + 1 := by omega
  simp only [e1, e2, e3, List.length_drop]
  by_cases hk : k = x + i
  · subst hk
    rw [if_pos rfl, if_pos (by omega), if_pos (by omega), if_neg (by omega), if_pos (by omega), ← hi]
    congr 1; omega
  · rw [if_neg (fun e => hk e.symm)]
    by_cases h1 : k < x
    · simp [h1, show k < x + i by omega, show k < x + (i + 1) by omega]
    · by_cases h2 : k < x + i
      · rw [if_pos h2, if_neg h1, if_pos (by omega), if_pos (by omega), if_neg h1, if_pos (by omega)]
      · rw [if_neg h2, if_neg (by omega)]
        congr 1; omega
theorem lay_ {b l : List Int} {x : Nat} (hb : b.length = 1024) (hx : x + l.length ≤ 1024) {σ : Store} {v : Value} (hv : SlR σ 1 v l.length (bc l)) {Q : Value → Store → Prop} (hq : Q (.agg ⟨bc (layB b x l)⟩) σ) : Does Try.prog 37 [.agg ⟨bc b⟩, .int .i64 x, v] σ Q := by
  refine Does.pureT (r := .agg ⟨bc (layB b x l)⟩) ?_ (by simp only [closedT, closed]; exact bc_scalar _) hq
  refine d37 ?_
  simp -implicitDefEqProofs (maxSteps := 2000000) (disch := first|assumption|omega|rfl|(simp only[RD];done)|(simp only[RD];omega)) only [RN,Int.reduceBEq,Int.reduceBNe,Int.reduceLT,Int.reduceLE,Int.reduceAdd,Int.reduceSub,Int.reduceMul,Nat.reduceAdd,↓bc_flatz,↓bc_flat16,↓agg_bytez, p37, hv.len]
  refine span_ hx ?_
  simp -implicitDefEqProofs (maxSteps := 2000000) (disch := first|assumption|omega|rfl|(simp only[RD];done)|(simp only[RD];omega)) only [RN,Int.reduceBEq,Int.reduceBNe,Int.reduceLT,Int.reduceLE,Int.reduceAdd,Int.reduceSub,Int.reduceMul,Nat.reduceAdd,↓bc_flatz,↓bc_flat16,↓agg_bytez]
  by_cases h0 : l.length = 0
  · have hl : l = [] := List.eq_nil_of_length_eq_zero h0
    subst hl
    simp only [List.length_nil, if_true]
    refine lop1 (fun k v s => k = 0 ∧ v = .int .i64 0 ∧ s = (σ.push (.cells (bc b) none)).push (.cells (bc (zb)) none)) 0 ⟨rfl, rfl, rfl⟩ ?_
    rintro k v s next ⟨rfl, rfl, rfl⟩ hn
    simp -implicitDefEqProofs (maxSteps := 2000000) (disch := first|assumption|omega|rfl|(simp only[RD];done)|(simp only[RD];omega)) only [RN,Int.reduceBEq,Int.reduceBNe,Int.reduceLT,Int.reduceLE,Int.reduceAdd,Int.reduceSub,Int.reduceMul,Nat.reduceAdd,↓bc_flatz,↓bc_flat16,↓agg_bytez, decide_eq_false (show ¬ (0 : Int) < 0 by omega)]
    have e : layB b x [] = b := by simp [layB]
    rw [e]
    exact ⟨by first | rfl | trivial, ((Keeps.refl σ).push _).push _⟩
  · rw [if_neg h0, if_neg h0]
    refine lop1 (fun k v s => ∃ i : Nat, k + i = l.length ∧ v = .int .i64 ((x + i : Nat) : Int) ∧ s = (σ.push (.cells (bc (layB b x (l.take i))) none)).push (.cells (bc (zb)) none)) l.length ⟨0, by omega, by simp, by simp only [List.take_zero, layB, List.append_nil, List.length_nil, Nat.add_zero, List.take_append_drop]⟩ ?_
    rintro k u s next ⟨i, hi, rfl, rfl⟩ hn
    have hlb : (layB b x (l.take i)).length = 1024 := by rw [layB_len (by simp; omega), hb]
    by_cases h4 : i < l.length
    · have h5 : ((x + i : Nat) : Int) < ((x + l.length : Nat) : Int) := by omega
      have h6 : ((x + i : Nat) : Int) - (x : Int) = (i : Nat) := by omega
      have h7 : (((x + i : Nat) : Int)).toNat = x + i := by omega
      have hv2 := hv.keeps (σ' := (σ.push (.cells (bc (layB b x (l.take i))) none)).push (.cells (bc (zb)) none)) fun i o hi => (((Keeps.refl σ).push _).push _).get hi
      obtain ⟨a, o, g1, g2, g3, g4⟩ := hv2.at (by omega) h4
      have hget : (bc l)[i * 1]? = some (.int .u8 l[i]) := by rw [Nat.mul_one, bc_get, List.getElem?_eq_getElem h4]; rfl
      have g5 := g4
      rw [hget] at g5
      simp -implicitDefEqProofs (maxSteps := 2000000) (disch := first|assumption|omega|rfl|(simp only[RD];done)|(simp only[RD];omega)) only [RN,Int.reduceBEq,Int.reduceBNe,Int.reduceLT,Int.reduceLE,Int.reduceAdd,Int.reduceSub,Int.reduceMul,Nat.reduceAdd,↓bc_flatz,↓bc_flat16,↓agg_bytez, decide_eq_true h5, h6, g1, g5, h7, Nat.mul_one, bc_set, layB_set (l := l) (b := b) (x := x) (i := i) (v := l[i]) (by omega) (List.getElem?_eq_getElem h4)]
      refine hn _ _ (by omega) ⟨i + 1, by omega, by congr 1, rfl⟩
    · have e : i = l.length := by omega
      subst e
      simp -implicitDefEqProofs (maxSteps := 2000000) (disch := first|assumption|omega|rfl|(simp only[RD];done)|(simp only[RD];omega)) only [RN,Int.reduceBEq,Int.reduceBNe,Int.reduceLT,Int.reduceLE,Int.reduceAdd,Int.reduceSub,Int.reduceMul,Nat.reduceAdd,↓bc_flatz,↓bc_flat16,↓agg_bytez, decide_eq_false (show ¬ ((x + l.length : Nat) : Int) < ((x + l.length : Nat) : Int) by omega)]
      rw [List.take_length]
      exact ⟨by first | rfl | trivial, ((Keeps.refl σ).push _).push _⟩
end Go.Proofs.Ytchfpepbdnjhmaa
