/- Contracts of the package slab. -/
import Derived.Test.YtiaonndafhfkmaaAm34
import Derived.Test.YtiaonndafhfkmaaP1
import Derived.Test.YtiaonndafhfkmaaRuns
set_option linter.all false
set_option maxRecDepth 10000
namespace Go.Proofs.Ytiaonndafhfkmaa
open Go.Am
theorem inside_ {x y : Int} {σ : Store} {Q : Value → Store → Prop} (hy : 0 ≤ y) (hy2 : y ≤ 1024) (h : Q (.bool (decide (0 ≤ x ∧ x ≤ 1024 - y))) σ) : Does Try.prog 64 [.int .i64 x, .int .i64 y] σ Q := by
  refine d64 ?_
  by_cases h0 : 0 ≤ x
  · simp -implicitDefEqProofs (maxSteps := 2000000) (disch := first|assumption|omega|rfl|(simp only[RD];done)|(simp only[RD];omega)) only [RN,Int.reduceBEq,Int.reduceBNe,Int.reduceLT,Int.reduceLE,Int.reduceAdd,Int.reduceSub,Int.reduceMul,Nat.reduceAdd,↓bc_flatz,↓bc_flat16,↓agg_bytez, p64, decide_eq_true h0]
    simpa [h0] using h
  · simp -implicitDefEqProofs (maxSteps := 2000000) (disch := first|assumption|omega|rfl|(simp only[RD];done)|(simp only[RD];omega)) only [RN,Int.reduceBEq,Int.reduceBNe,Int.reduceLT,Int.reduceLE,Int.reduceAdd,Int.reduceSub,Int.reduceMul,Nat.reduceAdd,↓bc_flatz,↓bc_flat16,↓agg_bytez, p64, decide_eq_false h0]
    simpa [h0] using h
/-- A number of four bytes, as far as some of them are laid. -/
def set32 (b : List Int) (x : Nat) (y : Int) : Nat → List Int
  | 0 => b
  | i + 1 => (set32 b x y i).set (x + i) (IntKind.u8.wrap (y.fdiv (2 ^ (8 * i))))
theorem set32_len (b : List Int) (x : Nat) (y : Int) : ∀ i, (set32 b x y i).length = b.length
  | 0 => rfl
  | i + 1 => by simp [set32, set32_len b x y i]
theorem setU32_ {b : List Int} {x : Nat} {y : Int} (hb : b.length = 1024) (hx : x ≤ 1020) {σ : Store} {Q : Value → Store → Prop} (hq : Q (.agg ⟨bc (set32 b x y 4)⟩) σ) : Does Try.prog 44 [.agg ⟨bc b⟩, .int .i64 x, .int .u32 y] σ Q := by
  refine Does.pureT (r := .agg ⟨bc (set32 b x y 4)⟩) ?_ (by simp only [closedT, closed]; exact bc_scalar _) hq
  refine d44 ?_
  simp -implicitDefEqProofs (maxSteps := 2000000) (disch := first|assumption|omega|rfl|(simp only[RD];done)|(simp only[RD];omega)) only [RN,Int.reduceBEq,Int.reduceBNe,Int.reduceLT,Int.reduceLE,Int.reduceAdd,Int.reduceSub,Int.reduceMul,Nat.reduceAdd,↓bc_flatz,↓bc_flat16,↓agg_bytez, p44]
  refine inside_ (by omega) (by omega) ?_
  have h1 : (0 ≤ (x : Int) ∧ (x : Int) ≤ 1020) := by omega
  simp -implicitDefEqProofs (maxSteps := 2000000) (disch := first|assumption|omega|rfl|(simp only[RD];done)|(simp only[RD];omega)) only [RN,Int.reduceBEq,Int.reduceBNe,Int.reduceLT,Int.reduceLE,Int.reduceAdd,Int.reduceSub,Int.reduceMul,Nat.reduceAdd,↓bc_flatz,↓bc_flat16,↓agg_bytez, decide_eq_true h1]
  refine lop1 (fun k v s => ∃ i : Nat, k + i = 4 ∧ v = .int .i64 i ∧ s = (σ.push (.cells (bc (set32 b x y i)) none)).push (.cells (bc (zb)) none)) 4 ⟨0, rfl, rfl, rfl⟩ ?_
  rintro k v s next ⟨i, hi, rfl, rfl⟩ hn
  by_cases h4 : (i : Int) < 4
  · have h5 : ((x : Int) + i).toNat = x + i := by omega
    have h6 : (8 * (i : Int)).toNat = 8 * i := by omega
    have h7 : min (8 * i) IntKind.u32.bits = 8 * i := by show min (8 * i) 32 = _; omega
    have h8 := set32_len b x y i
    simp -implicitDefEqProofs (maxSteps := 2000000) (disch := first|assumption|omega|rfl|(simp only[RD];done)|(simp only[RD];omega)) only [RN,Int.reduceBEq,Int.reduceBNe,Int.reduceLT,Int.reduceLE,Int.reduceAdd,Int.reduceSub,Int.reduceMul,Nat.reduceAdd,↓bc_flatz,↓bc_flat16,↓agg_bytez, decide_eq_true h4, h5, h6, h7, Nat.mul_one, bc_len, bc_set, set32_len]
    exact hn _ _ (by omega) ⟨i + 1, by omega, by congr 1, rfl⟩
  · have e : i = 4 := by omega
    subst e
    have h8 := set32_len b x y 4
    simp -implicitDefEqProofs (maxSteps := 2000000) (disch := first|assumption|omega|rfl|(simp only[RD];done)|(simp only[RD];omega)) only [RN,Int.reduceBEq,Int.reduceBNe,Int.reduceLT,Int.reduceLE,Int.reduceAdd,Int.reduceSub,Int.reduceMul,Nat.reduceAdd,↓bc_flatz,↓bc_flat16,↓agg_bytez, decide_eq_false h4]
    exact ⟨by first | rfl | trivial, ((Keeps.refl σ).push _).push _⟩
theorem u32_wrap {n : Int} (h0 : 0 ≤ n) (h1 : n < 4294967296) : IntKind.u32.wrap n = n := by
  have : n % 4294967296 = n := Int.emod_eq_of_lt h0 h1
  simpa [IntKind.wrap, IntKind.bits, IntKind.signed] using this
theorem u8_wrap (n : Int) : IntKind.u8.wrap n = n % 256 := by simp [IntKind.wrap, IntKind.bits, IntKind.signed]
theorem i_or32 {a b : Nat} (i : Nat) (ha : a < 2 ^ i) (hb : b < 256) (hi : i ≤ 24) : binI .or (.int .u32 (a : Nat)) (.int .u32 ((2 ^ i * b : Nat) : Int)) = some (.int .u32 ((a + 2 ^ i * b : Nat) : Int)) := by
  have hp : 2 ^ i ≤ 2 ^ 24 := Nat.pow_le_pow_right (by omega) hi
  have hm : 2 ^ i * b ≤ 2 ^ i * 255 := Nat.mul_le_mul_left _ (by omega)
  have h1 : a < 4294967296 := by omega
  have h2 : 2 ^ i * b < 4294967296 := by omega
  have h3 : a + 2 ^ i * b < 4294967296 := by omega
  have e1 : (BitVec.ofInt 32 (a : Nat)).toNat = a := by simp [BitVec.toNat_ofInt]; omega
  have e0 : ∀ z : Nat, z < 4294967296 → (BitVec.ofInt 32 ((z : Nat) : Int)).toNat = z := fun z hz => by simp [BitVec.toNat_ofInt]; omega
  have e2 : (BitVec.ofInt 32 ((2 ^ i * b : Nat) : Int)).toNat = 2 ^ i * b := e0 _ h2
  have e3 : a ||| 2 ^ i * b = a + 2 ^ i * b := by
    rw [Nat.or_comm, ← Nat.two_pow_add_eq_or_of_lt ha, Nat.add_comm]
  have : intOp .or .u32 ((a : Nat) : Int) ((2 ^ i * b : Nat) : Int) = some (.int .u32 (IntKind.u32.wrap ((BitVec.ofInt 32 (a : Nat) ||| BitVec.ofInt 32 ((2 ^ i * b : Nat) : Int)).toNat : Nat))) := rfl
  show intOp .or .u32 _ _ = _
  rw [this, BitVec.toNat_or, e1, e2, e3, u32_wrap (by omega) (by omega)]
theorem i_or32' {a b : Nat} (i p : Nat) (hp : 2 ^ i = p) (ha : a < p) (hb : b < 256) (hi : i ≤ 24) : binI .or (.int .u32 (a : Nat)) (.int .u32 ((p * b : Nat) : Int)) = some (.int .u32 ((a + p * b : Nat) : Int)) := by
  subst hp; exact i_or32 i ha hb hi
/-- The number of four bytes. -/
def u32 (b : List Nat) : Nat := b.getD 0 0 + 256 * b.getD 1 0 + 65536 * b.getD 2 0 + 16777216 * b.getD 3 0
theorem u32_ {b : List Int} {x : Nat} {c : List Nat} (hb : b.length = 1024) (hx : x ≤ 1020) (hc : c.length = 4) (h : (b.drop x).take 4 = c.map fun n : Nat => (n : Int)) (hr : ∀ n ∈ c, n < 256) {σ : Store} {Q : Value → Store → Prop} (hq : Q (.int .u32 (u32 c)) σ) : Does Try.prog 45 [.agg ⟨bc b⟩, .int .i64 x] σ Q := by
  refine Does.pureT (r := .int .u32 (u32 c)) ?_ rfl hq
  refine d45 ?_
  simp -implicitDefEqProofs (maxSteps := 2000000) (disch := first|assumption|omega|rfl|(simp only[RD];done)|(simp only[RD];omega)) only [RN,Int.reduceBEq,Int.reduceBNe,Int.reduceLT,Int.reduceLE,Int.reduceAdd,Int.reduceSub,Int.reduceMul,Nat.reduceAdd,↓bc_flatz,↓bc_flat16,↓agg_bytez, p45]
  refine inside_ (by omega) (by omega) ?_
  have h1 : (0 ≤ (x : Int) ∧ (x : Int) ≤ 1020) := by omega
  match c, hc with
  | [n0, n1, n2, n3], _ =>
    have key : ∀ i, i < 4 → (bc b)[x + i]? = some (.int .u8 (([n0, n1, n2, n3].getD i 0 : Nat) : Int)) := fun i hi => by
      have e : ((b.drop x).take 4)[i]? = ([n0, n1, n2, n3].map fun n : Nat => (n : Int))[i]? := by rw [h]
      rw [List.getElem?_take, if_pos hi, List.getElem?_drop] at e
      rw [bc_get, e]
      match i, hi with
      | 0, _ => rfl
      | 1, _ => rfl
      | 2, _ => rfl
      | 3, _ => rfl
    have r0 := hr n0 (by simp)
    have r1 := hr n1 (by simp)
    have r2 := hr n2 (by simp)
    have r3 := hr n3 (by simp)
    have k0 := key 0 (by omega)
    have k1 := key 1 (by omega)
    have k2 := key 2 (by omega)
    have k3 := key 3 (by omega)
    simp only [Nat.add_zero, List.getD_cons_zero, List.getD_cons_succ] at k0 k1 k2 k3
    have t0 : ((x : Nat) : Int).toNat = x := by omega
    have t1 : ((x : Int) + 1).toNat = x + 1 := by omega
    have t2 : ((x : Int) + 2).toNat = x + 2 := by omega
    have t3 : ((x : Int) + 3).toNat = x + 3 := by omega
    have w0 : IntKind.u32.wrap (n0 : Int) = n0 := u32_wrap (by omega) (by omega)
    have w1 : IntKind.u32.wrap (n1 : Int) = n1 := u32_wrap (by omega) (by omega)
    have w2 : IntKind.u32.wrap (n2 : Int) = n2 := u32_wrap (by omega) (by omega)
    have w3 : IntKind.u32.wrap (n3 : Int) = n3 := u32_wrap (by omega) (by omega)
    have m1 : IntKind.u32.wrap ((n1 : Int) * 2 ^ (min (Int.toNat 8) IntKind.u32.bits)) = ((256 * n1 : Nat) : Int) := by
      have e : ((n1 : Int) * 2 ^ (min (Int.toNat 8) IntKind.u32.bits)) = ((256 * n1 : Nat) : Int) := by
        show ((n1 : Int) * 256) = _; omega
      rw [e]; exact u32_wrap (by omega) (by omega)
    have m2 : IntKind.u32.wrap ((n2 : Int) * 2 ^ (min (Int.toNat 16) IntKind.u32.bits)) = ((65536 * n2 : Nat) : Int) := by
      have e : ((n2 : Int) * 2 ^ (min (Int.toNat 16) IntKind.u32.bits)) = ((65536 * n2 : Nat) : Int) := by
        show ((n2 : Int) * 65536) = _; omega
      rw [e]; exact u32_wrap (by omega) (by omega)
    have m3 : IntKind.u32.wrap ((n3 : Int) * 2 ^ (min (Int.toNat 24) IntKind.u32.bits)) = ((16777216 * n3 : Nat) : Int) := by
      have e : ((n3 : Int) * 2 ^ (min (Int.toNat 24) IntKind.u32.bits)) = ((16777216 * n3 : Nat) : Int) := by
        show ((n3 : Int) * 16777216) = _; omega
      rw [e]; exact u32_wrap (by omega) (by omega)
    have o1 := i_or32' (a := n0) (b := n1) 8 256 rfl (by omega) r1 (by omega)
    have o2 := i_or32' (a := n0 + 256 * n1) (b := n2) 16 65536 rfl (by omega) r2 (by omega)
    have o3 := i_or32' (a := n0 + 256 * n1 + 65536 * n2) (b := n3) 24 16777216 rfl (by omega) r3 (by omega)
    simp -implicitDefEqProofs (maxSteps := 2000000) (disch := first|assumption|omega|rfl|(simp only[RD];done)|(simp only[RD];omega)) only [RN,Int.reduceBEq,Int.reduceBNe,Int.reduceLT,Int.reduceLE,Int.reduceAdd,Int.reduceSub,Int.reduceMul,Nat.reduceAdd,↓bc_flatz,↓bc_flat16,↓agg_bytez, decide_eq_true h1, Nat.mul_one, bc_len, k0, k1, k2, k3, t0, t1, t2, t3, w0, w1, w2, w3, m1, m2, m3, o1, o2, o3]
    exact ⟨rfl, (Keeps.refl σ).push _⟩
end Go.Proofs.Ytiaonndafhfkmaa
