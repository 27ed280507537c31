/- Contracts of what the statements of chapter 08 lean on: numbers, lists, a fresh log. -/
import Derived.Test.YtkmalbaollffiaaL8
set_option linter.all false
set_option maxRecDepth 100000
set_option maxHeartbeats 400000
namespace Go.Proofs.Ytkmalbaollffiaa
open Go.Am
variable {σ : Store} {Q : Value → Store → Prop} {g : Geo}
theorem pick_ {x n : Int} (h0 : 0 < n) (h1 : n < 2 ^ 62) (hq : Q (.int .i64 (x % n)) σ) : Does Try.prog 14 [.int .i64 x, .int .i64 n] σ Q := by
  refine d14 ?_
  have e1 : x.tmod n = if x.tmod n < 0 then x % n - n else x % n := by
    rw [Int.tmod_eq_emod]
    have := Int.emod_nonneg x (show n ≠ 0 by omega)
    have h3 := Int.emod_lt_of_pos x h0
    (repeat' split) <;> omega
  have h2 := Int.emod_nonneg x (show n ≠ 0 by omega)
  have h3 := Int.emod_lt_of_pos x h0
  by_cases h : x.tmod n < 0
  · rw [if_pos h] at e1
    simp -implicitDefEqProofs (maxSteps := 2000000) (disch := first|assumption|omega|rfl|(simp only[RD];done)|(simp only[RD];omega)) only [RN,Int.reduceBEq,Int.reduceBNe,Int.reduceLT,Int.reduceLE,Int.reduceAdd,Int.reduceSub,Int.reduceMul,Nat.reduceAdd,↓bc_flatz,↓bc_flat16,↓agg_bytez, p14, decide_eq_true h]
    rw [show x.tmod n + n = x % n by omega]
    exact hq
  · rw [if_neg h] at e1
    simp -implicitDefEqProofs (maxSteps := 2000000) (disch := first|assumption|omega|rfl|(simp only[RD];done)|(simp only[RD];omega)) only [RN,Int.reduceBEq,Int.reduceBNe,Int.reduceLT,Int.reduceLE,Int.reduceAdd,Int.reduceSub,Int.reduceMul,Nat.reduceAdd,↓bc_flatz,↓bc_flat16,↓agg_bytez, p14, decide_eq_false h]
    rw [e1]
    exact hq
theorem in_ {v : Value} {l : List Int} {x : Int} (hv : SlR σ 1 v l.length (ic l)) (hl : l.length < 2 ^ 63) (hq : Q (.bool (decide (x ∈ l))) σ) : Does Try.prog 17 [v, .int .i64 x] σ Q := by
  refine d17 ?_
  simp -implicitDefEqProofs (maxSteps := 2000000) (disch := first|assumption|omega|rfl|(simp only[RD];done)|(simp only[RD];omega)) only [RN,Int.reduceBEq,Int.reduceBNe,Int.reduceLT,Int.reduceLE,Int.reduceAdd,Int.reduceSub,Int.reduceMul,Nat.reduceAdd,↓bc_flatz,↓bc_flat16,↓agg_bytez, p17, hv.len]
  refine lop1 (fun k w st => ∃ i : Nat, k + i = l.length ∧ w = .int .i64 i ∧ st = σ ∧ x ∉ l.take i) l.length ⟨0, rfl, rfl, rfl, by simp⟩ ?_
  rintro k w st next ⟨i, hi, rfl, rfl, hn⟩ hnx
  by_cases h2 : (i : Int) < l.length
  · have h3 : i < l.length := by omega
    obtain ⟨y, hy⟩ : ∃ y, l[i]? = some y := ⟨_, List.getElem?_eq_getElem h3⟩
    obtain ⟨a, o, q1, q2, q3⟩ := slr_get hv hy
    have htk : l.take (i + 1) = l.take i ++ [y] := by rw [List.take_succ, hy]; rfl
    by_cases hxy : y = x
    · have e : (y == x) = true := by simp [hxy]
      simp -implicitDefEqProofs (maxSteps := 2000000) (disch := first|assumption|omega|rfl|(simp only[RD];done)|(simp only[RD];omega)) only [RN,Int.reduceBEq,Int.reduceBNe,Int.reduceLT,Int.reduceLE,Int.reduceAdd,Int.reduceSub,Int.reduceMul,Nat.reduceAdd,↓bc_flatz,↓bc_flat16,↓agg_bytez, decide_eq_true h2, q1, q3, e]
      rw [decide_eq_true (show x ∈ l from hxy ▸ List.mem_of_getElem? hy)] at hq
      exact hq
    · have e : (y == x) = false := by simp [hxy]
      simp -implicitDefEqProofs (maxSteps := 2000000) (disch := first|assumption|omega|rfl|(simp only[RD];done)|(simp only[RD];omega)) only [RN,Int.reduceBEq,Int.reduceBNe,Int.reduceLT,Int.reduceLE,Int.reduceAdd,Int.reduceSub,Int.reduceMul,Nat.reduceAdd,↓bc_flatz,↓bc_flat16,↓agg_bytez, decide_eq_true h2, q1, q3, e]
      refine hnx _ _ (by omega) ⟨i + 1, by omega, by congr 1, rfl, ?_⟩
      rw [htk]
      simp only [List.mem_append, List.mem_singleton, not_or]
      exact ⟨hn, fun e => hxy e.symm⟩
  · have h3 : i = l.length := by omega
    subst h3
    rw [List.take_length] at hn
    simp -implicitDefEqProofs (maxSteps := 2000000) (disch := first|assumption|omega|rfl|(simp only[RD];done)|(simp only[RD];omega)) only [RN,Int.reduceBEq,Int.reduceBNe,Int.reduceLT,Int.reduceLE,Int.reduceAdd,Int.reduceSub,Int.reduceMul,Nat.reduceAdd,↓bc_flatz,↓bc_flat16,↓agg_bytez, decide_eq_false h2]
    rw [decide_eq_false hn] at hq
    exact hq
theorem where_ {g : Geo} (hq : Q (.agg ⟨ic g.of⟩) σ) : Does Try.prog 33 [.agg ⟨ic g.cells⟩, .int .i64 0] σ Q := by
  refine Does.pureT (r := .agg ⟨ic g.of⟩) ?_ (by simp [closedT, closed, ic, scalar]) hq
  refine d33 ?_
  have l9 : (ic g.of).length = 9 := by unfold Geo.of; split <;> rfl
  have l3 : (ic g.cells).length = 3 := rfl
  have u9 : (unrle [(9, .int .i64 0)]).length = 9 := rfl
  simp -implicitDefEqProofs (maxSteps := 2000000) (disch := first|assumption|omega|rfl|(simp only[RD];done)|(simp only[RD];omega)) only [RN,Int.reduceBEq,Int.reduceBNe,Int.reduceLT,Int.reduceLE,Int.reduceAdd,Int.reduceSub,Int.reduceMul,Nat.reduceAdd,↓bc_flatz,↓bc_flat16,↓agg_bytez, p33, l3]
  refine rof_ ?_
  simp -implicitDefEqProofs (maxSteps := 2000000) (disch := first|assumption|omega|rfl|(simp only[RD];done)|(simp only[RD];omega)) only [RN,Int.reduceBEq,Int.reduceBNe,Int.reduceLT,Int.reduceLE,Int.reduceAdd,Int.reduceSub,Int.reduceMul,Nat.reduceAdd,↓bc_flatz,↓bc_flat16,↓agg_bytez, u9, l9, p33_4, p33_3, p33_2, p33_1]
  refine ⟨trivial, ?_⟩
  exact (((Keeps.refl σ).push _).push _).push _
/-- The disk behind a log made anew. -/
def fresh0 (g : Geo) : DS := (DS.new g.blocks).readed.claimed
theorem dec_zb {g : Geo} (hg : g.ok) : DecOk g zb := by
  unfold DecOk
  rw [decL_zb]
  refine ⟨?_, List.nodup_nil, fun t ht => absurd ht List.not_mem_nil⟩
  have := hg.1
  show ((0 : Nat) : Int) ≤ g.log - 1
  omega
theorem fresh0_C {g : Geo} (hg : g.ok) : (fresh0 g).C 2 := claimed_C (readed_C (new_C hg.2.2.2.2.1 hg.2.2.2.2.2.1))
end Go.Proofs.Ytkmalbaollffiaa
