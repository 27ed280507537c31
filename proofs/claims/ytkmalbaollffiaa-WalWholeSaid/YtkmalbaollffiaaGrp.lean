/- WalGroups: what a run makes; the sizes of a play; steps among arguments. -/
import Derived.Test.YtkmalbaollffiaaStr
set_option linter.all false
set_option maxRecDepth 100000
set_option maxHeartbeats 400000
namespace Go.Proofs.Ytkmalbaollffiaa
open Go.Am
variable {σ σ' : Store} {Q : Value → Store → Prop} {g : Geo} {s : DS} {w : WS} {m : Nat} {l d nid : Nat} {F G B X : List Nat} {st sB : Store}
/-- A step among arguments: its length, its changes. -/
def StpV (σ : Store) (v : Value) (l : List (Int × Int)) : Prop :=
  lenSl v = some (.int .i64 (l.length : Nat)) ∧ ∀ (i : Nat) (p : Int × Int), l[i]? = some p → ∃ a o, iaddrS 2 v (.int .i64 (i : Nat)) = some (.pointer (some ⟨a, o, none⟩)) ∧ a < σ.next ∧ rdOne (σ.get a) o = some (.int .i64 p.1) ∧ rdOne (σ.get a) (o + 1) = some (.int .u8 p.2)
theorem StpV.of {v : Value} {l : List (Int × Int)} (h : SlR σ 2 v l.length (chgC l)) : StpV σ v l := ⟨h.len, fun i p hp => chg_at h hp⟩
theorem StpV.keep {v : Value} {l : List (Int × Int)} (h : StpV σ v l) (hg : ∀ j, j < σ.next → σ'.get j = σ.get j) (hn : σ.next ≤ σ'.next) : StpV σ' v l := ⟨h.1, fun i p hp => by
  obtain ⟨a, o, q1, q2, q3, q4⟩ := h.2 i p hp
  exact ⟨a, o, q1, by omega, by rw [hg a q2]; exact q3, by rw [hg a q2]; exact q4⟩⟩
/-- A play, in cells. -/
def playV (g : Geo) (sv yv kv kv2 : Value) (x y : Int) : List Value := ic g.cells ++ [sv, yv, .int .i64 x, kv, .int .i64 y, kv2]
theorem lfitsN_ {sv yv kv kv2 : Value} {x y : Int} {ls : List Value} {steps : List (List (Int × Int))} (hl : ls.length = steps.length) (hcap : steps.length < 2 ^ 63) (hlc : ∀ t ∈ steps, t.length < 2 ^ 63) (hv : SlR σ 1 sv ls.length ls) (hls : ∀ (i : Nat) (v : Value) (t : List (Int × Int)), ls[i]? = some v → steps[i]? = some t → lenSl v = some (.int .i64 (t.length : Nat)))
    (hq : Q (.bool (decide (g.ok ∧ g.blocks ≤ 300 ∧ steps.length ≤ 40 ∧ ∀ t ∈ steps, t.length ≤ 31))) σ) :
    Does Try.prog 7 [.agg ⟨playV g sv yv kv kv2 x y⟩] σ Q := by
  refine Does.pureT (r := .bool (decide (g.ok ∧ g.blocks ≤ 300 ∧ steps.length ≤ 40 ∧ ∀ t ∈ steps, t.length ≤ 31))) ?_ rfl hq
  refine d7 ?_
  have hpl : playV g sv yv kv kv2 x y = [.int .i64 g.blocks, .int .i64 g.log, .int .i64 g.inodes, sv, yv, .int .i64 x, kv, .int .i64 y, kv2] := rfl
  have bx : boxN (.agg ⟨[.int .i64 g.blocks, .int .i64 g.log, .int .i64 g.inodes, sv, yv, .int .i64 x, kv, .int .i64 y, kv2]⟩) = some (.cells [.int .i64 g.blocks, .int .i64 g.log, .int .i64 g.inodes, sv, yv, .int .i64 x, kv, .int .i64 y, kv2] none, ptrTo) := rfl
  rw [hpl]
  have l9 : (ic g.of).length = 9 := by unfold Geo.of; split <;> rfl
  have u9 : (unrle [(9, .int .i64 0)]).length = 9 := rfl
  unfold p7
  obtain ⟨s1, hs1⟩ : ∃ s1, s1 = σ.push (.cells [.int .i64 g.blocks, .int .i64 g.log, .int .i64 g.inodes, sv, yv, .int .i64 x, kv, .int .i64 y, kv2] none) := ⟨_, rfl⟩
  have k1 : Keeps σ s1 := by rw [hs1]; exact (Keeps.refl _).push _
  have c1 : s1.get σ.next = some (.cells [.int .i64 g.blocks, .int .i64 g.log, .int .i64 g.inodes, sv, yv, .int .i64 x, kv, .int .i64 y, kv2] none) := by rw [hs1]; exact Store.get_push_same _ _
  rw [bx, nop_some, ← hs1]
  have r3 : rdPart (some (.cells [.int .i64 g.blocks, .int .i64 g.log, .int .i64 g.inodes, sv, yv, .int .i64 x, kv, .int .i64 y, kv2] none)) 0 3 = some (.agg ⟨ic g.cells⟩) := rfl
  simp -implicitDefEqProofs (maxSteps := 2000000) (disch := first|assumption|omega|rfl|(simp only[RD];done)|(simp only[RD];omega)) only [RN,Int.reduceBEq,Int.reduceBNe,Int.reduceLT,Int.reduceLE,Int.reduceAdd,Int.reduceSub,Int.reduceMul,Nat.reduceAdd,↓bc_flatz,↓bc_flat16,↓agg_bytez, c1, r3]
  refine rof_ ?_
  have hlt := Store.lt_of_get c1
  simp -implicitDefEqProofs (maxSteps := 2000000) (disch := first|assumption|omega|rfl|(simp only[RD];done)|(simp only[RD];omega)) only [RN,Int.reduceBEq,Int.reduceBNe,Int.reduceLT,Int.reduceLE,Int.reduceAdd,Int.reduceSub,Int.reduceMul,Nat.reduceAdd,↓bc_flatz,↓bc_flat16,↓agg_bytez, u9, l9]
  obtain ⟨s2, hs2⟩ : ∃ s2, s2 = s1.push (.cells (ic g.of) none) := ⟨_, rfl⟩
  have k2 : Keeps s1 s2 := by rw [hs2]; exact (Keeps.refl _).push _
  have c2 := k2.get c1
  rw [← hs2]
  have hv2 : SlR s2 1 sv ls.length ls := hv.keeps fun i o h => k2.get (k1.get h)
  by_cases hok : g.ok
  · have he : (g.err != 0) = false := by rw [show g.err = 0 from if_pos hok]; rfl
    by_cases h3 : 300 < g.blocks
    · simp -implicitDefEqProofs (maxSteps := 2000000) (disch := first|assumption|omega|rfl|(simp only[RD];done)|(simp only[RD];omega)) only [RN,Int.reduceBEq,Int.reduceBNe,Int.reduceLT,Int.reduceLE,Int.reduceAdd,Int.reduceSub,Int.reduceMul,Nat.reduceAdd,↓bc_flatz,↓bc_flat16,↓agg_bytez, he, c2, decide_eq_true h3]
      exact ⟨by rw [decide_eq_false (fun h => by omega)], k1.trans k2⟩
    · by_cases h4 : (40 : Int) < (ls.length : Nat)
      · simp -implicitDefEqProofs (maxSteps := 2000000) (disch := first|assumption|omega|rfl|(simp only[RD];done)|(simp only[RD];omega)) only [RN,Int.reduceBEq,Int.reduceBNe,Int.reduceLT,Int.reduceLE,Int.reduceAdd,Int.reduceSub,Int.reduceMul,Nat.reduceAdd,↓bc_flatz,↓bc_flat16,↓agg_bytez, he, c2, decide_eq_false h3, hv2.len, decide_eq_true h4]
        exact ⟨by rw [decide_eq_false (fun h => by omega)], k1.trans k2⟩
      · simp -implicitDefEqProofs (maxSteps := 2000000) (disch := first|assumption|omega|rfl|(simp only[RD];done)|(simp only[RD];omega)) only [RN,Int.reduceBEq,Int.reduceBNe,Int.reduceLT,Int.reduceLE,Int.reduceAdd,Int.reduceSub,Int.reduceMul,Nat.reduceAdd,↓bc_flatz,↓bc_flat16,↓agg_bytez, he, c2, decide_eq_false h3, hv2.len, decide_eq_false h4]
        refine lop1 (fun k x st => ∃ i : Nat, k + i = ls.length ∧ x = .int .i64 i ∧ st = s2 ∧ ∀ t ∈ steps.take i, t.length ≤ 31) ls.length ⟨0, rfl, rfl, rfl, fun t ht => by simp at ht⟩ ?_
        rintro k x st next ⟨i, hi, rfl, rfl, h31⟩ hnx
        by_cases h5 : (i : Int) < ls.length
        · have h6 : i < ls.length := by omega
          obtain ⟨a, o, q1, q2, q3, q4⟩ := hv2.at (by decide) h6
          have hx : ls[i]? = some ls[i] := List.getElem?_eq_getElem h6
          have h6' : i < steps.length := by omega
          have hy : steps[i]? = some steps[i] := List.getElem?_eq_getElem h6'
          have hll := hls i _ _ hx hy
          have hcc := hlc _ (List.getElem_mem h6')
          rw [Nat.mul_one, hx] at q4
          have q1' := q1 .i64
          by_cases h7 : (31 : Int) < (steps[i].length : Nat)
          · simp -implicitDefEqProofs (maxSteps := 2000000) (disch := first|assumption|omega|rfl|(simp only[RD];done)|(simp only[RD];omega)) only [RN,Int.reduceBEq,Int.reduceBNe,Int.reduceLT,Int.reduceLE,Int.reduceAdd,Int.reduceSub,Int.reduceMul,Nat.reduceAdd,↓bc_flatz,↓bc_flat16,↓agg_bytez, c2, hv2.len, decide_eq_true h5, q1', q4, hll, decide_eq_true h7]
            exact ⟨by rw [decide_eq_false (fun h => by have := h.2.2.2 _ (List.getElem_mem h6'); omega)], k1.trans k2⟩
          · simp -implicitDefEqProofs (maxSteps := 2000000) (disch := first|assumption|omega|rfl|(simp only[RD];done)|(simp only[RD];omega)) only [RN,Int.reduceBEq,Int.reduceBNe,Int.reduceLT,Int.reduceLE,Int.reduceAdd,Int.reduceSub,Int.reduceMul,Nat.reduceAdd,↓bc_flatz,↓bc_flat16,↓agg_bytez, c2, hv2.len, decide_eq_true h5, q1', q4, hll, decide_eq_false h7]
            refine hnx _ _ (by omega) ⟨i + 1, by omega, by congr 1, rfl, fun t ht => ?_⟩
            rw [List.take_succ, hy] at ht
            rcases List.mem_append.1 ht with ht | ht
            · exact h31 t ht
            · have : t = steps[i] := by simpa using ht
              rw [this]; omega
        · have h6 : i = steps.length := by omega
          simp -implicitDefEqProofs (maxSteps := 2000000) (disch := first|assumption|omega|rfl|(simp only[RD];done)|(simp only[RD];omega)) only [RN,Int.reduceBEq,Int.reduceBNe,Int.reduceLT,Int.reduceLE,Int.reduceAdd,Int.reduceSub,Int.reduceMul,Nat.reduceAdd,↓bc_flatz,↓bc_flat16,↓agg_bytez, c2, hv2.len, decide_eq_false h5]
          rw [h6, List.take_length] at h31
          exact ⟨by rw [decide_eq_true (show g.ok ∧ g.blocks ≤ 300 ∧ steps.length ≤ 40 ∧ ∀ t ∈ steps, t.length ≤ 31 from ⟨hok, by omega, by omega, h31⟩)], k1.trans k2⟩
  · have he : (g.err != 0) = true := by rw [show g.err = 2 from if_neg hok]; rfl
    simp -implicitDefEqProofs (maxSteps := 2000000) (disch := first|assumption|omega|rfl|(simp only[RD];done)|(simp only[RD];omega)) only [RN,Int.reduceBEq,Int.reduceBNe,Int.reduceLT,Int.reduceLE,Int.reduceAdd,Int.reduceSub,Int.reduceMul,Nat.reduceAdd,↓bc_flatz,↓bc_flat16,↓agg_bytez, he]
    exact ⟨by rw [decide_eq_false (fun h => hok h.1)], k1.trans k2⟩
end Go.Proofs.Ytkmalbaollffiaa
