/- Contracts of the package head. -/
import Derived.Test.YtiaonndafhfkmaaShape8
import Derived.Test.YtiaonndafhfkmaaMapc
set_option linter.all false
set_option maxRecDepth 100000
set_option maxHeartbeats 400000
namespace Go.Proofs.Ytiaonndafhfkmaa
open Go.Am
def layD : EqD := .fields [(0, 3, (.fields [(0, 1, (.one (.int .i64))), (1, 1, (.one (.int .i64))), (2, 1, (.one (.int .i64)))])), (3, 1, (.one (.int .i64))), (4, 1, (.one (.int .i64))), (5, 1, (.one (.int .i64))), (6, 1, (.one (.int .i64))), (7, 1, (.one (.int .i64))), (8, 1, (.one (.int .i64)))]
theorem eq_lay (neg : Bool) (g : Geo) : eqA layD neg (.agg ⟨ic g.lay⟩) (.agg ⟨ic g.lay⟩) = some (.bool (true ^^ neg)) := by
  simp [eqA, layD, eqD, eqDs, ic, Geo.lay, eqLeaf, eq1]
theorem fits_ {g : Geo} (hg : g.ok) {σ : Store} {Q : Value → Store → Prop} (hq : Q (.bool true) σ) : Does Try.prog 42 [.agg ⟨ic g.lay⟩] σ Q := by
  refine Does.pureT (r := .bool true) ?_ rfl hq
  refine d42 ?_
  have e3 : rdPart (some (.cells (ic g.lay) none)) 0 3 = some (.agg ⟨ic g.cells⟩) := rfl
  simp -implicitDefEqProofs (maxSteps := 2000000) (disch := first|assumption|omega|rfl|(simp only[RD];done)|(simp only[RD];omega)) only [RN,Int.reduceBEq,Int.reduceBNe,Int.reduceLT,Int.reduceLE,Int.reduceAdd,Int.reduceSub,Int.reduceMul,Nat.reduceAdd,↓bc_flatz,↓bc_flat16,↓agg_bytez, p42, e3]
  refine of_ ?_
  have e4 : g.of = g.lay := if_pos hg
  have e5 : g.err = 0 := if_pos hg
  have l9 : (ic g.lay).length = 9 := rfl
  have u9 : (unrle [(9, .int .i64 0)]).length = 9 := rfl
  have e6 := eq_lay false g
  unfold layD at e6
  simp -implicitDefEqProofs (maxSteps := 2000000) (disch := first|assumption|omega|rfl|(simp only[RD];done)|(simp only[RD];omega)) only [RN,Int.reduceBEq,Int.reduceBNe,Int.reduceLT,Int.reduceLE,Int.reduceAdd,Int.reduceSub,Int.reduceMul,Nat.reduceAdd,↓bc_flatz,↓bc_flat16,↓agg_bytez, e4, e5, l9, u9, e6]
  exact ⟨trivial, ((Keeps.refl σ).push _).push _⟩
/-- May the header name these? -/
def MayL (g : Geo) (l : List Int) : Prop := (l.length : Int) ≤ g.log - 1 ∧ l.Nodup ∧ ∀ t ∈ l, 1 + g.log ≤ t ∧ t < g.blocks
instance (g : Geo) (l : List Int) : Decidable (MayL g l) := by unfold MayL; exact inferInstance
theorem ic_get (l : List Int) (i : Nat) : (ic l)[i]? = (l[i]?).map (.int .i64) := by simp [ic]
theorem ic_app (l m : List Int) : ic (l ++ m) = ic l ++ ic m := by simp [ic]
theorem slr_get {σ : Store} {v : Value} {l : List Int} (h : SlR σ 1 v l.length (ic l)) {i : Nat} {x : Int} (hx : l[i]? = some x) : ∃ a o, iaddrS 1 v (.int .i64 (i : Nat)) = some (.pointer (some ⟨a, o, none⟩)) ∧ a < σ.next ∧ rdOne (σ.get a) o = some (.int .i64 x) := by
  have hi : i < l.length := (List.getElem?_eq_some_iff.1 hx).1
  obtain ⟨a, o, h1, h2, h3, h4⟩ := h.at (by omega) hi
  exact ⟨a, o, h1 .i64, h2, by rw [h4, Nat.mul_one, ic_get, hx]; rfl⟩
theorem may_ {g : Geo} (hg : g.ok) {σ : Store} {v : Value} {l : List Int} (hv : SlR σ 1 v l.length (ic l)) (hl : l.length < 2 ^ 40) {Q : Value → Store → Prop} (hq : Q (.bool (decide (MayL g l))) σ) : Does Try.prog 43 [.agg ⟨ic g.lay⟩, v] σ Q := by
  refine Does.pureT (r := .bool (decide (MayL g l))) ?_ rfl hq
  refine d43 ?_
  have hlay : ic g.lay = [.int .i64 g.blocks, .int .i64 g.log, .int .i64 g.inodes, .int .i64 1, .int .i64 (1 + g.log), .int .i64 g.nodeBlocks, .int .i64 g.bitsAt, .int .i64 g.bitsBlocks, .int .i64 g.dataAt] := rfl
  obtain ⟨g1, g2, g3, g4, g5, g6, g7⟩ := hg
  have hw : -9223372036854775808 ≤ g.log - 1 ∧ g.log - 1 ≤ 9223372036854775807 := by omega
  by_cases h1 : g.log - 1 < l.length
  · simp -implicitDefEqProofs (maxSteps := 2000000) (disch := first|assumption|omega|rfl|(simp only[RD];done)|(simp only[RD];omega)) only [RN,Int.reduceBEq,Int.reduceBNe,Int.reduceLT,Int.reduceLE,Int.reduceAdd,Int.reduceSub,Int.reduceMul,Nat.reduceAdd,↓bc_flatz,↓bc_flat16,↓agg_bytez, p43, hv.len, hlay, decide_eq_true h1]
    refine ⟨?_, (Keeps.refl σ).push _⟩
    rw [decide_eq_false (fun h => by unfold MayL at h; omega)]
  · simp -implicitDefEqProofs (maxSteps := 2000000) (disch := first|assumption|omega|rfl|(simp only[RD];done)|(simp only[RD];omega)) only [RN,Int.reduceBEq,Int.reduceBNe,Int.reduceLT,Int.reduceLE,Int.reduceAdd,Int.reduceSub,Int.reduceMul,Nat.reduceAdd,↓bc_flatz,↓bc_flat16,↓agg_bytez, p43, hv.len, hlay, decide_eq_false h1]
    have u0 : (unrle []) = ([] : List Value) := rfl
    obtain ⟨σ0, hσ0⟩ : ∃ σ0, σ0 = (σ.push (.cells [.int .i64 g.blocks, .int .i64 g.log, .int .i64 g.inodes, .int .i64 1, .int .i64 (1 + g.log), .int .i64 g.nodeBlocks, .int .i64 g.bitsAt, .int .i64 g.bitsBlocks, .int .i64 g.dataAt] none)).push (.map [] 0) := ⟨_, rfl⟩
    rw [← hσ0]
    have k0 : Keeps σ σ0 := by rw [hσ0]; exact ((Keeps.refl σ).push _).push _
    have n0 : σ0.next = σ.next + 2 := by rw [hσ0, Store.next_push, Store.next_push]
    have c0 : σ0.get σ.next = some (.cells [.int .i64 g.blocks, .int .i64 g.log, .int .i64 g.inodes, .int .i64 1, .int .i64 (1 + g.log), .int .i64 g.nodeBlocks, .int .i64 g.bitsAt, .int .i64 g.bitsBlocks, .int .i64 g.dataAt] none) := by
      rw [hσ0, get_push_ne (by rw [Store.next_push]; omega), Store.get_push_same]
    have m0 : MapC σ0 (σ.next + 1) (fun _ => none) 0 := MapC.new (by rw [hσ0]; exact get_push_eq (by rw [Store.next_push]))
    clear hσ0
    refine lop1 (fun k w st => ∃ i : Nat, k + i = l.length ∧ w = .int .i64 i ∧ Keeps σ st ∧ σ.next + 2 ≤ st.next ∧ st.get σ.next = σ0.get σ.next ∧ MapC st (σ.next + 1) (fun x => if x ∈ l.take i then some (.agg ⟨[]⟩) else none) i ∧ (l.take i).Nodup ∧ ∀ t ∈ l.take i, 1 + g.log ≤ t ∧ t < g.blocks) l.length ⟨0, rfl, rfl, k0, by omega, rfl, m0.ext (fun x => by simp) rfl, by simp, fun t ht => by simp at ht⟩ ?_
    rintro k w st next ⟨i, hi, rfl, hk, hn, hc, hm, hnd, hall⟩ hnx
    rw [c0] at hc
    by_cases h2 : (i : Int) < l.length
    · have h3 : i < l.length := by omega
      obtain ⟨x, hx⟩ : ∃ x, l[i]? = some x := ⟨_, List.getElem?_eq_getElem h3⟩
      have hx' : l[i] = x := by rw [List.getElem?_eq_getElem h3] at hx; exact Option.some.inj hx
      obtain ⟨a, o, e1, e2, e3⟩ := slr_get (hv.keeps fun j ob hj => hk.get hj) hx
      have htk : l.take (i + 1) = l.take i ++ [x] := by rw [List.take_succ, hx]; rfl
      have lk := hm.look (.agg ⟨[]⟩) x
      have bad : ¬ ((l.take (i + 1)).Nodup ∧ ∀ t ∈ l.take (i + 1), 1 + g.log ≤ t ∧ t < g.blocks) → ¬ MayL g l := fun hb hM => hb ⟨hM.2.1.sublist (List.take_sublist _ _), fun t ht => hM.2.2 t (List.mem_of_mem_take ht)⟩
      by_cases h4 : x ∈ l.take i
      · rw [if_pos h4] at lk
        simp -implicitDefEqProofs (maxSteps := 2000000) (disch := first|assumption|omega|rfl|(simp only[RD];done)|(simp only[RD];omega)) only [RN,Int.reduceBEq,Int.reduceBNe,Int.reduceLT,Int.reduceLE,Int.reduceAdd,Int.reduceSub,Int.reduceMul,Nat.reduceAdd,↓bc_flatz,↓bc_flat16,↓agg_bytez, u0, decide_eq_true h2, e1, e3, lk]
        refine ⟨?_, hk.push _⟩
        rw [decide_eq_false (bad fun h => ?_)]
        rw [htk, List.nodup_append] at h
        exact h.1.2.2 x h4 x (by simp) rfl
      · rw [if_neg h4] at lk
        by_cases h5 : x < 1 + g.log
        · simp -implicitDefEqProofs (maxSteps := 2000000) (disch := first|assumption|omega|rfl|(simp only[RD];done)|(simp only[RD];omega)) only [RN,Int.reduceBEq,Int.reduceBNe,Int.reduceLT,Int.reduceLE,Int.reduceAdd,Int.reduceSub,Int.reduceMul,Nat.reduceAdd,↓bc_flatz,↓bc_flat16,↓agg_bytez, u0, decide_eq_true h2, e1, e3, lk, hc, decide_eq_true h5]
          refine ⟨?_, hk.push _⟩
          rw [decide_eq_false (bad fun h => ?_)]
          have := (h.2 x (by rw [htk]; simp)).1
          omega
        · by_cases h6 : g.blocks ≤ x
          · simp -implicitDefEqProofs (maxSteps := 2000000) (disch := first|assumption|omega|rfl|(simp only[RD];done)|(simp only[RD];omega)) only [RN,Int.reduceBEq,Int.reduceBNe,Int.reduceLT,Int.reduceLE,Int.reduceAdd,Int.reduceSub,Int.reduceMul,Nat.reduceAdd,↓bc_flatz,↓bc_flat16,↓agg_bytez, u0, decide_eq_true h2, e1, e3, lk, hc, decide_eq_false h5, decide_eq_true h6]
            refine ⟨?_, hk.push _⟩
            rw [decide_eq_false (bad fun h => ?_)]
            have := (h.2 x (by rw [htk]; simp)).2
            omega
          · have kst := (Keeps.refl st).push (.cells [] none)
            obtain ⟨ob, w1, w2⟩ := (hm.same (kst.2 _ (by omega))).upd x (.agg ⟨[]⟩)
            simp -implicitDefEqProofs (maxSteps := 2000000) (disch := first|assumption|omega|rfl|(simp only[RD];done)|(simp only[RD];omega)) only [RN,Int.reduceBEq,Int.reduceBNe,Int.reduceLT,Int.reduceLE,Int.reduceAdd,Int.reduceSub,Int.reduceMul,Nat.reduceAdd,↓bc_flatz,↓bc_flat16,↓agg_bytez, u0, decide_eq_true h2, e1, e3, lk, hc, decide_eq_false h5, decide_eq_false h6, w1]
            rw [← push_put_lt (show σ.next + 1 < st.next by omega)]
            refine hnx _ _ (by omega) ⟨i + 1, by omega, by congr 1, (hk.push _).put _ (by omega), ?_, ?_, w2.ext (fun y => ?_) ?_, ?_, ?_⟩
            · rw [next_max, Store.next_push]; omega
            · rw [get_put_ne' (by omega), get_push_ne (by omega), hc, c0]
            · rw [htk]
              by_cases hy : y = x
              · simp [hy]
              · simp [hy]
            · rw [if_neg h4]; rfl
            · rw [htk, List.nodup_append]
              exact ⟨hnd, by simp, fun a ha b hb => by have : b = x := by simpa using hb
                                                       rw [this]; exact fun e => h4 (e ▸ ha)⟩
            · rw [htk]
              intro t ht
              rcases List.mem_append.1 ht with ht | ht
              · exact hall t ht
              · have : t = x := by simpa using ht
                rw [this]; omega
    · have h3 : i = l.length := by omega
      subst h3
      rw [List.take_length] at hnd hall
      simp -implicitDefEqProofs (maxSteps := 2000000) (disch := first|assumption|omega|rfl|(simp only[RD];done)|(simp only[RD];omega)) only [RN,Int.reduceBEq,Int.reduceBNe,Int.reduceLT,Int.reduceLE,Int.reduceAdd,Int.reduceSub,Int.reduceMul,Nat.reduceAdd,↓bc_flatz,↓bc_flat16,↓agg_bytez, decide_eq_false h2]
      refine ⟨?_, hk⟩
      rw [decide_eq_true]
      exact ⟨by omega, hnd, hall⟩
/-- The header's block, as far as some of its numbers are laid. -/
def headI (l : List Int) : Nat → List Int
  | 0 => set32 zb 0 (IntKind.u32.wrap l.length) 4
  | i + 1 => set32 (headI l i) (4 * (i + 1)) (IntKind.u32.wrap (l.getD i 0)) 4
def headB (l : List Int) : List Int := headI l l.length
theorem headI_len (l : List Int) : ∀ i, (headI l i).length = 1024
  | 0 => by simp [headI, set32_len, zb_len]
  | i + 1 => by simp [headI, set32_len, headI_len l i]
theorem headB_len (l : List Int) : (headB l).length = 1024 := headI_len l _
variable {σ : Store} {Q : Value → Store → Prop} {g : Geo}
theorem hencode_ (hg : g.ok) {v : Value} {l : List Int} (hv : SlR σ 1 v l.length (ic l)) (hM : MayL g l) (hq : ∀ σ', Keeps σ σ' → Q (.tuple #[.agg ⟨bc (headB l)⟩, .int .i64 0]) σ') : Does Try.prog 16 [.agg ⟨ic g.lay⟩, .agg ⟨[v]⟩] σ Q := by
  refine d16 ?_
  have hl : l.length ≤ 255 := by have := hM.1; unfold Geo.ok at hg; omega
  have l9 : (ic g.lay).length = 9 := rfl
  obtain ⟨k1, hk1, e1⟩ : ∃ s1, Keeps σ s1 ∧ s1 = ((σ.push (.cells (ic g.lay) none)).push (.cells [v] none)).push (.cells (bc zb) none) := ⟨_, (((Keeps.refl σ).push _).push _).push _, rfl⟩
  have n1 : k1.next = σ.next + 3 := by rw [e1]; simp only [Store.next_push]
  have c1 : k1.get σ.next = some (.cells (ic g.lay) none) := by rw [e1]; simp -implicitDefEqProofs (maxSteps := 2000000) (disch := first|assumption|omega|rfl|(simp only[RD];done)|(simp only[RD];omega)) only [RN,Int.reduceBEq,Int.reduceBNe,Int.reduceLT,Int.reduceLE,Int.reduceAdd,Int.reduceSub,Int.reduceMul,Nat.reduceAdd,↓bc_flatz,↓bc_flat16,↓agg_bytez]
  have c2 : k1.get (σ.next + 1) = some (.cells [v] none) := by rw [e1]; simp -implicitDefEqProofs (maxSteps := 2000000) (disch := first|assumption|omega|rfl|(simp only[RD];done)|(simp only[RD];omega)) only [RN,Int.reduceBEq,Int.reduceBNe,Int.reduceLT,Int.reduceLE,Int.reduceAdd,Int.reduceSub,Int.reduceMul,Nat.reduceAdd,↓bc_flatz,↓bc_flat16,↓agg_bytez]
  have c3 : k1.get (σ.next + 2) = some (.cells (bc zb) none) := by rw [e1]; simp -implicitDefEqProofs (maxSteps := 2000000) (disch := first|assumption|omega|rfl|(simp only[RD];done)|(simp only[RD];omega)) only [RN,Int.reduceBEq,Int.reduceBNe,Int.reduceLT,Int.reduceLE,Int.reduceAdd,Int.reduceSub,Int.reduceMul,Nat.reduceAdd,↓bc_flatz,↓bc_flat16,↓agg_bytez]
  simp -implicitDefEqProofs (maxSteps := 2000000) (disch := first|assumption|omega|rfl|(simp only[RD];done)|(simp only[RD];omega)) only [RN,Int.reduceBEq,Int.reduceBNe,Int.reduceLT,Int.reduceLE,Int.reduceAdd,Int.reduceSub,Int.reduceMul,Nat.reduceAdd,↓bc_flatz,↓bc_flat16,↓agg_bytez, p16, l9]
  rw [← e1]
  clear e1
  refine fits_ hg ?_
  simp -implicitDefEqProofs (maxSteps := 2000000) (disch := first|assumption|omega|rfl|(simp only[RD];done)|(simp only[RD];omega)) only [RN,Int.reduceBEq,Int.reduceBNe,Int.reduceLT,Int.reduceLE,Int.reduceAdd,Int.reduceSub,Int.reduceMul,Nat.reduceAdd,↓bc_flatz,↓bc_flat16,↓agg_bytez, p16_3, c1, c2, l9]
  refine may_ hg (hv.keeps fun j o hj => hk1.get hj) (by omega) ?_
  rw [decide_eq_true hM]
  simp -implicitDefEqProofs (maxSteps := 2000000) (disch := first|assumption|omega|rfl|(simp only[RD];done)|(simp only[RD];omega)) only [RN,Int.reduceBEq,Int.reduceBNe,Int.reduceLT,Int.reduceLE,Int.reduceAdd,Int.reduceSub,Int.reduceMul,Nat.reduceAdd,↓bc_flatz,↓bc_flat16,↓agg_bytez, p16_2, c2, hv.len]
  refine setU32_ (x := 0) zb_len (by omega) ?_
  have hb0 : (set32 zb 0 (IntKind.u32.wrap ↑l.length) 4).length = 1024 := by rw [set32_len, zb_len]
  simp -implicitDefEqProofs (maxSteps := 2000000) (disch := first|assumption|omega|rfl|(simp only[RD];done)|(simp only[RD];omega)) only [RN,Int.reduceBEq,Int.reduceBNe,Int.reduceLT,Int.reduceLE,Int.reduceAdd,Int.reduceSub,Int.reduceMul,Nat.reduceAdd,↓bc_flatz,↓bc_flat16,↓agg_bytez, c2, hb0, hv.len]
  refine lop1 (fun k w st => ∃ i : Nat, k + i = l.length ∧ w = .int .i64 i ∧ Keeps k1 st ∧ k1.next < st.next ∧ st.get k1.next = some (.cells (bc (headI l i)) none)) l.length ⟨0, rfl, rfl, (Keeps.refl _).push _, by rw [Store.next_push]; omega, Store.get_push_same _ _⟩ ?_
  rintro k w st next ⟨i, hi, rfl, hk, hn, hc⟩ hnx
  have hil := headI_len l i
  by_cases h2 : (i : Int) < l.length
  · have h3 : i < l.length := by omega
    obtain ⟨x, hx⟩ : ∃ x, l[i]? = some x := ⟨_, List.getElem?_eq_getElem h3⟩
    obtain ⟨a, o, q1, q2, q3⟩ := slr_get (hv.keeps fun j ob hj => (hk1.trans hk).get hj) hx
    have e4 : (4 : Int) * ((i : Int) + 1) = ((4 * (i + 1) : Nat) : Int) := by push_cast; omega
    simp -implicitDefEqProofs (maxSteps := 2000000) (disch := first|assumption|omega|rfl|(simp only[RD];done)|(simp only[RD];omega)) only [RN,Int.reduceBEq,Int.reduceBNe,Int.reduceLT,Int.reduceLE,Int.reduceAdd,Int.reduceSub,Int.reduceMul,Nat.reduceAdd,↓bc_flatz,↓bc_flat16,↓agg_bytez, decide_eq_true h2, p16_1, q1, q3, hc, hil]
    rw [e4]
    refine setU32_ hil (by omega) ?_
    have e5 : set32 (headI l i) (4 * (i + 1)) (IntKind.u32.wrap x) 4 = headI l (i + 1) := by
      have : l.getD i 0 = x := by rw [List.getD_eq_getElem?_getD, hx]; rfl
      rw [headI, this]
    have hi2 := headI_len l (i + 1)
    rw [e5]
    simp -implicitDefEqProofs (maxSteps := 2000000) (disch := first|assumption|omega|rfl|(simp only[RD];done)|(simp only[RD];omega)) only [RN,Int.reduceBEq,Int.reduceBNe,Int.reduceLT,Int.reduceLE,Int.reduceAdd,Int.reduceSub,Int.reduceMul,Nat.reduceAdd,↓bc_flatz,↓bc_flat16,↓agg_bytez, hc, hil, hi2]
    refine hnx _ _ (by omega) ⟨i + 1, by omega, by congr 1, hk.put _ (by omega), by rw [next_max]; omega, Store.get_put_same _ _ _⟩
  · have h3 : i = l.length := by omega
    subst h3
    have hs : st.get (σ.next + 2) = some (.cells (bc zb) none) := by rw [hk.2 _ (by omega), c3]
    have hbl := headB_len l
    unfold headB at hbl
    simp -implicitDefEqProofs (maxSteps := 2000000) (disch := first|assumption|omega|rfl|(simp only[RD];done)|(simp only[RD];omega)) only [RN,Int.reduceBEq,Int.reduceBNe,Int.reduceLT,Int.reduceLE,Int.reduceAdd,Int.reduceSub,Int.reduceMul,Nat.reduceAdd,↓bc_flatz,↓bc_flat16,↓agg_bytez, decide_eq_false h2, p16_1, hc, hil, hs]
    refine hq _ ((hk1.trans hk).put _ (by omega))
end Go.Proofs.Ytiaonndafhfkmaa
