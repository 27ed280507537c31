/- WalGroups: behind a step's changes. -/
import Derived.Test.YtkmalbaollffiaaGrp3
set_option linter.all false
set_option maxRecDepth 100000
set_option maxHeartbeats 800000
namespace Go.Proofs.Ytkmalbaollffiaa
open Go.Am
variable {σ : Store} {Q : Value → Store → Prop} {g : Geo} {s : DS} {w : WS} {m : Nat} {l d : Nat} {F G B X : List Nat} {st sB : Store} {o : List Int} {A0 : List Nat} {gv : Value}
/-- A step is over; it may be synced. -/
theorem grp_end {K : Value → Store → Prop} {n32 : Value → Value → Value → Value → Store → Prop} {n131 : Value → Value → Store → Prop} {b0 i n : Nat} {b1v : Value} {sv yv kv kv2 : Value} {x y : Int} {sy : List Int} (hsyl : sy.length < 2 ^ 63)
    (h : Sg l d A0 sB w s m gv (ordL w.grp) st) (hm0 : m + 1000 < 2 ^ 29) (wo : w.opn = true) (hcm : w.commits < 1000) (hst : w.steps = i) (hil : i < 1000) (hmd : s.made < 2 ^ 40 ∧ 0 ≤ s.made) (hgl : w.grp.length ≤ 300)
    (c0 : sB.get b0 = some (.cells (playV g sv yv kv kv2 x y) none)) (n0 : b0 ∉ A0) (hsv : ∀ st', (∀ j, j < sB.next → j ∉ A0 → st'.get j = sB.get j) → sB.next ≤ st'.next → SlR st' 1 yv sy.length (ic sy))
    (hnext : ∀ w' s' gv' st', Sg l d A0 sB w' s' (m + 600) gv' (ordL w'.grp) st' → w'.g = w.g → w'.opn = false → w'.commits ≤ w.commits + 1 → w'.steps = i + 1 → n32 (.int .i64 s'.made) (.int .i64 w'.commits) gv' (.int .i64 ((i : Int) + 1)) st') :
    p3_7 (.bool false) (.pointer (some ⟨b0, 0, none⟩)) st (.int .i64 i) (.int .i64 (n : Nat)) b1v (.pointer (some ⟨l, 0, none⟩)) K gv n131 (.int .i64 s.made) (.int .i64 w.commits) (.pointer (some ⟨d, 0, none⟩)) n32 := by
  have e4 : rdOne (some (.cells (playV g sv yv kv kv2 x y) none)) 4 = some yv := rfl
  have hcn := h.ok.cnt
  simp -implicitDefEqProofs (maxSteps := 2000000) (disch := first|assumption|omega|rfl|(simp only[RD];done)|(simp only[RD];omega)) only [RN,Int.reduceBEq,Int.reduceBNe,Int.reduceLT,Int.reduceLE,Int.reduceAdd,Int.reduceSub,Int.reduceMul,Nat.reduceAdd,↓bc_flatz,↓bc_flat16,↓agg_bytez, p3_7]
  refine sg_end h wo (by omega) fun st1 h1 => ?_
  try simp -implicitDefEqProofs (maxSteps := 2000000) (disch := first|assumption|omega|rfl|(simp only[RD];done)|(simp only[RD];omega)) only [RN,Int.reduceBEq,Int.reduceBNe,Int.reduceLT,Int.reduceLE,Int.reduceAdd,Int.reduceSub,Int.reduceMul,Nat.reduceAdd,↓bc_flatz,↓bc_flat16,↓agg_bytez]
  refine sg_open h1 ?_
  simp -implicitDefEqProofs (maxSteps := 2000000) (disch := first|assumption|omega|rfl|(simp only[RD];done)|(simp only[RD];omega)) only [RN,Int.reduceBEq,Int.reduceBNe,Int.reduceLT,Int.reduceLE,Int.reduceAdd,Int.reduceSub,Int.reduceMul,Nat.reduceAdd,↓bc_flatz,↓bc_flat16,↓agg_bytez, p3_6]
  refine sg_steps h1 ?_
  have hs1 : ({ w with opn := false, steps := w.steps + 1 } : WS).steps = (i : Int) + 1 := by show w.steps + 1 = _; omega
  rw [hs1]
  simp -implicitDefEqProofs (maxSteps := 2000000) (disch := first|assumption|omega|rfl|(simp only[RD];done)|(simp only[RD];omega)) only [RN,Int.reduceBEq,Int.reduceBNe,Int.reduceLT,Int.reduceLE,Int.reduceAdd,Int.reduceSub,Int.reduceMul,Nat.reduceAdd,↓bc_flatz,↓bc_flat16,↓agg_bytez]
  refine sg_used h1 ?_
  have hu : ({ w with opn := false, steps := w.steps + 1 } : WS).grp.length = (ordL w.grp).length := (ordL_len _).symm
  rw [hu]
  have ol := ordL_len w.grp
  have old : ∀ {w' : WS} {s' : DS} {m' : Nat} {gv' : Value} {o' : List Int} {st' : Store} (_ : Sg l d A0 sB w' s' m' gv' o' st'), st'.get b0 = some (.cells (playV g sv yv kv kv2 x y) none) ∧ SlR st' 1 yv sy.length (ic sy) := fun {w' s' m' gv' o' st'} hh => by
    have hn : sB.next ≤ st'.next := by obtain ⟨_, _, _, _, _, _, u⟩ := hh.ex; exact u.next
    exact ⟨by rw [hh.old (Store.lt_of_get c0) n0, c0], hsv _ (fun q hq hn => hh.old hq hn) hn⟩
  obtain ⟨c1, hy1⟩ := old h1
  have so1 := h1.so
  simp -implicitDefEqProofs (maxSteps := 2000000) (disch := first|assumption|omega|rfl|(simp only[RD];done)|(simp only[RD];omega)) only [RN,Int.reduceBEq,Int.reduceBNe,Int.reduceLT,Int.reduceLE,Int.reduceAdd,Int.reduceSub,Int.reduceMul,Nat.reduceAdd,↓bc_flatz,↓bc_flat16,↓agg_bytez, so1.len, p3_5, c1, e4]
  refine in_ hy1 hsyl ?_
  by_cases hin : (i : Int) ∈ sy
  · rw [decide_eq_true hin]
    by_cases hnil : w.grp = []
    · have h0 : ¬ (0 : Int) < ((ordL w.grp).length : Nat) := by rw [hnil]; simp [ordL]
      simp -implicitDefEqProofs (maxSteps := 2000000) (disch := first|assumption|omega|rfl|(simp only[RD];done)|(simp only[RD];omega)) only [RN,Int.reduceBEq,Int.reduceBNe,Int.reduceLT,Int.reduceLE,Int.reduceAdd,Int.reduceSub,Int.reduceMul,Nat.reduceAdd,↓bc_flatz,↓bc_flat16,↓agg_bytez, p3_4, so1.len, decide_eq_false h0]
      refine sg_sync h1 hm0 rfl (by show w.commits < 2 ^ 62; omega) (fun _ => ?_) (fun hne => absurd hnil hne)
      simp -implicitDefEqProofs (maxSteps := 2000000) (disch := first|assumption|omega|rfl|(simp only[RD];done)|(simp only[RD];omega)) only [RN,Int.reduceBEq,Int.reduceBNe,Int.reduceLT,Int.reduceLE,Int.reduceAdd,Int.reduceSub,Int.reduceMul,Nat.reduceAdd,↓bc_flatz,↓bc_flat16,↓agg_bytez]
      refine sg_made h1 ?_
      try simp -implicitDefEqProofs (maxSteps := 2000000) (disch := first|assumption|omega|rfl|(simp only[RD];done)|(simp only[RD];omega)) only [RN,Int.reduceBEq,Int.reduceBNe,Int.reduceLT,Int.reduceLE,Int.reduceAdd,Int.reduceSub,Int.reduceMul,Nat.reduceAdd,↓bc_flatz,↓bc_flat16,↓agg_bytez]
      refine sg_commits h1 ?_
      simp -implicitDefEqProofs (maxSteps := 2000000) (disch := first|assumption|omega|rfl|(simp only[RD];done)|(simp only[RD];omega)) only [RN,Int.reduceBEq,Int.reduceBNe,Int.reduceLT,Int.reduceLE,Int.reduceAdd,Int.reduceSub,Int.reduceMul,Nat.reduceAdd,↓bc_flatz,↓bc_flat16,↓agg_bytez]
      have sg' : Sg l d A0 sB { w with opn := false, steps := w.steps + 1 } s (m + 600) (.slice none 0 0) (ordL ({ w with opn := false, steps := w.steps + 1 } : WS).grp) st1 := by
        obtain ⟨⟨F, G, L, D, A, AB, U0⟩, so, C, lv, M⟩ := h1
        refine ⟨⟨F, G, L, D, A, fun j hj hx => by simp [idsV] at hx, ⟨U0.next, fun j hj => ?_, U0.same⟩⟩, ?_, C.le (by omega), lv, M⟩
        · have hj : j ∈ F ++ G := by simpa [idsV] using hj
          exact U0.ids j (List.mem_append_left _ hj)
        · show SlG st1 1 _ (ordL w.grp).length (ic (ordL w.grp))
          rw [hnil]; exact SlG.nil
      exact hnext { w with opn := false, steps := w.steps + 1 } s _ st1 sg' rfl rfl (by show w.commits ≤ _; omega) hs1
    · have h0 : (0 : Int) < ((ordL w.grp).length : Nat) := by
        have : w.grp.length ≠ 0 := fun e => hnil (List.eq_nil_of_length_eq_zero e)
        omega
      simp -implicitDefEqProofs (maxSteps := 2000000) (disch := first|assumption|omega|rfl|(simp only[RD];done)|(simp only[RD];omega)) only [RN,Int.reduceBEq,Int.reduceBNe,Int.reduceLT,Int.reduceLE,Int.reduceAdd,Int.reduceSub,Int.reduceMul,Nat.reduceAdd,↓bc_flatz,↓bc_flat16,↓agg_bytez, p3_4, so1.len, decide_eq_true h0]
      refine sg_sync h1 hm0 rfl (by show w.commits < 2 ^ 62; omega) (fun e => absurd e hnil) (fun _ st2 h2 hmade => ?_)
      simp -implicitDefEqProofs (maxSteps := 2000000) (disch := first|assumption|omega|rfl|(simp only[RD];done)|(simp only[RD];omega)) only [RN,Int.reduceBEq,Int.reduceBNe,Int.reduceLT,Int.reduceLE,Int.reduceAdd,Int.reduceSub,Int.reduceMul,Nat.reduceAdd,↓bc_flatz,↓bc_flat16,↓agg_bytez]
      have hm2 : ((s.run (commitOps w.grp)).2).made = s.made + (2 * ((ordL w.grp).length : Nat) + 6) := by rw [ol]; exact hmade
      refine sg_made h2 ?_
      rw [show ((s.run (commitOps ({ w with opn := false, steps := w.steps + 1 } : WS).grp)).2).made = s.made + 2 * ((ordL w.grp).length : Nat) + 6 from by rw [show ({ w with opn := false, steps := w.steps + 1 } : WS).grp = w.grp from rfl, hm2]; omega]
      try simp -implicitDefEqProofs (maxSteps := 2000000) (disch := first|assumption|omega|rfl|(simp only[RD];done)|(simp only[RD];omega)) only [RN,Int.reduceBEq,Int.reduceBNe,Int.reduceLT,Int.reduceLE,Int.reduceAdd,Int.reduceSub,Int.reduceMul,Nat.reduceAdd,↓bc_flatz,↓bc_flat16,↓agg_bytez]
      refine sg_commits h2 ?_
      rw [show ({ w with opn := false, steps := w.steps + 1 } : WS).done.commits = w.commits + 1 from rfl]
      simp -implicitDefEqProofs (maxSteps := 2000000) (disch := first|assumption|omega|rfl|(simp only[RD];done)|(simp only[RD];omega)) only [RN,Int.reduceBEq,Int.reduceBNe,Int.reduceLT,Int.reduceLE,Int.reduceAdd,Int.reduceSub,Int.reduceMul,Nat.reduceAdd,↓bc_flatz,↓bc_flat16,↓agg_bytez]
      have sg' : Sg l d A0 sB ({ w with opn := false, steps := w.steps + 1 } : WS).done (s.run (commitOps w.grp)).2 (m + 600) (.slice none 0 0) (ordL (({ w with opn := false, steps := w.steps + 1 } : WS).done).grp) st2 := by
        obtain ⟨⟨F, G, L, D, A, AB, U0⟩, so, C, lv, M⟩ := h2
        refine ⟨⟨F, G, L, D, A, fun j hj hx => by simp [idsV] at hx, ⟨U0.next, fun j hj => ?_, U0.same⟩⟩, SlG.nil, C, lv, M⟩
        have hj : j ∈ F ++ G := by simpa [idsV] using hj
        exact U0.ids j (List.mem_append_left _ hj)
      have hx := hnext ({ w with opn := false, steps := w.steps + 1 } : WS).done (s.run (commitOps w.grp)).2 (.slice none 0 0) st2 sg' rfl rfl (by show w.commits + 1 ≤ _; omega) hs1
      rw [hm2, show s.made + (2 * ((ordL w.grp).length : Int) + 6) = s.made + 2 * ((ordL w.grp).length : Int) + 6 by omega] at hx
      exact hx
  · rw [decide_eq_false hin]
    simp -implicitDefEqProofs (maxSteps := 2000000) (disch := first|assumption|omega|rfl|(simp only[RD];done)|(simp only[RD];omega)) only [RN,Int.reduceBEq,Int.reduceBNe,Int.reduceLT,Int.reduceLE,Int.reduceAdd,Int.reduceSub,Int.reduceMul,Nat.reduceAdd,↓bc_flatz,↓bc_flat16,↓agg_bytez]
    refine sg_made h1 ?_
    try simp -implicitDefEqProofs (maxSteps := 2000000) (disch := first|assumption|omega|rfl|(simp only[RD];done)|(simp only[RD];omega)) only [RN,Int.reduceBEq,Int.reduceBNe,Int.reduceLT,Int.reduceLE,Int.reduceAdd,Int.reduceSub,Int.reduceMul,Nat.reduceAdd,↓bc_flatz,↓bc_flat16,↓agg_bytez]
    refine sg_commits h1 ?_
    simp -implicitDefEqProofs (maxSteps := 2000000) (disch := first|assumption|omega|rfl|(simp only[RD];done)|(simp only[RD];omega)) only [RN,Int.reduceBEq,Int.reduceBNe,Int.reduceLT,Int.reduceLE,Int.reduceAdd,Int.reduceSub,Int.reduceMul,Nat.reduceAdd,↓bc_flatz,↓bc_flat16,↓agg_bytez]
    have sg' : Sg l d A0 sB { w with opn := false, steps := w.steps + 1 } s (m + 600) gv (ordL ({ w with opn := false, steps := w.steps + 1 } : WS).grp) st1 := ⟨h1.ex, h1.so, h1.C.le (by omega), h1.lv, h1.mn⟩
    exact hnext { w with opn := false, steps := w.steps + 1 } s _ st1 sg' rfl rfl (by show w.commits ≤ _; omega) hs1
end Go.Proofs.Ytkmalbaollffiaa
