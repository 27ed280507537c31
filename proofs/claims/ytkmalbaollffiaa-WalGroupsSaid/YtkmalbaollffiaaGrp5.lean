/- WalGroups: the loop over the steps. -/
import Derived.Test.YtkmalbaollffiaaGrp4
set_option linter.all false
set_option maxRecDepth 100000
set_option maxHeartbeats 800000
namespace Go.Proofs.Ytkmalbaollffiaa
open Go.Am
variable {σ : Store} {Q : Value → Store → Prop} {g : Geo} {s : DS} {w : WS} {m : Nat} {l d : Nat} {F G B X : List Nat} {st sB : Store} {o : List Int} {A0 : List Nat} {gv : Value}
theorem Sg.reset (h : Sg l d A0 sB w s m gv o st) : Sg l d A0 sB w s m (.slice none 0 0) [] st := by
  obtain ⟨⟨F, G, L, D, A, AB, U0⟩, so, C, lv, M⟩ := h
  refine ⟨⟨F, G, L, D, A, fun j hj hx => by simp [idsV] at hx, ⟨U0.next, fun j hj => ?_, U0.same⟩⟩, SlG.nil, C, lv, M⟩
  have hj : j ∈ F ++ G := by simpa [idsV] using hj
  exact U0.ids j (List.mem_append_left _ hj)
theorem grp_main {K : Value → Store → Prop} {b0 b1 : Nat} {sv yv kv kv2 : Value} {x y : Int} {ls : List Value} {steps : List (List (Int × Int))} {sy : List Int} (hsyl : sy.length < 2 ^ 63) (hg : g.ok) (h3 : g.blocks ≤ 300) (h40 : steps.length ≤ 40) (h31 : ∀ t ∈ steps, t.length ≤ 31) (hby : ∀ t ∈ steps, ∀ p ∈ t, 0 ≤ p.2 ∧ p.2 < 256) (hll : ls.length = steps.length)
    (h : Sg l d A0 sB w s 2 (.slice none 0 0) (ordL w.grp) sB) (wg : w.g = g) (wo : w.opn = false) (hc : w.commits = 0) (hs : w.steps = 0) (hmd : s.made = 0)
    (c0 : sB.get b0 = some (.cells (playV g sv yv kv kv2 x y) none)) (c1 : sB.get b1 = some (.cells (ic g.lay) none)) (n0 : b0 ∉ A0) (n1 : b1 ∉ A0)
    (hsv : ∀ st', (∀ j, j < sB.next → j ∉ A0 → st'.get j = sB.get j) → sB.next ≤ st'.next → SlR st' 1 sv ls.length ls ∧ SlR st' 1 yv sy.length (ic sy) ∧ ∀ (i : Nat) v t, ls[i]? = some v → steps[i]? = some t → StpV st' v t) (hK : ∀ st', K (.bool true) st') :
    lop 4 (fun (n32 : Value → Value → Value → Value → Store → Prop) x33 x34 x35 x36 s37 =>
      vop (rdOne (s37.get b0) 3) s37 fun v40 s41 =>
      vop (lenSl v40) s41 fun v42 s43 =>
      vop (binI .lss x36 v42) s43 fun v44 s45 =>
      condH v44 (p3_10 (.pointer (some ⟨b0, 3, none⟩)) s45 x36 x35 (.pointer (some ⟨b0, 0, none⟩)) x33 x34 (.pointer (some ⟨l, 0, none⟩)) K (.pointer (some ⟨d, 0, none⟩)) (.pointer (some ⟨b1, 0, none⟩)) n32) (K (.bool true) s45)) (.int .i64 0) (.int .i64 0) (.slice none 0 0) (.int .i64 0) sB := by
  have hgg := hg
  unfold Geo.ok at hgg
  have e3 : rdOne (some (.cells (playV g sv yv kv kv2 x y) none)) 3 = some sv := rfl
  have e1 : rdOne (some (.cells (playV g sv yv kv kv2 x y) none)) 1 = some (.int .i64 g.log) := rfl
  refine lop4 (fun k md cm gv x36 st => ∃ (i : Nat) (w : WS) (s : DS), k + i = steps.length ∧ md = .int .i64 s.made ∧ cm = .int .i64 w.commits ∧ x36 = .int .i64 i ∧ Sg l d A0 sB w s (2 + 1200 * i) gv (ordL w.grp) st ∧ w.g = g ∧ w.opn = false ∧ w.commits ≤ 2 * i ∧ w.steps = i) steps.length ⟨0, w, s, rfl, by rw [hmd], by rw [hc], rfl, h, wg, wo, by omega, by omega⟩ ?_
  rintro k md cm gv x36 st next ⟨i, w, s, hi, rfl, rfl, rfl, sg, wg, wo, wc, ws⟩ hnx
  have old : ∀ {q : Nat} {ob : SObj}, sB.get q = some ob → q ∉ A0 → st.get q = some ob := fun hq hn => by rw [sg.old (Store.lt_of_get hq) hn, hq]
  have c0' := old c0 n0
  have hnx' : sB.next ≤ st.next := by obtain ⟨_, _, _, _, _, _, u⟩ := sg.ex; exact u.next
  obtain ⟨hls, hsy, hstp⟩ := hsv st (fun q hq hn => sg.old hq hn) hnx'
  by_cases h5 : (i : Int) < (ls.length : Nat)
  · have h6 : i < ls.length := by omega
    have h6' : i < steps.length := by omega
    obtain ⟨a, oo, q1, q2, q3, q4⟩ := hls.at (by decide) h6
    have hv : ls[i]? = some ls[i] := List.getElem?_eq_getElem h6
    have ht : steps[i]? = some steps[i] := List.getElem?_eq_getElem h6'
    rw [Nat.mul_one, hv] at q4
    have q1' := q1 .i64
    have hst := hstp i _ _ hv ht
    have h31' := h31 _ (List.getElem_mem h6')
    have so := sg.so
    have ol := ordL_len w.grp
    simp -implicitDefEqProofs (maxSteps := 2000000) (disch := first|assumption|omega|rfl|(simp only[RD];done)|(simp only[RD];omega)) only [RN,Int.reduceBEq,Int.reduceBNe,Int.reduceLT,Int.reduceLE,Int.reduceAdd,Int.reduceSub,Int.reduceMul,Nat.reduceAdd,↓bc_flatz,↓bc_flat16,↓agg_bytez, c0', e3, hls.len, decide_eq_true h5, p3_10, q1', q4, hst.1, so.len]
    have hW := sg.ok
    have hmany := hW.many
    rw [wg] at hmany
    have hcn := hW.cnt
    have hmm := sg.C.made
    have hm0 := sg.C.ok.made0
    obtain ⟨r, hr⟩ : ∃ r : Int, r = max 1 ((steps[i].length : Nat) : Int) := ⟨_, rfl⟩
    have hr1 : 1 ≤ r ∧ r ≤ 31 ∧ ((steps[i].length : Nat) : Int) ≤ r := by omega
    rw [← hr]
    have rest : ∀ (w1 : WS) (s1 : DS) (m1 : Nat) (gv1 : Value) (st1 : Store), Sg l d A0 sB w1 s1 m1 gv1 (ordL w1.grp) st1 → m1 ≤ 2 + 1200 * i + 600 → w1.g = g → w1.opn = true → w1.wrote = [] → w1.room = r → w1.commits ≤ 2 * i + 1 → w1.steps = i →
        p3_9 (.bool false) st1 K (.int .i64 s1.made) (.int .i64 s1.made) (.pointer (some ⟨l, 0, none⟩)) (.int .i64 w1.commits) gv1 (.pointer (some ⟨b0, 0, none⟩)) (.int .i64 i) (.pointer (some ⟨b1, 0, none⟩)) (.int .i64 s1.made) (.pointer (some ⟨d, 0, none⟩)) next := fun w1 s1 m1 gv1 st1 sg1 hm1 wg1 wo1 ww1 wr1 wc1 ws1 => by
      have ol1 := ordL_len w1.grp
      have so1 := sg1.so
      have hW1 := sg1.ok
      have hma := hW1.many
      rw [wg1] at hma
      have hmm1 := sg1.C.made
      have hm01 := sg1.C.ok.made0
      simp -implicitDefEqProofs (maxSteps := 2000000) (disch := first|assumption|omega|rfl|(simp only[RD];done)|(simp only[RD];omega)) only [RN,Int.reduceBEq,Int.reduceBNe,Int.reduceLT,Int.reduceLE,Int.reduceAdd,Int.reduceSub,Int.reduceMul,Nat.reduceAdd,↓bc_flatz,↓bc_flat16,↓agg_bytez, p3_9]
      refine sg_commits sg1 ?_
      simp -implicitDefEqProofs (maxSteps := 2000000) (disch := first|assumption|omega|rfl|(simp only[RD];done)|(simp only[RD];omega)) only [RN,Int.reduceBEq,Int.reduceBNe,Int.reduceLT,Int.reduceLE,Int.reduceAdd,Int.reduceSub,Int.reduceMul,Nat.reduceAdd,↓bc_flatz,↓bc_flat16,↓agg_bytez]
      refine sg_used sg1 ?_
      rw [← ol1]
      simp -implicitDefEqProofs (maxSteps := 2000000) (disch := first|assumption|omega|rfl|(simp only[RD];done)|(simp only[RD];omega)) only [RN,Int.reduceBEq,Int.reduceBNe,Int.reduceLT,Int.reduceLE,Int.reduceAdd,Int.reduceSub,Int.reduceMul,Nat.reduceAdd,↓bc_flatz,↓bc_flat16,↓agg_bytez, so1.len, p3_8]
      refine sg_open sg1 ?_
      rw [wo1]
      simp -implicitDefEqProofs (maxSteps := 2000000) (disch := first|assumption|omega|rfl|(simp only[RD];done)|(simp only[RD];omega)) only [RN,Int.reduceBEq,Int.reduceBNe,Int.reduceLT,Int.reduceLE,Int.reduceAdd,Int.reduceSub,Int.reduceMul,Nat.reduceAdd,↓bc_flatz,↓bc_flat16,↓agg_bytez]
      refine grp_in (ls := ls) (t := steps[i]) (v := ls[i]) hg h3 sg1 wg1 wo1 ww1 (by omega) h31' (hby _ (List.getElem_mem h6')) c0 c1 n0 n1 (fun st' h1 h2 => ⟨(hsv st' h1 h2).1, (hsv st' h1 h2).2.2 i _ _ hv ht⟩) hv (by omega) fun n131 w2 gv2 st2 sg2 wg2 wo2 wc2 ws2 wm2 => ?_
      have hW2 := sg2.ok
      have hma2 := hW2.many
      rw [wg2] at hma2
      rw [← wc2]
      refine grp_end (i := i) (sy := sy) hsyl sg2 (by omega) wo2 (by omega) (by omega) (by omega) (by omega) (by omega) c0 n0 (fun st' h1 h2 => (hsv st' h1 h2).2.1) fun w3 s3 gv3 st3 sg3 wg3 wo3 wc3 ws3 => ?_
      exact hnx _ _ _ _ _ (by omega) ⟨i + 1, w3, s3, by omega, rfl, rfl, by congr 1, ⟨sg3.ex, sg3.so, sg3.C.le (by omega), sg3.lv, sg3.mn⟩, by rw [wg3, wg2], wo3, by omega, by omega⟩
    by_cases hcm : g.log - 1 < ((ordL w.grp).length : Nat) + r
    · simp -implicitDefEqProofs (maxSteps := 2000000) (disch := first|assumption|omega|rfl|(simp only[RD];done)|(simp only[RD];omega)) only [RN,Int.reduceBEq,Int.reduceBNe,Int.reduceLT,Int.reduceLE,Int.reduceAdd,Int.reduceSub,Int.reduceMul,Nat.reduceAdd,↓bc_flatz,↓bc_flat16,↓agg_bytez, p3_1, c0', e1, decide_eq_true hcm, so.len]
      refine sg_begin sg (by omega) wo (by omega) (r := r) (by rw [wg]; omega) (fun h => by rw [wg] at h; omega) fun _ st1 sg1 hmade => ?_
      try simp -implicitDefEqProofs (maxSteps := 2000000) (disch := first|assumption|omega|rfl|(simp only[RD];done)|(simp only[RD];omega)) only [RN,Int.reduceBEq,Int.reduceBNe,Int.reduceLT,Int.reduceLE,Int.reduceAdd,Int.reduceSub,Int.reduceMul,Nat.reduceAdd,↓bc_flatz,↓bc_flat16,↓agg_bytez]
      refine sg_made sg1 ?_
      have hx := rest _ _ _ _ st1 (show Sg l d A0 sB (w.done.begin r) (s.run (commitOps w.grp)).2 (2 + 1200 * i + 600) (.slice none 0 0) (ordL (w.done.begin r).grp) st1 from sg1.reset) (by omega) wg rfl rfl rfl (by show w.commits + 1 ≤ _; omega) ws
      rw [show (w.done.begin r).commits = w.commits + 1 from rfl, hmade, ← ol] at hx
      rw [hmade, ← ol]
      rw [show s.made + (2 * ((ordL w.grp).length : Int) + 6) = s.made + 2 * ((ordL w.grp).length : Int) + 6 by omega] at hx ⊢
      try simp -implicitDefEqProofs (maxSteps := 2000000) (disch := first|assumption|omega|rfl|(simp only[RD];done)|(simp only[RD];omega)) only [RN,Int.reduceBEq,Int.reduceBNe,Int.reduceLT,Int.reduceLE,Int.reduceAdd,Int.reduceSub,Int.reduceMul,Nat.reduceAdd,↓bc_flatz,↓bc_flat16,↓agg_bytez]
      exact hx
    · simp -implicitDefEqProofs (maxSteps := 2000000) (disch := first|assumption|omega|rfl|(simp only[RD];done)|(simp only[RD];omega)) only [RN,Int.reduceBEq,Int.reduceBNe,Int.reduceLT,Int.reduceLE,Int.reduceAdd,Int.reduceSub,Int.reduceMul,Nat.reduceAdd,↓bc_flatz,↓bc_flat16,↓agg_bytez, p3_1, c0', e1, decide_eq_false hcm]
      refine sg_begin sg (by omega) wo (by omega) (r := r) (by rw [wg]; omega) (fun _ st1 sg1 => ?_) fun h => by rw [wg] at h; omega
      try simp -implicitDefEqProofs (maxSteps := 2000000) (disch := first|assumption|omega|rfl|(simp only[RD];done)|(simp only[RD];omega)) only [RN,Int.reduceBEq,Int.reduceBNe,Int.reduceLT,Int.reduceLE,Int.reduceAdd,Int.reduceSub,Int.reduceMul,Nat.reduceAdd,↓bc_flatz,↓bc_flat16,↓agg_bytez]
      refine sg_made sg1 ?_
      try simp -implicitDefEqProofs (maxSteps := 2000000) (disch := first|assumption|omega|rfl|(simp only[RD];done)|(simp only[RD];omega)) only [RN,Int.reduceBEq,Int.reduceBNe,Int.reduceLT,Int.reduceLE,Int.reduceAdd,Int.reduceSub,Int.reduceMul,Nat.reduceAdd,↓bc_flatz,↓bc_flat16,↓agg_bytez]
      exact rest (w.begin r) s (2 + 1200 * i) gv st1 sg1 (by omega) wg rfl rfl rfl (by show w.commits ≤ _; omega) ws
  · simp -implicitDefEqProofs (maxSteps := 2000000) (disch := first|assumption|omega|rfl|(simp only[RD];done)|(simp only[RD];omega)) only [RN,Int.reduceBEq,Int.reduceBNe,Int.reduceLT,Int.reduceLE,Int.reduceAdd,Int.reduceSub,Int.reduceMul,Nat.reduceAdd,↓bc_flatz,↓bc_flat16,↓agg_bytez, c0', e3, hls.len, decide_eq_false h5]
    exact hK _
end Go.Proofs.Ytkmalbaollffiaa
