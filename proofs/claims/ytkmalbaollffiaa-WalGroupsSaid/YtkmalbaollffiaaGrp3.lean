/- WalGroups: the changes of a step, walked. -/
import Derived.Test.YtkmalbaollffiaaGrp2
set_option linter.all false
set_option maxRecDepth 100000
set_option maxHeartbeats 800000
namespace Go.Proofs.Ytkmalbaollffiaa
open Go.Am
variable {σ : Store} {Q : Value → Store → Prop} {g : Geo} {s : DS} {w : WS} {m : Nat} {l d : Nat} {F G B X : List Nat} {st sB : Store} {o : List Int} {A0 : List Nat} {gv : Value}
/-- One more block behind the law's list. -/
theorem Sg.app (h : Sg l d A0 sB w s m gv o st) (hcap : o.length < 1000) (y : Int) :
    ∃ gv' st', appendV 1 8 gv (.slice (some ⟨st.next, 0, none⟩) 1 1) (st.push (.cells [.int .i64 y] none)) = some (gv', st') ∧ Sg l d A0 sB w s m gv' (o ++ [y]) st' := by
  obtain ⟨⟨F, G, L, D, A, AB, U0⟩, so, C, lv, M⟩ := h
  obtain ⟨s3, hs3⟩ : ∃ s3, s3 = st.push (.cells [.int .i64 y] none) := ⟨_, rfl⟩
  have q3 : Keeps st s3 := by rw [hs3]; exact (Keeps.refl _).push _
  have c3 : s3.get st.next = some (.cells [.int .i64 y] none) := by rw [hs3]; exact Store.get_push_same _ _
  have n3 : s3.next = st.next + 1 := by rw [hs3, Store.next_push]
  obtain ⟨s4, a1, a2, a3, a4⟩ := SlG.app (by_ := 8) (k := 1) (gj := none) (so.same (σ' := s3) fun j hj => q3.2 j (so.lt j hj)) c3 rfl (by omega) (by omega) (by decide)
  rw [← hs3]
  refine ⟨_, s4, a1, ex_mut L D A AB U0 (by omega) (fun j hj hn => by rw [a4 j (by omega) hn, q3.2 j hj]) (fun j hj => ?_), ?_, C, lv, M⟩
  · have : j = s3.next := by simpa [idsV] using hj
    omega
  · rw [List.length_append, ic_app]; exact a2
theorem grp_in {K : Value → Store → Prop} {n32 : Value → Value → Value → Value → Store → Prop} {b0 b1 i : Nat} {sv yv kv kv2 : Value} {x y : Int} {ls : List Value} {t : List (Int × Int)} {v : Value} {md cm : Value} (hg : g.ok) (h3 : g.blocks ≤ 300)
    (h : Sg l d A0 sB w s m gv (ordL w.grp) st) (wg : w.g = g) (wo : w.opn = true) (hw0 : w.wrote = []) (hroom : (t.length : Int) ≤ w.room) (ht31 : t.length ≤ 31) (ht : ∀ p ∈ t, 0 ≤ p.2 ∧ p.2 < 256)
    (c0 : sB.get b0 = some (.cells (playV g sv yv kv kv2 x y) none)) (c1 : sB.get b1 = some (.cells (ic g.lay) none)) (n0 : b0 ∉ A0) (n1 : b1 ∉ A0) (hsv : ∀ st', (∀ j, j < sB.next → j ∉ A0 → st'.get j = sB.get j) → sB.next ≤ st'.next → SlR st' 1 sv ls.length ls ∧ StpV st' v t) (hi : ls[i]? = some v) (hil : i < 1000)
    (hend : ∀ (n131 : Value → Value → Store → Prop) (w' : WS) (gv' : Value) (st' : Store), Sg l d A0 sB w' s m gv' (ordL w'.grp) st' → w'.g = g → w'.opn = true → w'.commits = w.commits → w'.steps = w.steps → w'.mine = w.mine → p3_7 (.bool false) (.pointer (some ⟨b0, 0, none⟩)) st' (.int .i64 i) (.int .i64 (t.length : Nat)) (.pointer (some ⟨b1, 0, none⟩)) (.pointer (some ⟨l, 0, none⟩)) K gv' n131 md cm (.pointer (some ⟨d, 0, none⟩)) n32) :
    lop 2 (fun (n131 : Value → Value → Store → Prop) x132 x133 s134 =>
      vop (rdOne (s134.get b0) 3) s134 fun v137 s138 =>
      vop (iaddrS 1 v137 (.int .i64 i)) s138 fun v139 s140 =>
      vop (loadV false 1 v139 s140.get) s140 fun v141 s142 =>
      vop (lenSl v141) s142 fun v143 s144 =>
      vop (binI .lss x133 v143) s144 fun v145 s146 =>
      p3_7 v145 (.pointer (some ⟨b0, 0, none⟩)) s146 (.int .i64 i) x133 (.pointer (some ⟨b1, 0, none⟩)) (.pointer (some ⟨l, 0, none⟩)) K x132 n131 md cm (.pointer (some ⟨d, 0, none⟩)) n32) gv (.int .i64 0) st := by
  have hgg := hg
  unfold Geo.ok at hgg
  have hda : g.dataAt = 1 + g.log + g.nodeBlocks + g.bitsBlocks := rfl
  have hnb : g.nodeBlocks = (g.inodes + 16) / 16 := rfl
  have hbb : g.bitsBlocks = (g.blocks + 8191) / 8192 := rfl
  have e0 : rdOne (some (.cells (playV g sv yv kv kv2 x y) none)) 0 = some (.int .i64 g.blocks) := rfl
  have e3 : rdOne (some (.cells (playV g sv yv kv kv2 x y) none)) 3 = some sv := rfl
  have e4 : rdOne (some (.cells (ic g.lay) none)) 4 = some (.int .i64 (1 + g.log)) := rfl
  refine lop2 (fun k gv' x st' => ∃ (j : Nat) (w' : WS), k + j = t.length ∧ x = .int .i64 j ∧ Sg l d A0 sB w' s m gv' (ordL w'.grp) st' ∧ w'.g = g ∧ w'.opn = true ∧ w'.room = w.room ∧ w'.wrote.length ≤ j ∧ w'.commits = w.commits ∧ w'.steps = w.steps ∧ w'.mine = w.mine) t.length ⟨0, w, rfl, rfl, h, wg, wo, rfl, by rw [hw0]; exact Nat.le_refl _, rfl, rfl, rfl⟩ ?_
  rintro k gv' x' st' next ⟨j, w', hj, rfl, sg, wg', wo', wr', wl', wc', ws', wm'⟩ hnx
  have old : ∀ {q : Nat} {ob : SObj}, sB.get q = some ob → q ∉ A0 → st'.get q = some ob := fun hq hn => by rw [sg.old (Store.lt_of_get hq) hn, hq]
  have c0' := old c0 n0
  have c1' := old c1 n1
  have hnx' : sB.next ≤ st'.next := by obtain ⟨_, _, _, _, _, _, u⟩ := sg.ex; exact u.next
  obtain ⟨hls, hstp⟩ := hsv st' (fun q hq hn => sg.old hq hn) hnx'
  have hi' : i < ls.length := (List.getElem?_eq_some_iff.1 hi).1
  obtain ⟨a, oo, q1, q2, q3, q4⟩ := hls.at (by decide) hi'
  rw [Nat.mul_one, hi] at q4
  have q1' := q1 .i64
  by_cases h5 : (j : Int) < (t.length : Nat)
  · have h6 : j < t.length := by omega
    obtain ⟨p, hp⟩ : ∃ p, t[j]? = some p := ⟨_, List.getElem?_eq_getElem h6⟩
    have hpr := ht p (List.mem_of_getElem? hp)
    obtain ⟨a', o', r1, r2, r3, r4⟩ := hstp.2 j p hp
    simp -implicitDefEqProofs (maxSteps := 2000000) (disch := first|assumption|omega|rfl|(simp only[RD];done)|(simp only[RD];omega)) only [RN,Int.reduceBEq,Int.reduceBNe,Int.reduceLT,Int.reduceLE,Int.reduceAdd,Int.reduceSub,Int.reduceMul,Nat.reduceAdd,↓bc_flatz,↓bc_flat16,↓agg_bytez, c0', e3, q1', q4, hstp.1, decide_eq_true h5, p3_7, r1, r3, e0]
    simp -implicitDefEqProofs (maxSteps := 2000000) (disch := first|assumption|omega|rfl|(simp only[RD];done)|(simp only[RD];omega)) only [RN,Int.reduceBEq,Int.reduceBNe,Int.reduceLT,Int.reduceLE,Int.reduceAdd,Int.reduceSub,Int.reduceMul,Nat.reduceAdd,↓bc_flatz,↓bc_flat16,↓agg_bytez, p3_3, c0', c1', e0, e4]
    refine pick_ (by omega) (by omega) ?_
    have m1 := Int.emod_nonneg p.1 (show g.blocks - (1 + g.log) ≠ 0 by omega)
    have m2 := Int.emod_lt_of_pos p.1 (show 0 < g.blocks - (1 + g.log) by omega)
    obtain ⟨z, hz⟩ : ∃ z, z = 1 + g.log + p.1 % (g.blocks - (1 + g.log)) := ⟨_, rfl⟩
    simp -implicitDefEqProofs (maxSteps := 2000000) (disch := first|assumption|omega|rfl|(simp only[RD];done)|(simp only[RD];omega)) only [RN,Int.reduceBEq,Int.reduceBNe,Int.reduceLT,Int.reduceLE,Int.reduceAdd,Int.reduceSub,Int.reduceMul,Nat.reduceAdd,↓bc_flatz,↓bc_flat16,↓agg_bytez, c0', c1', e4, e3, q1', q4, r1]
    rw [← hz]
    simp -implicitDefEqProofs (maxSteps := 2000000) (disch := first|assumption|omega|rfl|(simp only[RD];done)|(simp only[RD];omega)) only [RN,Int.reduceBEq,Int.reduceBNe,Int.reduceLT,Int.reduceLE,Int.reduceAdd,Int.reduceSub,Int.reduceMul,Nat.reduceAdd,↓bc_flatz,↓bc_flat16,↓agg_bytez, p3_2, r4]
    refine block_ hpr.1 hpr.2 ?_
    try simp -implicitDefEqProofs (maxSteps := 2000000) (disch := first|assumption|omega|rfl|(simp only[RD];done)|(simp only[RD];omega)) only [RN,Int.reduceBEq,Int.reduceBNe,Int.reduceLT,Int.reduceLE,Int.reduceAdd,Int.reduceSub,Int.reduceMul,Nat.reduceAdd,↓bc_flatz,↓bc_flat16,↓agg_bytez]
    refine sg_write sg (blk_len p.2) (x := z) fun st2 sg2 => ?_
    have hW := sg.ok
    have e00 : (w'.write z (blk p.2)).1 = 0 := by
      rw [write_want hW wo', wg', wr', if_neg (by omega), if_neg (fun h => by have := h.2; omega)]
    rw [e00]
    try simp -implicitDefEqProofs (maxSteps := 2000000) (disch := first|assumption|omega|rfl|(simp only[RD];done)|(simp only[RD];omega)) only [RN,Int.reduceBEq,Int.reduceBNe,Int.reduceLT,Int.reduceLE,Int.reduceAdd,Int.reduceSub,Int.reduceMul,Nat.reduceAdd,↓bc_flatz,↓bc_flat16,↓agg_bytez]
    obtain ⟨f1, f2, f3, f4, f5, f6⟩ := write_keeps w' z (blk p.2)
    obtain ⟨w1, w2⟩ := write_yes e00
    have ol := ordL_len w'.grp
    have hcap : (ordL w'.grp).length < 1000 := by have := hW.many; rw [wg', ← ol] at this; omega
    refine in_ sg2.so.r (by omega) ?_
    have wl2 : (w'.write z (blk p.2)).2.wrote.length ≤ j + 1 := by
      rw [w2]; unfold addL; split
      · omega
      · rw [List.length_append]; simp; omega
    by_cases hin : z ∈ ordL w'.grp
    · have ho : ordL (w'.write z (blk p.2)).2.grp = ordL w'.grp := by rw [w1, ordL_put]; exact if_pos hin
      rw [← ho] at sg2
      rw [decide_eq_true hin]
      simp -implicitDefEqProofs (maxSteps := 2000000) (disch := first|assumption|omega|rfl|(simp only[RD];done)|(simp only[RD];omega)) only [RN,Int.reduceBEq,Int.reduceBNe,Int.reduceLT,Int.reduceLE,Int.reduceAdd,Int.reduceSub,Int.reduceMul,Nat.reduceAdd,↓bc_flatz,↓bc_flat16,↓agg_bytez]
      exact hnx _ _ _ (by omega) ⟨j + 1, _, by omega, by congr 1, sg2, by rw [f1, wg'], by rw [f3, wo'], by rw [f4, wr'], wl2, by rw [f5, wc'], by rw [f6, ws'], by rw [f2, wm']⟩
    · have ho : ordL (w'.write z (blk p.2)).2.grp = ordL w'.grp ++ [z] := by rw [w1, ordL_put]; exact if_neg hin
      obtain ⟨gv2, st3, a1, sg3⟩ := sg2.app hcap z
      rw [← ho] at sg3
      rw [decide_eq_false hin]
      simp -implicitDefEqProofs (maxSteps := 2000000) (disch := first|assumption|omega|rfl|(simp only[RD];done)|(simp only[RD];omega)) only [RN,Int.reduceBEq,Int.reduceBNe,Int.reduceLT,Int.reduceLE,Int.reduceAdd,Int.reduceSub,Int.reduceMul,Nat.reduceAdd,↓bc_flatz,↓bc_flat16,↓agg_bytez, a1]
      exact hnx _ _ _ (by omega) ⟨j + 1, _, by omega, by congr 1, sg3, by rw [f1, wg'], by rw [f3, wo'], by rw [f4, wr'], wl2, by rw [f5, wc'], by rw [f6, ws'], by rw [f2, wm']⟩
  · have h6 : j = t.length := by omega
    simp -implicitDefEqProofs (maxSteps := 2000000) (disch := first|assumption|omega|rfl|(simp only[RD];done)|(simp only[RD];omega)) only [RN,Int.reduceBEq,Int.reduceBNe,Int.reduceLT,Int.reduceLE,Int.reduceAdd,Int.reduceSub,Int.reduceMul,Nat.reduceAdd,↓bc_flatz,↓bc_flat16,↓agg_bytez, c0', e3, q1', q4, hstp.1, decide_eq_false h5]
    rw [h6]
    exact hend _ w' gv' st' sg wg' wo' wc' ws' wm'
end Go.Proofs.Ytkmalbaollffiaa
