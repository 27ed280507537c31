/- Chapter 08: run. -/
import Derived.Test.YtkmalbaollffiaaRun10
set_option linter.all false
set_option maxRecDepth 100000
set_option maxHeartbeats 800000
namespace Go.Proofs.Ytkmalbaollffiaa
open Go.Am
variable {σ st st' : Store} {l d : Nat} {w : WS} {s : DS} {m bn : Nat} {Q : Value → Store → Prop} {g : Geo}
variable {sv yv kv kv2 : Value} {x y : Int} {ls : List Value} {steps : List (List (Int × Int))} {sy : List Int}
theorem run_ (hg : g.ok) (h3 : g.blocks ≤ 300) (hbn : (bn : Int) = g.blocks - (1 + g.log)) (h40 : steps.length ≤ 40) (h31 : ∀ t ∈ steps, t.length ≤ 31) (hby : ∀ t ∈ steps, ∀ p ∈ t, 0 ≤ p.2 ∧ p.2 < 256) (hll : ls.length = steps.length) (hsyl : sy.length < 2 ^ 63)
    (h : Rn σ st l d w s m []) (hm : m ≤ 1000) (wg : w.g = g) (wo : w.opn = false) (hgr : w.grp = []) (hc : w.commits = 0) (hst0 : w.steps = 0) (hz : s.at 1 = zb) (hwt : s.wait = [])
    (hsv : ∀ st', Keeps σ st' → SlR st' 1 sv ls.length ls ∧ SlR st' 1 yv sy.length (ic sy) ∧ ∀ (i : Nat) v t, ls[i]? = some v → steps[i]? = some t → StpV st' v t)
    (hq : ∀ st' w' s' sid oid iid og c T least cs, Rm σ st' l d w' s' 100000 sid oid iid og c T bn steps.length least cs → w'.g = g → w'.opn = false → w'.commits ≤ 100 → TW bn T w' s' → s'.at 1 = zb → s'.wait = [] → Q (.agg ⟨scC (.slice (some ⟨oid, 0, og⟩) (steps.length + 1) (steps.length + 1)) least (steps.length : Nat)⟩) st') :
    Does Try.prog 25 [.pointer (some ⟨d, 0, none⟩), .pointer (some ⟨l, 0, none⟩), .agg ⟨ic g.lay⟩, .agg ⟨playV g sv yv kv kv2 x y⟩] st Q := by
  have hgg := hg
  unfold Geo.ok at hgg
  have hda : g.dataAt = 1 + g.log + g.nodeBlocks + g.bitsBlocks := rfl
  have hnb : g.nodeBlocks = (g.inodes + 16) / 16 := rfl
  have hbb : g.bitsBlocks = (g.blocks + 8191) / 8192 := rfl
  have hbn' : 0 < bn ∧ bn ≤ 300 := by omega
  refine d25 ?_
  have bx : boxN (.agg ⟨playV g sv yv kv kv2 x y⟩) = some (.cells (playV g sv yv kv kv2 x y) none, ptrTo) := rfl
  have l9 : (ic g.lay).length = 9 := rfl
  have e3 : rdOne (some (.cells (playV g sv yv kv kv2 x y) none)) 3 = some sv := rfl
  have u4 : unrle [(1, Value.slice none 0 0), (2, .int .i64 0), (1, .bool false)] = [.slice none 0 0, .int .i64 0, .int .i64 0, .bool false] := rfl
  obtain ⟨s1, hs1⟩ : ∃ s1, s1 = st.push (.cells (ic g.lay) none) := ⟨_, rfl⟩
  have hR1 := h.push (.cells (ic g.lay) none)
  rw [← hs1] at hR1
  obtain ⟨s2, hs2⟩ : ∃ s2, s2 = s1.push (.cells (playV g sv yv kv kv2 x y) none) := ⟨_, rfl⟩
  have hR2 := hR1.push (.cells (playV g sv yv kv kv2 x y) none)
  rw [← hs2] at hR2
  obtain ⟨s3, hs3⟩ : ∃ s3, s3 = s2.push (.cells [.slice none 0 0, .int .i64 0, .int .i64 0, .bool false] none) := ⟨_, rfl⟩
  have hR3 := hR2.push (.cells [.slice none 0 0, .int .i64 0, .int .i64 0, .bool false] none)
  rw [← hs3] at hR3
  have c0 : s3.get st.next = some (.cells (ic g.lay) none) := hR3.get (by simp)
  unfold p25
  rw [box_agg, nop_some, ← hs1, bx, nop_some, ← hs2, u4, nop_some, ← hs3]
  simp -implicitDefEqProofs (maxSteps := 2000000) (disch := first|assumption|omega|rfl|(simp only[RD];done)|(simp only[RD];omega)) only [RN,Int.reduceBEq,Int.reduceBNe,Int.reduceLT,Int.reduceLE,Int.reduceAdd,Int.reduceSub,Int.reduceMul,Nat.reduceAdd,↓bc_flatz,↓bc_flat16,↓agg_bytez, c0, l9]
  refine behind_ hR3 wg hg (by omega) h3 hbn fun st4 fid r hR4 hf hne4 => ?_
  obtain ⟨T0, hT0⟩ : ∃ T0, T0 = atB s (1 + g.log) bn := ⟨_, rfl⟩
  rw [← hT0] at hR4
  obtain ⟨u, hu⟩ : ∃ u : Value, u = .slice (some ⟨fid, 0, some 1024⟩) bn bn := ⟨_, rfl⟩
  have hR5 := hR4.push (.cells [u] none)
  have hR6 := hR5.push (.cells (scC (.slice (some ⟨st4.next, 0, none⟩) 1 1) 0 0) none)
  obtain ⟨s6, hs6⟩ : ∃ s6, s6 = (st4.push (.cells [u] none)).push (.cells (scC (.slice (some ⟨st4.next, 0, none⟩) 1 1) 0 0) none) := ⟨_, rfl⟩
  rw [← hs6] at hR6
  have n5 : (st4.push (.cells [u] none)).next = st4.next + 1 := Store.next_push _ _
  rw [n5] at hR6
  have hge4 : σ.next ≤ st4.next := hR4.keeps.1
  have hlt4 : ∀ p ∈ (fid, SObj.cells (bc T0) (some 1024)) :: (s2.next, SObj.cells [.slice none 0 0, .int .i64 0, .int .i64 0, .bool false] none) :: (s1.next, .cells (playV g sv yv kv kv2 x y) none) :: [(st.next, .cells (ic g.lay) none)], p.1 < st4.next := fun p hp => Store.lt_of_get (hR4.get (j := p.1) (o := p.2) hp)
  have R0 : Rm σ s6 l d w { s with reads := r } (m + 300) (st4.next + 1) st4.next fid none [u] T0 bn 0 0 ((s2.next, SObj.cells [.slice none 0 0, .int .i64 0, .int .i64 0, .bool false] none) :: (s1.next, .cells (playV g sv yv kv kv2 x y) none) :: [(st.next, .cells (ic g.lay) none)]) :=
    ⟨hR6, by omega, hge4, fun p hp => by
      rcases List.mem_cons.1 hp with rfl | hp
      · exact Nat.ne_of_lt (Nat.lt_succ_self _)
      · have := hlt4 p hp; omega, fun p hp => by have := hlt4 p hp; omega, rfl, by rw [hu]; rfl, .inr ⟨rfl, rfl⟩⟩
  have g4 : ([.slice none 0 0, .int .i64 0, .int .i64 0, .bool false] : List Value).length = 4 := rfl
  have hsc : ([.slice (some ⟨st4.next, 0, none⟩) 1 1, .int .i64 0, .int .i64 0, .bool true] : List Value) = scC (.slice (some ⟨st4.next, 0, none⟩) 1 1) 0 0 := rfl
  have hT : TW bn T0 w { s with reads := r } := by
    refine ⟨by rw [hT0]; exact atB_len h.C _ _, fun z hzb => ?_⟩
    rw [hT0, atB_at h.C _ _ hzb, wg]
    unfold WS.at
    rw [hgr]; rfl
  simp -implicitDefEqProofs (maxSteps := 2000000) (disch := first|assumption|omega|rfl|(simp only[RD];done)|(simp only[RD];omega)) only [RN,Int.reduceBEq,Int.reduceBNe,Int.reduceLT,Int.reduceLE,Int.reduceAdd,Int.reduceSub,Int.reduceMul,Nat.reduceAdd,↓bc_flatz,↓bc_flat16,↓agg_bytez, p25_11, u4, g4]
  rw [hsc, ← hu, ← hs6]
  refine lop1 (fun k xx st' => ∃ (i : Nat) (w : WS) (s : DS) (oid iid : Nat) (og : Option Nat) (c : List Value) (T : List Int) (least : Int), k + i = steps.length ∧ xx = .int .i64 i ∧ Rm σ st' l d w s (m + 300 + 1300 * i) (st4.next + 1) oid iid og c T bn i least ((s2.next, SObj.cells [.slice none 0 0, .int .i64 0, .int .i64 0, .bool false] none) :: (s1.next, .cells (playV g sv yv kv kv2 x y) none) :: [(st.next, .cells (ic g.lay) none)]) ∧ w.g = g ∧ w.opn = false ∧ w.commits ≤ 2 * i ∧ w.steps = i ∧ TW bn T w s ∧ s.at 1 = zb ∧ s.wait = []) steps.length ⟨0, w, _, st4.next, fid, none, [u], T0, 0, rfl, rfl, R0, wg, wo, by omega, by omega, hT, hz, hwt⟩ ?_
  rintro k xx st7 next ⟨i, w7, s7, oid, iid, og, c, T, least, hi, rfl, R, wg7, wo7, wc7, ws7, hT7, hz7, hwt7⟩ hnx
  have m0 : (st.next, SObj.cells (ic g.lay) none) ∈ (s2.next, SObj.cells [.slice none 0 0, .int .i64 0, .int .i64 0, .bool false] none) :: (s1.next, .cells (playV g sv yv kv kv2 x y) none) :: [(st.next, .cells (ic g.lay) none)] := by simp
  have m2 : (s1.next, SObj.cells (playV g sv yv kv kv2 x y) none) ∈ (s2.next, SObj.cells [.slice none 0 0, .int .i64 0, .int .i64 0, .bool false] none) :: (s1.next, .cells (playV g sv yv kv kv2 x y) none) :: [(st.next, .cells (ic g.lay) none)] := by simp
  have m4 : (s2.next, SObj.cells [.slice none 0 0, .int .i64 0, .int .i64 0, .bool false] none) ∈ (s2.next, SObj.cells [.slice none 0 0, .int .i64 0, .int .i64 0, .bool false] none) :: (s1.next, .cells (playV g sv yv kv kv2 x y) none) :: [(st.next, .cells (ic g.lay) none)] := by simp
  generalize hcs : (s2.next, SObj.cells [.slice none 0 0, .int .i64 0, .int .i64 0, .bool false] none) :: (s1.next, .cells (playV g sv yv kv kv2 x y) none) :: [(st.next, .cells (ic g.lay) none)] = cs at R m0 m2 m4 hnx
  have c2 := R.cc m2
  obtain ⟨hls, hsy, hstp⟩ := hsv st7 R.r.keeps
  by_cases h5 : (i : Int) < (ls.length : Nat)
  · have h6 : i < ls.length := by omega
    have h6' : i < steps.length := by omega
    obtain ⟨a, oo, q1, q2, q3, q4⟩ := hls.at (by decide) h6
    have hv : ls[i]? = some ls[i] := List.getElem?_eq_getElem h6
    have ht : steps[i]? = some steps[i] := List.getElem?_eq_getElem h6'
    rw [Nat.mul_one, hv] at q4
    have q1' := q1 .i64
    have hst := hstp i _ _ hv ht
    have h31' := h31 _ (List.getElem_mem h6')
    have hW := R.r.ok
    have hcn := hW.cnt
    simp -implicitDefEqProofs (maxSteps := 2000000) (disch := first|assumption|omega|rfl|(simp only[RD];done)|(simp only[RD];omega)) only [RN,Int.reduceBEq,Int.reduceBNe,Int.reduceLT,Int.reduceLE,Int.reduceAdd,Int.reduceSub,Int.reduceMul,Nat.reduceAdd,↓bc_flatz,↓bc_flat16,↓agg_bytez, c2, e3, hls.len, decide_eq_true h5, p25_10]
    refine rn_commits R.r ?_
    simp -implicitDefEqProofs (maxSteps := 2000000) (disch := first|assumption|omega|rfl|(simp only[RD];done)|(simp only[RD];omega)) only [RN,Int.reduceBEq,Int.reduceBNe,Int.reduceLT,Int.reduceLE,Int.reduceAdd,Int.reduceSub,Int.reduceMul,Nat.reduceAdd,↓bc_flatz,↓bc_flat16,↓agg_bytez, c2, e3, q1', q4, hst.1]
    obtain ⟨r7, hr7⟩ : ∃ r7 : Int, r7 = max 1 ((steps[i].length : Nat) : Int) := ⟨_, rfl⟩
    have hr1 : 1 ≤ r7 ∧ r7 ≤ 31 ∧ ((steps[i].length : Nat) : Int) ≤ r7 := by omega
    rw [← hr7]
    refine rn_begin R.r (by omega) wo7 (by omega) (r := r7) (by rw [wg7]; omega) fun st8 w8 s8 hR8 o8 wr8 rm8 af => ?_
    have R8 := R.next hR8
    have cS8 := R8.cS
    have d3 := st3 cS8
    have R9 := R8.set least
    obtain ⟨s9, hs9⟩ : ∃ s9, s9 = st8.put (st4.next + 1) (some (.cells (scC (.slice (some ⟨oid, 0, og⟩) (i + 1) (i + 1)) least ((i : Nat) : Int)) none)) := ⟨_, rfl⟩
    rw [← hs9] at R9 d3
    have key : ∀ st9 least', Rm σ st9 l d w8 s8 (m + 300 + 1300 * i + 600) (st4.next + 1) oid iid og c T bn i least' cs → lop 1 (fun (n89 : Value → Store → Prop) x90 s91 =>
      vop (faddr 3 (.pointer (some ⟨s1.next, 0, none⟩))) s91 fun v92 s93 =>
      vop (loadV false 1 v92 s93.get) s93 fun v94 s95 =>
      vop (iaddrS 1 v94 (.int .i64 (i : Nat))) s95 fun v96 s97 =>
      vop (loadV false 1 v96 s97.get) s97 fun v98 s99 =>
      vop (lenSl v98) s99 fun v100 s101 =>
      vop (binI .lss x90 v100) s101 fun v102 s103 =>
      p25_7 v102 (.pointer (some ⟨st4.next + 1, 0, none⟩)) s103 Q (.pointer (some ⟨s1.next, 0, none⟩)) (.int .i64 (i : Nat)) x90 (.slice (some ⟨fid, 0, some 1024⟩) bn bn) (.pointer (some ⟨l, 0, none⟩)) (.pointer (some ⟨st.next, 0, none⟩)) n89 (.pointer (some ⟨s2.next, 0, none⟩)) (fun s256 => next (.int .i64 ((i : Int) + 1)) s256)) (.int .i64 0) st9 := fun st9 least' R10 => by
      refine steps_in (ls := ls) (t := steps[i]) (v := ls[i]) hg h3 hbn R10 (by rw [af.g]; exact wg7) o8 wr8 (by rw [rm8]; exact hr1.2.2) h31' (hby _ (List.getElem_mem h6')) m0 m2 (fun st' k => ⟨(hsv st' k).1, (hsv st' k).2.2 i _ _ hv ht⟩) hv (hT7.same af.g af.at_) fun st10 w10 R11 wg10 wo10 wc10 ws10 hT10 => ?_
      have hz8 : s8.at 1 = zb := by
        rcases af.head with h | h
        · rw [h]; exact hz7
        · exact h
      have hw8 : s8.wait = [] := by
        rcases af.wait with h | h
        · rw [h]; exact hwt7
        · exact h
      have ac := af.commits
      have as_ := af.steps
      refine run_tail (ls := ls) (t := steps[i]) (v := ls[i]) (sy := sy) hg h3 hbn' (by omega) R11 wg10 wo10 (by omega) (by omega) (by omega) h31' (hby _ (List.getElem_mem h6')) hT7.1 hsyl m2 (fun st' k => ⟨(hsv st' k).1, (hsv st' k).2.2 i _ _ hv ht, (hsv st' k).2.1⟩) hv hT10 hz8 hw8 fun st11 w11 s11 oid' iid' c' least'' R12 wg11 wo11 ws11 wc11 hT11 hz11 hw11 => ?_
      exact hnx _ _ (by omega) ⟨i + 1, w11, s11, oid', iid', some 1, c', _, least'', by omega, by congr 1, ⟨⟨R12.r.ex, R12.r.C.le (by omega), R12.r.lv, R12.r.mn⟩, R12.s1, R12.o1, R12.s2, R12.o2, R12.l1, R12.l2, R12.og⟩, wg11, wo11, by omega, by omega, hT11, hz11, hw11⟩
    simp -implicitDefEqProofs (maxSteps := 2000000) (disch := first|assumption|omega|rfl|(simp only[RD];done)|(simp only[RD];omega)) only [RN,Int.reduceBEq,Int.reduceBNe,Int.reduceLT,Int.reduceLE,Int.reduceAdd,Int.reduceSub,Int.reduceMul,Nat.reduceAdd,↓bc_flatz,↓bc_flat16,↓agg_bytez, p25_9, cS8, sc3, wS3]
    try rw [← hs9]
    simp -implicitDefEqProofs (maxSteps := 2000000) (disch := first|assumption|omega|rfl|(simp only[RD];done)|(simp only[RD];omega)) only [RN,Int.reduceBEq,Int.reduceBNe,Int.reduceLT,Int.reduceLE,Int.reduceAdd,Int.reduceSub,Int.reduceMul,Nat.reduceAdd,↓bc_flatz,↓bc_flat16,↓agg_bytez, p25_8]
    refine rn_commits R9.r ?_
    have cS9 := R9.cS
    by_cases hcc : w8.commits = w7.commits
    · have ec : (w8.commits != w7.commits) = false := by rw [hcc]; simp
      simp -implicitDefEqProofs (maxSteps := 2000000) (disch := first|assumption|omega|rfl|(simp only[RD];done)|(simp only[RD];omega)) only [RN,Int.reduceBEq,Int.reduceBNe,Int.reduceLT,Int.reduceLE,Int.reduceAdd,Int.reduceSub,Int.reduceMul,Nat.reduceAdd,↓bc_flatz,↓bc_flat16,↓agg_bytez, ec]
      have := key s9 least R9
      try simp -implicitDefEqProofs (maxSteps := 2000000) (disch := first|assumption|omega|rfl|(simp only[RD];done)|(simp only[RD];omega)) only [RN,Int.reduceBEq,Int.reduceBNe,Int.reduceLT,Int.reduceLE,Int.reduceAdd,Int.reduceSub,Int.reduceMul,Nat.reduceAdd,↓bc_flatz,↓bc_flat16,↓agg_bytez] at this
      rw [← hu] at this
      exact this
    · have ec : (w8.commits != w7.commits) = true := by simp [hcc]
      simp -implicitDefEqProofs (maxSteps := 2000000) (disch := first|assumption|omega|rfl|(simp only[RD];done)|(simp only[RD];omega)) only [RN,Int.reduceBEq,Int.reduceBNe,Int.reduceLT,Int.reduceLE,Int.reduceAdd,Int.reduceSub,Int.reduceMul,Nat.reduceAdd,↓bc_flatz,↓bc_flat16,↓agg_bytez, ec, cS9, sc2, wS1]
      have := key _ _ (R9.set (i : Nat))
      try simp -implicitDefEqProofs (maxSteps := 2000000) (disch := first|assumption|omega|rfl|(simp only[RD];done)|(simp only[RD];omega)) only [RN,Int.reduceBEq,Int.reduceBNe,Int.reduceLT,Int.reduceLE,Int.reduceAdd,Int.reduceSub,Int.reduceMul,Nat.reduceAdd,↓bc_flatz,↓bc_flat16,↓agg_bytez] at this
      rw [← hu] at this
      exact this
  · have hin : i = steps.length := by omega
    subst hin
    have cS := R.cS
    have c4 := R.cc m4
    obtain ⟨C, hC⟩ : ∃ C, C = scC (.slice (some ⟨oid, 0, og⟩) (steps.length + 1) (steps.length + 1)) least ((steps.length : Nat) : Int) := ⟨_, rfl⟩
    rw [← hC] at cS
    have lC : C.length = 4 := by rw [hC]; rfl
    have rC : rdPart (some (.cells C none)) 0 4 = some (.agg ⟨C⟩) := by rw [hC]; rfl
    simp -implicitDefEqProofs (maxSteps := 2000000) (disch := first|assumption|omega|rfl|(simp only[RD];done)|(simp only[RD];omega)) only [RN,Int.reduceBEq,Int.reduceBNe,Int.reduceLT,Int.reduceLE,Int.reduceAdd,Int.reduceSub,Int.reduceMul,Nat.reduceAdd,↓bc_flatz,↓bc_flat16,↓agg_bytez, c2, e3, hls.len, decide_eq_false h5, p25_10, cS, rC, c4, g4, lC]
    have hge2 : σ.next ≤ s2.next := hR2.keeps.1
    have hi4 : iid ≠ s2.next := fun e => by
      have ci := R.r.get (List.mem_cons_of_mem _ (List.mem_cons_of_mem _ (List.mem_cons_self ..)))
      rw [e, c4] at ci
      have ci := Option.some.inj ci
      injection ci with ci1 ci2
      cases ci2
    have hRe : Rn σ (st7.put s2.next (some (.cells C none))) l d w7 s7 (m + 300 + 1300 * steps.length) ((st4.next + 1, .cells (scC (.slice (some ⟨oid, 0, og⟩) (steps.length + 1) (steps.length + 1)) least ((steps.length : Nat) : Int)) none) :: (oid, .cells c og) :: (iid, .cells (bc T) (some 1024)) :: []) := by
      refine R.r.chg (ch := [s2.next]) (fun q hq => by
        have : q = s2.next := by simpa using hq
        rw [this]; exact ⟨hge2, _, List.mem_cons_of_mem _ (List.mem_cons_of_mem _ (List.mem_cons_of_mem _ m4))⟩) (by rw [next_max]; omega) (fun q _ hn => get_put_ne' (by simpa using hn)) fun q hq => ?_
      simp only [List.mem_cons, List.not_mem_nil, or_false] at hq
      rcases hq with rfl | rfl | rfl
      · exact ⟨by rw [get_put_ne' (fun e => R.s2 _ (List.mem_cons_of_mem _ (List.mem_cons_of_mem _ m4)) e.symm)]; exact R.cS, .inr ⟨_, List.mem_cons_self ..⟩⟩
      · exact ⟨by rw [get_put_ne' (fun e => R.o2 _ (List.mem_cons_of_mem _ m4) e.symm)]; exact R.cO, .inr ⟨_, List.mem_cons_of_mem _ (List.mem_cons_self ..)⟩⟩
      · exact ⟨by rw [get_put_ne' hi4]; exact R.r.get (List.mem_cons_of_mem _ (List.mem_cons_of_mem _ (List.mem_cons_self ..))), .inr ⟨_, List.mem_cons_of_mem _ (List.mem_cons_of_mem _ (List.mem_cons_self ..))⟩⟩
    have Re : Rm σ (st7.put s2.next (some (.cells C none))) l d w7 s7 100000 (st4.next + 1) oid iid og c T bn steps.length least [] :=
      ⟨⟨hRe.ex, hRe.C.le (by omega), hRe.lv, hRe.mn⟩, R.s1, R.o1, fun p hp => R.s2 p (by
        simp only [List.mem_cons, List.not_mem_nil, or_false] at hp ⊢
        rcases hp with h | h
        · exact .inl h
        · exact .inr (.inl h)), fun p hp => R.o2 p (by
        simp only [List.mem_cons, List.not_mem_nil, or_false] at hp ⊢
        exact .inl hp), R.l1, R.l2, R.og⟩
    have := hq _ _ _ _ _ _ _ _ _ _ _ Re wg7 wo7 (by omega) hT7 hz7 hwt7
    rw [← hC] at this
    exact this
end Go.Proofs.Ytkmalbaollffiaa
