/- Chapter 08: run: a step's end. -/
import Derived.Test.YtkmalbaollffiaaRun9
set_option linter.all false
set_option maxRecDepth 100000
set_option maxHeartbeats 1600000
namespace Go.Proofs.Ytkmalbaollffiaa
open Go.Am
variable {σ st st' : Store} {l d : Nat} {w : WS} {s : DS} {m bn : Nat} {Q : Value → Store → Prop} {g : Geo} {T : List Int}
variable {sid oid iid i : Nat} {og : Option Nat} {c : List Value} {least : Int} {cs : List (Nat × SObj)} {v0 v2 v4 fid : Nat} {sv yv kv kv2 : Value} {x y : Int} {ls : List Value} {t : List (Int × Int)} {v : Value} {K : Value → Store → Prop} {k37 : Store → Prop} {sy : List Int}
theorem run_tail (hg : g.ok) (h3 : g.blocks ≤ 300) (hbn : 0 < bn ∧ bn ≤ 300) (hm : m + 1700 < 2 ^ 29) (h : Rm σ st l d w s m sid oid iid og c T bn i least cs) (wg : w.g = g) (wo : w.opn = true) (hws : w.steps = i) (hwc : w.commits < 1000) (hi : i < 900) (ht31 : t.length ≤ 31) (ht : ∀ p ∈ t, 0 ≤ p.2 ∧ p.2 < 256) (hTl : T.length = bn * 1024)
    (hsyl : sy.length < 2 ^ 63) (h2 : (v2, SObj.cells (playV g sv yv kv kv2 x y) none) ∈ cs) (hsv : ∀ st', Keeps σ st' → SlR st' 1 sv ls.length ls ∧ StpV st' v t ∧ SlR st' 1 yv sy.length (ic sy)) (hil : ls[i]? = some v) (hT : TW bn (stepB bn T t) w s) (hz : s.at 1 = zb) (hwt : s.wait = [])
    (hk : ∀ st' w' s' oid' iid' c' least', Rm σ st' l d w' s' (m + 600) sid oid' iid' (some 1) c' (stepB bn T t) bn (i + 1) least' cs → w'.g = g → w'.opn = false → w'.steps = (i : Int) + 1 → w'.commits ≤ w.commits + 1 → TW bn (stepB bn T t) w' s' → s'.at 1 = zb → s'.wait = [] → k37 st') :
    p25_6 (.bool true) st K (.pointer (some ⟨l, 0, none⟩)) (.pointer (some ⟨sid, 0, none⟩)) (.int .i64 (i : Nat)) (.pointer (some ⟨v2, 0, none⟩)) (.pointer (some ⟨v4, 0, none⟩)) k37 := by
  have e3 : rdOne (some (.cells (playV g sv yv kv kv2 x y) none)) 3 = some sv := rfl
  have e4 : rdOne (some (.cells (playV g sv yv kv kv2 x y) none)) 4 = some yv := rfl
  have hi' : i < ls.length := (List.getElem?_eq_some_iff.1 hil).1
  have hcn := h.r.ok.cnt
  simp -implicitDefEqProofs (maxSteps := 2000000) (disch := first|assumption|omega|rfl|(simp only[RD];done)|(simp only[RD];omega)) only [RN,Int.reduceBEq,Int.reduceBNe,Int.reduceLT,Int.reduceLE,Int.reduceAdd,Int.reduceSub,Int.reduceMul,Nat.reduceAdd,↓bc_flatz,↓bc_flat16,↓agg_bytez, p25_6]
  refine rn_end h.r wo (by omega) fun st1 hR1 => ?_
  have R1 := h.next hR1
  have a3 := st3 R1.cS
  have R2 := R1.set least
  obtain ⟨sb, hsb⟩ : ∃ sb, sb = st1.put sid (some (.cells (scC (.slice (some ⟨oid, 0, og⟩) (i + 1) (i + 1)) least i) none)) := ⟨_, rfl⟩
  simp -implicitDefEqProofs (maxSteps := 2000000) (disch := first|assumption|omega|rfl|(simp only[RD];done)|(simp only[RD];omega)) only [RN,Int.reduceBEq,Int.reduceBNe,Int.reduceLT,Int.reduceLE,Int.reduceAdd,Int.reduceSub,Int.reduceMul,Nat.reduceAdd,↓bc_flatz,↓bc_flat16,↓agg_bytez, a3]
  rw [← hsb] at R2 ⊢
  have c2 := R2.cc h2
  obtain ⟨hls, hstp, hsy⟩ := hsv sb R2.r.keeps
  obtain ⟨a, oo, q1, q2, q3, q4⟩ := hls.at (by decide) hi'
  rw [Nat.mul_one, hil] at q4
  have q1' := q1 .i64
  have gi := R2.gi
  have cS := R2.cS
  have cO := R2.cO
  have l2 := R2.l2
  simp -implicitDefEqProofs (maxSteps := 2000000) (disch := first|assumption|omega|rfl|(simp only[RD];done)|(simp only[RD];omega)) only [RN,Int.reduceBEq,Int.reduceBNe,Int.reduceLT,Int.reduceLE,Int.reduceAdd,Int.reduceSub,Int.reduceMul,Nat.reduceAdd,↓bc_flatz,↓bc_flat16,↓agg_bytez, cS, sc0, gi, cO, l2, c2, e3, q1', q4, p25_5]
  refine next_ R2.r (T := T) (tid := iid) (t := t) (by simp) hTl hbn ht31 ht (fun st' k => (hsv st' k).2.1) fun sc id hR3 hid hne => ?_
  have cS3 := hR3.get (List.mem_cons_of_mem _ (List.mem_cons_self ..))
  obtain ⟨u, hu⟩ : ∃ u : Value, u = .slice (some ⟨id, 0, some 1024⟩) bn bn := ⟨_, rfl⟩
  rw [← hu]
  have hsid := R2.s2
  have hoid := R2.o2
  have hR4 : Rn σ sc l d { w with opn := false, steps := w.steps + 1 } s m ((oid, .cells c og) :: (sid, .cells (scC (.slice (some ⟨oid, 0, og⟩) (i + 1) (i + 1)) least i) none) :: (id, .cells (bc (stepB bn T t)) (some 1024)) :: cs) := hR3.less fun p hp => by
    simp only [List.mem_cons] at hp ⊢
    rcases hp with h | h | h | h
    · exact .inr (.inr (.inl h))
    · exact .inr (.inl h)
    · exact .inl h
    · exact .inr (.inr (.inr (.inr h)))
  obtain ⟨id2, sd, t1, hR5, t3, t4, t5⟩ := hR4.tell R2.o1 (fun p hp => by
    simp only [List.mem_cons] at hp
    rcases hp with rfl | rfl | hp
    · exact fun e => hsid (oid, .cells c og) (by simp) e.symm
    · exact fun e => hne (oid, .cells c og) (by simp) e.symm
    · exact hoid p (List.mem_cons_of_mem _ hp)) R2.l1 R2.og (by omega) u
  have hR6 : Rn σ sd l d { w with opn := false, steps := w.steps + 1 } s m ((sid, .cells (scC (.slice (some ⟨oid, 0, og⟩) (i + 1) (i + 1)) least i) none) :: (id2, .cells (c ++ [u]) (some 1)) :: (id, .cells (bc (stepB bn T t)) (some 1024)) :: cs) := hR5.less fun p hp => by
    simp only [List.mem_cons] at hp ⊢
    rcases hp with h | h | h | h
    · exact .inr (.inl h)
    · exact .inl h
    · exact .inr (.inr (.inl h))
    · exact .inr (.inr (.inr h))
  have hne6 : ∀ p ∈ (id2, SObj.cells (c ++ [u]) (some 1)) :: (id, SObj.cells (bc (stepB bn T t)) (some 1024)) :: cs, p.1 ≠ sid := fun p hp => by
    simp only [List.mem_cons] at hp
    rcases hp with rfl | rfl | hp
    · exact fun e => t4 (sid, _) (List.mem_cons_self ..) e.symm
    · exact fun e => hne (sid, _) (List.mem_cons_self ..) e.symm
    · exact hsid p (List.mem_cons_of_mem _ (List.mem_cons_of_mem _ hp))
  have hR7 := hR6.set (scC (.slice (some ⟨id2, 0, some 1⟩) (i + 2) (i + 2)) least i) R2.s1 hne6
  have b0 := st0 (tv' := .slice (some ⟨id2, 0, some 1⟩) (i + 2) (i + 2)) ⟨_, _, _, rfl⟩ (hR6.get (List.mem_cons_self ..))
  have b2 := st2 (x := (i : Int) + 1) (hR7.get (List.mem_cons_self ..))
  have hR8 := hR7.set (scC (.slice (some ⟨id2, 0, some 1⟩) (i + 2) (i + 2)) least ((i : Int) + 1)) R2.s1 hne6
  obtain ⟨s7, hs7⟩ : ∃ s7, s7 = sd.put sid (some (.cells (scC (.slice (some ⟨id2, 0, some 1⟩) (i + 2) (i + 2)) least i) none)) := ⟨_, rfl⟩
  rw [← hs7] at b0 b2 hR7 hR8
  obtain ⟨s8, hs8⟩ : ∃ s8, s8 = s7.put sid (some (.cells (scC (.slice (some ⟨id2, 0, some 1⟩) (i + 2) (i + 2)) least ((i : Int) + 1)) none)) := ⟨_, rfl⟩
  rw [← hs8] at b2 hR8
  have ei : ((i + 1 : Nat) : Int) = (i : Int) + 1 := by omega
  have R8 : Rm σ s8 l d { w with opn := false, steps := w.steps + 1 } s m sid id2 id (some 1) (c ++ [u]) (stepB bn T t) bn (i + 1) least cs :=
    ⟨by rw [ei]; exact hR8, R2.s1, t3, hne6, fun p hp => t4 p (by
      simp only [List.mem_cons] at hp ⊢
      rcases hp with h | h
      · exact .inr (.inl h)
      · exact .inr (.inr h)), by rw [List.length_append, R2.l1]; rfl, by
      rw [List.getElem?_append_right (by rw [R2.l1]; omega), R2.l1, Nat.sub_self, hu]; rfl, .inl rfl⟩
  have asu : asCells 1 u = some [u] := by rw [hu]; rfl
  have c7 := hR7.get (List.mem_cons_self ..)
  simp -implicitDefEqProofs (maxSteps := 2000000) (disch := first|assumption|omega|rfl|(simp only[RD];done)|(simp only[RD];omega)) only [RN,Int.reduceBEq,Int.reduceBNe,Int.reduceLT,Int.reduceLE,Int.reduceAdd,Int.reduceSub,Int.reduceMul,Nat.reduceAdd,↓bc_flatz,↓bc_flat16,↓agg_bytez, cS, cS3, sc0, asu, t1]
  have c6 := hR6.get (List.mem_cons_self ..)
  have hs8' : s8 = sd.put sid (some (.cells (scC (.slice (some ⟨id2, 0, some 1⟩) (i + 2) (i + 2)) least ((i : Int) + 1)) none)) := by rw [hs8, hs7, put_put]
  simp -implicitDefEqProofs (maxSteps := 2000000) (disch := first|assumption|omega|rfl|(simp only[RD];done)|(simp only[RD];omega)) only [RN,Int.reduceBEq,Int.reduceBNe,Int.reduceLT,Int.reduceLE,Int.reduceAdd,Int.reduceSub,Int.reduceMul,Nat.reduceAdd,↓bc_flatz,↓bc_flat16,↓agg_bytez, c6, wS0, wS2]
  first | rw [← hs8'] | rw [← hs7, ← hs8]
  simp -implicitDefEqProofs (maxSteps := 2000000) (disch := first|assumption|omega|rfl|(simp only[RD];done)|(simp only[RD];omega)) only [RN,Int.reduceBEq,Int.reduceBNe,Int.reduceLT,Int.reduceLE,Int.reduceAdd,Int.reduceSub,Int.reduceMul,Nat.reduceAdd,↓bc_flatz,↓bc_flat16,↓agg_bytez, p25_4]
  have c28 := R8.cc h2
  simp -implicitDefEqProofs (maxSteps := 2000000) (disch := first|assumption|omega|rfl|(simp only[RD];done)|(simp only[RD];omega)) only [RN,Int.reduceBEq,Int.reduceBNe,Int.reduceLT,Int.reduceLE,Int.reduceAdd,Int.reduceSub,Int.reduceMul,Nat.reduceAdd,↓bc_flatz,↓bc_flat16,↓agg_bytez, c28, e4]
  have cS8 := R8.cS
  refine in_ (hsv s8 R8.r.keeps).2.2 hsyl ?_
  have ws1 : ({ w with opn := false, steps := w.steps + 1 } : WS).steps = (i : Int) + 1 := by show w.steps + 1 = _; omega
  have hT1 : TW bn (stepB bn T t) { w with opn := false, steps := w.steps + 1 } s := hT.same rfl fun _ _ => rfl
  by_cases hin : (i : Int) ∈ sy
  · rw [decide_eq_true hin]
    try simp -implicitDefEqProofs (maxSteps := 2000000) (disch := first|assumption|omega|rfl|(simp only[RD];done)|(simp only[RD];omega)) only [RN,Int.reduceBEq,Int.reduceBNe,Int.reduceLT,Int.reduceLE,Int.reduceAdd,Int.reduceSub,Int.reduceMul,Nat.reduceAdd,↓bc_flatz,↓bc_flat16,↓agg_bytez]
    refine rn_sync R8.r (by omega) rfl (by show w.commits < _; omega) fun st9 w9 s9 hR9 o9 gr9 af _ => ?_
    have R9 := R8.next hR9
    have cS9 := R9.cS
    simp -implicitDefEqProofs (maxSteps := 2000000) (disch := first|assumption|omega|rfl|(simp only[RD];done)|(simp only[RD];omega)) only [RN,Int.reduceBEq,Int.reduceBNe,Int.reduceLT,Int.reduceLE,Int.reduceAdd,Int.reduceSub,Int.reduceMul,Nat.reduceAdd,↓bc_flatz,↓bc_flat16,↓agg_bytez, cS9, sc3, p25_3]
    refine rn_used hR9 ?_
    rw [gr9]
    have z0 : ((((0 : Nat) : Int)) == 0) = true := rfl
    have d3 := st3 cS9
    have R10 := R9.set least
    obtain ⟨s10, hs10⟩ : ∃ s10, s10 = st9.put sid (some (.cells (scC (.slice (some ⟨id2, 0, some 1⟩) (i + 1 + 1) (i + 1 + 1)) least ((i + 1 : Nat) : Int)) none)) := ⟨_, rfl⟩
    rw [← hs10] at d3 R10
    have cS10 := R10.cS
    simp -implicitDefEqProofs (maxSteps := 2000000) (disch := first|assumption|omega|rfl|(simp only[RD];done)|(simp only[RD];omega)) only [RN,Int.reduceBEq,Int.reduceBNe,Int.reduceLT,Int.reduceLE,Int.reduceAdd,Int.reduceSub,Int.reduceMul,Nat.reduceAdd,↓bc_flatz,↓bc_flat16,↓agg_bytez, List.length_nil, z0, d3]
    simp -implicitDefEqProofs (maxSteps := 2000000) (disch := first|assumption|omega|rfl|(simp only[RD];done)|(simp only[RD];omega)) only [RN,Int.reduceBEq,Int.reduceBNe,Int.reduceLT,Int.reduceLE,Int.reduceAdd,Int.reduceSub,Int.reduceMul,Nat.reduceAdd,↓bc_flatz,↓bc_flat16,↓agg_bytez, cS10, sc2, wS1]
    exact hk _ w9 s9 id2 id _ _ (R10.set ((i + 1 : Nat) : Int)) (by rw [af.g]; exact wg) o9 (by rw [af.steps]; exact ws1) (by have := af.commits.2; exact this) (hT1.same af.g af.at_) (by rcases af.head with h | h; rw [h]; exact hz; exact h) (by rcases af.wait with h | h; rw [h]; exact hwt; exact h)
  · rw [decide_eq_false hin]
    try simp -implicitDefEqProofs (maxSteps := 2000000) (disch := first|assumption|omega|rfl|(simp only[RD];done)|(simp only[RD];omega)) only [RN,Int.reduceBEq,Int.reduceBNe,Int.reduceLT,Int.reduceLE,Int.reduceAdd,Int.reduceSub,Int.reduceMul,Nat.reduceAdd,↓bc_flatz,↓bc_flat16,↓agg_bytez]
    have R9 : Rm σ s8 l d { w with opn := false, steps := w.steps + 1 } s (m + 600) sid id2 id (some 1) (c ++ [u]) (stepB bn T t) bn (i + 1) least cs := R8.next ⟨R8.r.ex, R8.r.C.le (by omega), R8.r.lv, R8.r.mn⟩
    exact hk _ _ s id2 id _ _ R9 wg rfl ws1 (by show w.commits ≤ _; omega) hT1 hz hwt
end Go.Proofs.Ytkmalbaollffiaa
