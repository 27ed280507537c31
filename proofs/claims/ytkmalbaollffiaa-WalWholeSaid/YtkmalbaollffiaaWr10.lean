/- Chapter 08: run: a step's end. -/
import Derived.Test.YtkmalbaollffiaaWr9
set_option linter.all false
set_option maxRecDepth 100000
set_option maxHeartbeats 1600000
namespace Go.Proofs.Ytkmalbaollffiaa
open Go.Am
variable {σ st st' : Store} {l d : Nat} {w : WS} {s : DS} {m bn : Nat} {Q : Value → Store → Prop} {g : Geo} {T : List Int}
variable {sid oid iid i : Nat} {og : Option Nat} {c : List Value} {least : Int} {cs : List (Nat × SObj)} {v0 v2 v4 fid : Nat} {sv yv kv kv2 : Value} {x y : Int} {ls : List Value} {t : List (Int × Int)} {v : Value} {K : Value → Store → Prop} {k37 : Store → Prop} {sy : List Int} {aid ln : Nat} {A : List Int} {cs0 : List (Nat × SObj)} {z4 : List Value}
theorem run_tail (hg : g.ok) (h3 : g.blocks ≤ 300) (hbn : 0 < bn ∧ bn ≤ 300) (hm : m + 1700 ≤ 100000) (h : Rm σ st l d w s m sid oid iid og c T bn i (ln : Nat) ((aid, .cells (bc A) (some 1024)) :: cs0)) (wg : w.g = g) (wo : w.opn = true) (hws : w.steps = i) (hwc : w.commits < 1000) (hi : i < 900) (ht31 : t.length ≤ 31) (ht : ∀ p ∈ t, 0 ≤ p.2 ∧ p.2 < 256) (hTl : T.length = bn * 1024)
    (hsyl : sy.length < 2 ^ 63) (h20 : (v2, SObj.cells (playV g sv yv kv kv2 x y) none) ∈ cs0) (h40 : (v4, SObj.cells z4 none) ∈ cs0) (hz4 : z4.length = 4) (hge4 : σ.next ≤ v4) (hsv : ∀ st', Keeps σ st' → SlR st' 1 sv ls.length ls ∧ StpV st' v t ∧ SlR st' 1 yv sy.length (ic sy)) (hil : ls[i]? = some v) (hT : TW bn (stepB bn T t) w s) (hA : AT g bn A s.at) (hz : s.at 1 = zb) (hwt : s.wait = []) (hca : c[ln]? = some (.slice (some ⟨aid, 0, some 1024⟩) bn bn)) (hle : ln ≤ i)
    (hk : ∀ st' w' s' oid' iid' aid' c' A' (ln' : Nat), Rm σ st' l d w' s' (m + 600) sid oid' iid' (some 1) c' (stepB bn T t) bn (i + 1) (ln' : Nat) ((aid', .cells (bc A') (some 1024)) :: cs0) → w'.g = g → w'.opn = false → w'.steps = (i : Int) + 1 → w'.commits ≤ w.commits + 1 → TW bn (stepB bn T t) w' s' → AT g bn A' s'.at → s'.at 1 = zb → s'.wait = [] → c'[ln']? = some (.slice (some ⟨aid', 0, some 1024⟩) bn bn) → ln' ≤ i + 1 → k37 st')
    (hK : ∀ st' s' oid iid aid og c A T i ln, Done8 σ st' l d g bn s' sid oid iid aid og c A T i ln → K (.agg ⟨scC (.slice (some ⟨oid, 0, og⟩) (i + 1) (i + 1)) (ln : Nat) (i : Nat)⟩) st') :
    p25_6 (.bool true) st K (.pointer (some ⟨l, 0, none⟩)) (.pointer (some ⟨sid, 0, none⟩)) (.int .i64 (i : Nat)) (.pointer (some ⟨v2, 0, none⟩)) (.pointer (some ⟨v4, 0, none⟩)) k37 := by
  obtain ⟨cs, hcs⟩ : ∃ cs, cs = (aid, SObj.cells (bc A) (some 1024)) :: cs0 := ⟨_, rfl⟩
  have h2 : (v2, SObj.cells (playV g sv yv kv kv2 x y) none) ∈ cs := by rw [hcs]; exact List.mem_cons_of_mem _ h20
  have h4 : (v4, SObj.cells z4 none) ∈ cs := by rw [hcs]; exact List.mem_cons_of_mem _ h40
  have ha : (aid, SObj.cells (bc A) (some 1024)) ∈ cs := by rw [hcs]; exact List.mem_cons_self ..
  rw [← hcs] at h
  obtain ⟨least, hln⟩ : ∃ least : Int, least = (ln : Nat) := ⟨_, rfl⟩
  rw [← hln] at h
  have e3 : rdOne (some (.cells (playV g sv yv kv kv2 x y) none)) 3 = some sv := rfl
  have e4 : rdOne (some (.cells (playV g sv yv kv kv2 x y) none)) 4 = some yv := rfl
  have hi' : i < ls.length := (List.getElem?_eq_some_iff.1 hil).1
  have hcn := h.r.ok.cnt
  simp -implicitDefEqProofs (maxSteps := 2000000) (disch := first|assumption|omega|rfl|(simp only[RD];done)|(simp only[RD];omega)) only [RN,Int.reduceBEq,Int.reduceBNe,Int.reduceLT,Int.reduceLE,Int.reduceAdd,Int.reduceSub,Int.reduceMul,Nat.reduceAdd,↓bc_flatz,↓bc_flat16,↓agg_bytez, p25_6]
  refine rn_end h.r wo (by omega) fun st1 hR1 => ?_
  have R1 := h.next hR1
  have a3 := st3 R1.cS
  have R2 := R1.set least
  obtain ⟨sb, hsb⟩ : ∃ sb, sb = st1.put sid (some (.cells (scC (.slice (some ⟨oid, 0, og⟩) (i + 1) (i + 1)) least i) none)) := ⟨_, rfl⟩
  simp -implicitDefEqProofs (maxSteps := 2000000) (disch := first|assumption|omega|rfl|(simp only[RD];done)|(simp only[RD];omega)) only [RN,Int.reduceBEq,Int.reduceBNe,Int.reduceLT,Int.reduceLE,Int.reduceAdd,Int.reduceSub,Int.reduceMul,Nat.reduceAdd,↓bc_flatz,↓bc_flat16,↓agg_bytez, a3]
  rw [← hsb] at R2 ⊢
  have c2 := R2.cc h2
  obtain ⟨hls, hstp, hsy⟩ := hsv sb R2.r.keeps
  obtain ⟨a, oo, q1, q2, q3, q4⟩ := hls.at (by decide) hi'
  rw [Nat.mul_one, hil] at q4
  have q1' := q1 .i64
  have gi := R2.gi
  have cS := R2.cS
  have cO := R2.cO
  have l2 := R2.l2
  simp -implicitDefEqProofs (maxSteps := 2000000) (disch := first|assumption|omega|rfl|(simp only[RD];done)|(simp only[RD];omega)) only [RN,Int.reduceBEq,Int.reduceBNe,Int.reduceLT,Int.reduceLE,Int.reduceAdd,Int.reduceSub,Int.reduceMul,Nat.reduceAdd,↓bc_flatz,↓bc_flat16,↓agg_bytez, cS, sc0, gi, cO, l2, c2, e3, q1', q4, p25_5]
  refine next_ R2.r (T := T) (tid := iid) (t := t) (by simp) hTl hbn ht31 ht (fun st' k => (hsv st' k).2.1) fun sc id hR3 hid hne => ?_
  have cS3 := hR3.get (List.mem_cons_of_mem _ (List.mem_cons_self ..))
  obtain ⟨u, hu⟩ : ∃ u : Value, u = .slice (some ⟨id, 0, some 1024⟩) bn bn := ⟨_, rfl⟩
  rw [← hu]
  have hsid := R2.s2
  have hoid := R2.o2
  have hR4 : Rn σ sc l d { w with opn := false, steps := w.steps + 1 } s m ((oid, .cells c og) :: (sid, .cells (scC (.slice (some ⟨oid, 0, og⟩) (i + 1) (i + 1)) least i) none) :: (id, .cells (bc (stepB bn T t)) (some 1024)) :: cs) := hR3.less fun p hp => by
    simp only [List.mem_cons] at hp ⊢
    rcases hp with h | h | h | h
    · exact .inr (.inr (.inl h))
    · exact .inr (.inl h)
    · exact .inl h
    · exact .inr (.inr (.inr (.inr h)))
  obtain ⟨id2, sd, t1, hR5, t3, t4, t5⟩ := hR4.tell R2.o1 (fun p hp => by
    simp only [List.mem_cons] at hp
    rcases hp with rfl | rfl | hp
    · exact fun e => hsid (oid, .cells c og) (by simp) e.symm
    · exact fun e => hne (oid, .cells c og) (by simp) e.symm
    · exact hoid p (List.mem_cons_of_mem _ hp)) R2.l1 R2.og (by omega) u
  have hR6 : Rn σ sd l d { w with opn := false, steps := w.steps + 1 } s m ((sid, .cells (scC (.slice (some ⟨oid, 0, og⟩) (i + 1) (i + 1)) least i) none) :: (id2, .cells (c ++ [u]) (some 1)) :: (id, .cells (bc (stepB bn T t)) (some 1024)) :: cs) := hR5.less fun p hp => by
    simp only [List.mem_cons] at hp ⊢
    rcases hp with h | h | h | h
    · exact .inr (.inl h)
    · exact .inl h
    · exact .inr (.inr (.inl h))
    · exact .inr (.inr (.inr h))
  have hne6 : ∀ p ∈ (id2, SObj.cells (c ++ [u]) (some 1)) :: (id, SObj.cells (bc (stepB bn T t)) (some 1024)) :: cs, p.1 ≠ sid := fun p hp => by
    simp only [List.mem_cons] at hp
    rcases hp with rfl | rfl | hp
    · exact fun e => t4 (sid, _) (List.mem_cons_self ..) e.symm
    · exact fun e => hne (sid, _) (List.mem_cons_self ..) e.symm
    · exact hsid p (List.mem_cons_of_mem _ (List.mem_cons_of_mem _ hp))
  have hR7 := hR6.set (scC (.slice (some ⟨id2, 0, some 1⟩) (i + 2) (i + 2)) least i) R2.s1 hne6
  have b0 := st0 (tv' := .slice (some ⟨id2, 0, some 1⟩) (i + 2) (i + 2)) ⟨_, _, _, rfl⟩ (hR6.get (List.mem_cons_self ..))
  have b2 := st2 (x := (i : Int) + 1) (hR7.get (List.mem_cons_self ..))
  have hR8 := hR7.set (scC (.slice (some ⟨id2, 0, some 1⟩) (i + 2) (i + 2)) least ((i : Int) + 1)) R2.s1 hne6
  obtain ⟨s7, hs7⟩ : ∃ s7, s7 = sd.put sid (some (.cells (scC (.slice (some ⟨id2, 0, some 1⟩) (i + 2) (i + 2)) least i) none)) := ⟨_, rfl⟩
  rw [← hs7] at b0 b2 hR7 hR8
  obtain ⟨s8, hs8⟩ : ∃ s8, s8 = s7.put sid (some (.cells (scC (.slice (some ⟨id2, 0, some 1⟩) (i + 2) (i + 2)) least ((i : Int) + 1)) none)) := ⟨_, rfl⟩
  rw [← hs8] at b2 hR8
  have ei : ((i + 1 : Nat) : Int) = (i : Int) + 1 := by omega
  have R8 : Rm σ s8 l d { w with opn := false, steps := w.steps + 1 } s m sid id2 id (some 1) (c ++ [u]) (stepB bn T t) bn (i + 1) least cs :=
    ⟨by rw [ei]; exact hR8, R2.s1, t3, hne6, fun p hp => t4 p (by
      simp only [List.mem_cons] at hp ⊢
      rcases hp with h | h
      · exact .inr (.inl h)
      · exact .inr (.inr h)), by rw [List.length_append, R2.l1]; rfl, by
      rw [List.getElem?_append_right (by rw [R2.l1]; omega), R2.l1, Nat.sub_self, hu]; rfl, .inl rfl⟩
  have asu : asCells 1 u = some [u] := by rw [hu]; rfl
  have c7 := hR7.get (List.mem_cons_self ..)
  simp -implicitDefEqProofs (maxSteps := 2000000) (disch := first|assumption|omega|rfl|(simp only[RD];done)|(simp only[RD];omega)) only [RN,Int.reduceBEq,Int.reduceBNe,Int.reduceLT,Int.reduceLE,Int.reduceAdd,Int.reduceSub,Int.reduceMul,Nat.reduceAdd,↓bc_flatz,↓bc_flat16,↓agg_bytez, cS, cS3, sc0, asu, t1]
  have c6 := hR6.get (List.mem_cons_self ..)
  have hs8' : s8 = sd.put sid (some (.cells (scC (.slice (some ⟨id2, 0, some 1⟩) (i + 2) (i + 2)) least ((i : Int) + 1)) none)) := by rw [hs8, hs7, put_put]
  simp -implicitDefEqProofs (maxSteps := 2000000) (disch := first|assumption|omega|rfl|(simp only[RD];done)|(simp only[RD];omega)) only [RN,Int.reduceBEq,Int.reduceBNe,Int.reduceLT,Int.reduceLE,Int.reduceAdd,Int.reduceSub,Int.reduceMul,Nat.reduceAdd,↓bc_flatz,↓bc_flat16,↓agg_bytez, c6, wS0, wS2]
  first | rw [← hs8'] | rw [← hs7, ← hs8]
  simp -implicitDefEqProofs (maxSteps := 2000000) (disch := first|assumption|omega|rfl|(simp only[RD];done)|(simp only[RD];omega)) only [RN,Int.reduceBEq,Int.reduceBNe,Int.reduceLT,Int.reduceLE,Int.reduceAdd,Int.reduceSub,Int.reduceMul,Nat.reduceAdd,↓bc_flatz,↓bc_flat16,↓agg_bytez, p25_4]
  have c28 := R8.cc h2
  simp -implicitDefEqProofs (maxSteps := 2000000) (disch := first|assumption|omega|rfl|(simp only[RD];done)|(simp only[RD];omega)) only [RN,Int.reduceBEq,Int.reduceBNe,Int.reduceLT,Int.reduceLE,Int.reduceAdd,Int.reduceSub,Int.reduceMul,Nat.reduceAdd,↓bc_flatz,↓bc_flat16,↓agg_bytez, c28, e4]
  have cS8 := R8.cS
  refine in_ (hsv s8 R8.r.keeps).2.2 hsyl ?_
  have ws1 : ({ w with opn := false, steps := w.steps + 1 } : WS).steps = (i : Int) + 1 := by show w.steps + 1 = _; omega
  have hT1 : TW bn (stepB bn T t) { w with opn := false, steps := w.steps + 1 } s := hT.same rfl fun _ _ => rfl
  have hca8 : (c ++ [u])[ln]? = some (.slice (some ⟨aid, 0, some 1024⟩) bn bn) := by rw [List.getElem?_append_left (by rw [R2.l1]; omega)]; exact hca
  have hTl' : (stepB bn T t).length = bn * 1024 := hT.1
  by_cases hin : (i : Int) ∈ sy
  · rw [decide_eq_true hin]
    try simp -implicitDefEqProofs (maxSteps := 2000000) (disch := first|assumption|omega|rfl|(simp only[RD];done)|(simp only[RD];omega)) only [RN,Int.reduceBEq,Int.reduceBNe,Int.reduceLT,Int.reduceLE,Int.reduceAdd,Int.reduceSub,Int.reduceMul,Nat.reduceAdd,↓bc_flatz,↓bc_flat16,↓agg_bytez]
    refine rn_sync2 R8.r (by omega) rfl (by show w.commits < _; omega) hz hwt (fun st9 w9 s9 hR9 o9 gr9 g9 at9 z9 wt9 ws9 wc9 => ?_) (fun st9 k9 s9 hR9 n9 fin9 => ?_)
    · have R9 := R8.next hR9
      have cS9 := R9.cS
      simp -implicitDefEqProofs (maxSteps := 2000000) (disch := first|assumption|omega|rfl|(simp only[RD];done)|(simp only[RD];omega)) only [RN,Int.reduceBEq,Int.reduceBNe,Int.reduceLT,Int.reduceLE,Int.reduceAdd,Int.reduceSub,Int.reduceMul,Nat.reduceAdd,↓bc_flatz,↓bc_flat16,↓agg_bytez, cS9, sc3, p25_3]
      refine rn_used hR9 ?_
      rw [gr9]
      have z0 : ((((0 : Nat) : Int)) == 0) = true := rfl
      have d3 := st3 cS9
      have R10 := R9.set least
      obtain ⟨s10, hs10⟩ : ∃ s10, s10 = st9.put sid (some (.cells (scC (.slice (some ⟨id2, 0, some 1⟩) (i + 1 + 1) (i + 1 + 1)) least ((i + 1 : Nat) : Int)) none)) := ⟨_, rfl⟩
      rw [← hs10] at d3 R10
      have cS10 := R10.cS
      simp -implicitDefEqProofs (maxSteps := 2000000) (disch := first|assumption|omega|rfl|(simp only[RD];done)|(simp only[RD];omega)) only [RN,Int.reduceBEq,Int.reduceBNe,Int.reduceLT,Int.reduceLE,Int.reduceAdd,Int.reduceSub,Int.reduceMul,Nat.reduceAdd,↓bc_flatz,↓bc_flat16,↓agg_bytez, List.length_nil, z0, d3]
      simp -implicitDefEqProofs (maxSteps := 2000000) (disch := first|assumption|omega|rfl|(simp only[RD];done)|(simp only[RD];omega)) only [RN,Int.reduceBEq,Int.reduceBNe,Int.reduceLT,Int.reduceLE,Int.reduceAdd,Int.reduceSub,Int.reduceMul,Nat.reduceAdd,↓bc_flatz,↓bc_flat16,↓agg_bytez, cS10, sc2, wS1]
      have wg9 : w9.g = g := g9.trans wg
      have at9' : ∀ y, 1 + g.log ≤ y → s9.at y = ({ w with opn := false, steps := w.steps + 1 } : WS).at s y := fun y hy => at9 y (by rw [show ({ w with opn := false, steps := w.steps + 1 } : WS).g = g from wg]; exact hy)
      have hT9 : ∀ x : Nat, x < bn → ((stepB bn T t).drop (x * 1024)).take 1024 = s9.at (1 + g.log + x) := fun x hx => by
        rw [hT1.2 x hx, at9' _ (by omega), show ({ w with opn := false, steps := w.steps + 1 } : WS).g = g from wg]
      refine hk _ w9 s9 id2 id id _ (stepB bn T t) (i + 1) ((R10.set ((i + 1 : Nat) : Int)).sub fun p hp => ?_) wg9 o9 (by rw [ws9]; exact ws1) (by have : w9.commits ≤ w.commits + 1 := wc9; exact this) ⟨hTl', fun x hx => ?_⟩ ⟨hTl', hT9⟩ z9 wt9 R8.l2 (Nat.le_refl _)
      · rcases List.mem_cons.1 hp with rfl | hp
        · exact List.mem_cons_self ..
        · rw [hcs]; exact List.mem_cons_of_mem _ (List.mem_cons_of_mem _ hp)
      · rw [hT9 x hx, wg9]
        unfold WS.at
        rw [gr9]; rfl
    · have R9 := R8.next hR9
      obtain ⟨C, hC⟩ : ∃ C, C = scC (.slice (some ⟨id2, 0, some 1⟩) (i + 1 + 1) (i + 1 + 1)) least ((i + 1 : Nat) : Int) := ⟨_, rfl⟩
      have cS9 := R9.cS
      rw [← hC] at cS9
      have lC : C.length = 4 := by rw [hC]; rfl
      have rC : rdPart (some (.cells C none)) 0 4 = some (.agg ⟨C⟩) := by rw [hC]; rfl
      have c4 := R9.cc h4
      have R10 := R9.ret (C := C) h4 hge4 ha
      simp -implicitDefEqProofs (maxSteps := 2000000) (disch := first|assumption|omega|rfl|(simp only[RD];done)|(simp only[RD];omega)) only [RN,Int.reduceBEq,Int.reduceBNe,Int.reduceLT,Int.reduceLE,Int.reduceAdd,Int.reduceSub,Int.reduceMul,Nat.reduceAdd,↓bc_flatz,↓bc_flat16,↓agg_bytez, cS9, rC, c4, hz4, lC]
      rw [hln] at R10
      have := hK _ s9 id2 id aid (some 1) _ A _ (i + 1) ln ⟨⟨k9, R10.r.le (by omega), R10.s1, R10.o1, R10.s2, R10.o2, R10.l1, R10.l2, R10.og⟩, hca8, by omega, by rw [← wg]; exact n9, w.grp, s.at, w.at s, ?_, hA, ?_, ?_⟩
      · rw [← hln, ← hC] at this; exact this
      · have := grp_ok (s := s) h.r.ok
        rw [wg] at this; exact this
      · exact ⟨hTl', fun x hx => by rw [hT.2 x hx, wg]⟩
      · rw [← wg]; exact fin9
  · rw [decide_eq_false hin]
    try simp -implicitDefEqProofs (maxSteps := 2000000) (disch := first|assumption|omega|rfl|(simp only[RD];done)|(simp only[RD];omega)) only [RN,Int.reduceBEq,Int.reduceBNe,Int.reduceLT,Int.reduceLE,Int.reduceAdd,Int.reduceSub,Int.reduceMul,Nat.reduceAdd,↓bc_flatz,↓bc_flat16,↓agg_bytez]
    have R9 : Rm σ s8 l d { w with opn := false, steps := w.steps + 1 } s (m + 600) sid id2 id (some 1) (c ++ [u]) (stepB bn T t) bn (i + 1) least cs := R8.next (R8.r.le (by omega))
    rw [hcs, hln] at R9
    exact hk _ _ s id2 id aid _ A ln R9 wg rfl ws1 (by show w.commits ≤ _; omega) hT1 hA hz hwt hca8 (by omega)
end Go.Proofs.Ytkmalbaollffiaa
