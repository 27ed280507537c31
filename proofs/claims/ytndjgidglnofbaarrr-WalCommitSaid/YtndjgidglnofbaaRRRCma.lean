/- WalCommit: what is wanted of a commit, and what was done. -/
import Derived.Test.YtndjgidglnofbaaRRRCmp
set_option linter.all false
set_option maxRecDepth 100000
set_option maxHeartbeats 400000
namespace Go.Proofs.YtndjgidglnofbaaRRR
open Go.Am
variable {σ : Store} {Q : Value → Store → Prop} {g : Geo} {s : DS} {w : WS} {m : Nat} {l d nid : Nat} {F G B X : List Nat} {st sB : Store}
theorem ops_len {o : List (Int × List Int)} (h : ∀ p ∈ o, p.2.length = 1024) : ∀ x ∈ (commitOps o).map toH, x.2.2.length = 1024 := fun x hx => by
  obtain ⟨y, hy, rfl⟩ := List.mem_map.1 hx
  cases y with
  | w i b => exact commitOps_ok h i b hy
  | bar => exact zb_len
theorem app_op {sE st' : Store} {wv : Value} {H : Hist} {op : Int × Int × List Int} (hw : SlG st' 1026 wv H.length (histC H)) (hk : Keeps sE st') (hid : ∀ j ∈ idsV wv, sE.next ≤ j) (hop : op.2.2.length = 1024) (hcap : H.length < 1000) :
    ∃ s5 wv', appendV 1026 1040 wv (.slice (some ⟨st'.next, 0, none⟩) 1 1) (st'.push (.cells (opC op) none)) = some (wv', s5) ∧ SlG s5 1026 wv' (H ++ [op]).length (histC (H ++ [op])) ∧ Keeps sE s5 ∧ ∀ j ∈ idsV wv', sE.next ≤ j := by
  obtain ⟨s4, hs4⟩ : ∃ s4, s4 = st'.push (.cells (opC op) none) := ⟨_, rfl⟩
  have k4 : Keeps st' s4 := by rw [hs4]; exact (Keeps.refl _).push _
  have c4 : s4.get st'.next = some (.cells (opC op) none) := by rw [hs4]; exact Store.get_push_same _ _
  have n4 := k4.1
  have nE := hk.1
  obtain ⟨s5, a1, a2, a3, a4⟩ := SlG.app (by_ := 1040) (k := 1) (gj := none) (hw.same (σ' := s4) fun j hj => k4.2 j (hw.lt j hj)) c4 (opC_len hop) (by omega) (by omega) (by decide)
  rw [← hs4]
  refine ⟨s5, _, a1, by rw [List.length_append, histC_append, histC_one]; exact a2, ⟨by omega, fun j hj => ?_⟩, fun j hj => ?_⟩
  · rw [a4 j (by omega) (fun h => by have := hid j h; omega), k4.2 j (by omega), hk.2 j hj]
  · have : j = s4.next := by simpa [idsV] using hj
    omega
theorem app_op3 {sE st' : Store} {wv : Value} {H : Hist} {x : Int} {h : List Int} (hw : SlG st' 1026 wv H.length (histC H)) (hk : Keeps sE st') (hid : ∀ j ∈ idsV wv, sE.next ≤ j) (hop : h.length = 1024) (hcap : H.length < 1000) :
    ∃ s5 wv', appendV 1026 1040 wv (.slice (some ⟨st'.next, 0, none⟩) 3 3) (st'.push (.cells (.int .u8 2 :: .int .i64 0 :: (bc zb ++ .int .u8 1 :: .int .i64 x :: (bc h ++ .int .u8 2 :: .int .i64 0 :: bc zb))) none)) = some (wv', s5) ∧ SlG s5 1026 wv' (H ++ [(2, 0, zb), (1, x, h), (2, 0, zb)]).length (histC (H ++ [(2, 0, zb), (1, x, h), (2, 0, zb)])) ∧ Keeps sE s5 ∧ ∀ j ∈ idsV wv', sE.next ≤ j := by
  have eH : histC [(2, 0, zb), (1, x, h), (2, 0, zb)] = .int .u8 2 :: .int .i64 0 :: (bc zb ++ .int .u8 1 :: .int .i64 x :: (bc h ++ .int .u8 2 :: .int .i64 0 :: bc zb)) := by simp [histC]
  rw [← eH]
  have hl3 : (histC [(2, 0, zb), (1, x, h), (2, 0, zb)]).length = (2 + 1) * 1026 := histC_len fun p hp => by
    simp only [List.mem_cons, List.not_mem_nil, or_false] at hp
    rcases hp with rfl | rfl | rfl <;> first | exact zb_len | exact hop
  obtain ⟨s4, hs4⟩ : ∃ s4, s4 = st'.push (.cells (histC [(2, 0, zb), (1, x, h), (2, 0, zb)]) none) := ⟨_, rfl⟩
  have k4 : Keeps st' s4 := by rw [hs4]; exact (Keeps.refl _).push _
  have c4 : s4.get st'.next = some (.cells (histC [(2, 0, zb), (1, x, h), (2, 0, zb)]) none) := by rw [hs4]; exact Store.get_push_same _ _
  have n4 := k4.1
  have nE := hk.1
  obtain ⟨s5, a1, a2, a3, a4⟩ := SlG.apps (by_ := 1040) (k := 3) (gj := none) (hw.same (σ' := s4) fun j hj => k4.2 j (hw.lt j hj)) c4 hl3 (by omega) (by omega) (by decide)
  rw [← hs4]
  refine ⟨s5, _, a1, by rw [List.length_append, histC_append]; exact a2, ⟨by omega, fun j hj => ?_⟩, fun j hj => ?_⟩
  · rw [a4 j (by omega) (fun h => by have := hid j h; omega), k4.2 j (by omega), hk.2 j hj]
  · have : j = s4.next := by simpa [idsV] using hj
    omega
theorem cm_a {K : Value → Store → Prop} {ov dv : Value} {c32 : Nat} {o : List (Int × List Int)} (ho : ∀ p ∈ o, p.2.length = 1024) (hn : o.length ≤ 31) (hov : SlR st 1 ov (ordL o).length (ic (ordL o))) (hdv : SlR st 1024 dv o.length (bc (dataF o))) (c0 : st.get c32 = some (.cells (ic g.lay) none)) (hord : ∀ x ∈ ordL o, 0 ≤ x ∧ x < 2 ^ 40)
    (D : Disk st d s G) (hC : s.C m) (hm : m < 2 ^ 29) (hh : s.hist = (commitOps o).map toH) (hK : ∀ st', K (.bool true) st') :
    p4_6 (.tuple #[.agg ⟨bc (headB (ordL o))⟩, .int .i64 0]) st K ov (.pointer (some ⟨c32, 0, none⟩)) dv (.pointer (some ⟨d, 0, none⟩)) := by
  have z1 := zb_len
  have hbl := headB_len (ordL o)
  have e3 : rdOne (some (.cells (ic g.lay) none)) 3 = some (.int .i64 1) := rfl
  have u26 : (unrle [(1, (.int .u8 0)), (1, (.int .i64 0)), (1024, (.int .u8 0))]).length = 1026 := by simp [unrle]
  have ol := ordL_len o
  obtain ⟨h, hhB⟩ : ∃ h, h = headB (ordL o) := ⟨_, rfl⟩
  rw [← hhB] at hbl ⊢
  simp -implicitDefEqProofs (maxSteps := 2000000) (disch := first|assumption|omega|rfl|(simp only[RD];done)|(simp only[RD];omega)) only [RN,Int.reduceBEq,Int.reduceBNe,Int.reduceLT,Int.reduceLE,Int.reduceAdd,Int.reduceSub,Int.reduceMul,Nat.reduceAdd,↓bc_flatz,↓bc_flat16,↓agg_bytez, p4_6, hbl, u26]
  obtain ⟨sE, hsE⟩ : ∃ sE, sE = (st.push (.cells (bc h) none)).push (.cells (.int .u8 2 :: .int .i64 0 :: bc zb) none) := ⟨_, rfl⟩
  have kE : Keeps st sE := by rw [hsE]; exact ((Keeps.refl _).push _).push _
  have ce : sE.get st.next = some (.cells (bc h) none) := by rw [hsE]; simp -implicitDefEqProofs (maxSteps := 2000000) (disch := first|assumption|omega|rfl|(simp only[RD];done)|(simp only[RD];omega)) only [RN,Int.reduceBEq,Int.reduceBNe,Int.reduceLT,Int.reduceLE,Int.reduceAdd,Int.reduceSub,Int.reduceMul,Nat.reduceAdd,↓bc_flatz,↓bc_flat16,↓agg_bytez]
  have cb : sE.get (st.next + 1) = some (.cells (.int .u8 2 :: .int .i64 0 :: bc zb) none) := by rw [hsE]; simp -implicitDefEqProofs (maxSteps := 2000000) (disch := first|assumption|omega|rfl|(simp only[RD];done)|(simp only[RD];omega)) only [RN,Int.reduceBEq,Int.reduceBNe,Int.reduceLT,Int.reduceLE,Int.reduceAdd,Int.reduceSub,Int.reduceMul,Nat.reduceAdd,↓bc_flatz,↓bc_flat16,↓agg_bytez]
  have c32 := kE.get c0
  have hov' : SlR sE 1 ov (ordL o).length (ic (ordL o)) := hov.keeps fun i o h => kE.get h
  have hdv' : SlR sE 1024 dv o.length (bc (dataF o)) := hdv.keeps fun i o h => kE.get h
  rw [← hsE]
  have hb26 : (Value.int .u8 2 :: Value.int .i64 0 :: bc zb).length = 1026 := by simp [z1]
  have o26 : ∀ (i : Int) {b : List Int}, b.length = 1024 → (Value.int .u8 1 :: Value.int .i64 i :: bc b).length = 1026 := fun i b hb => by simp [hb]
  have getD_at : ∀ {i : Nat} (hi : i < o.length), o.getD i (0, []) = o[i] := fun hi => by rw [List.getD_eq_getElem?_getD, List.getElem?_eq_getElem hi]; rfl
  refine lop2 (fun k wv x st' => ∃ i : Nat, k + i = o.length ∧ x = .int .i64 i ∧ Keeps sE st' ∧ SlG st' 1026 wv ((logOps o i).map toH).length (histC ((logOps o i).map toH)) ∧ ∀ j ∈ idsV wv, sE.next ≤ j) o.length ⟨0, rfl, rfl, Keeps.refl _, SlG.nil, fun j hj => by simp [idsV] at hj⟩ ?_
  rintro k wv x st' next ⟨i, hi, rfl, hk, hw, hid⟩ hnx
  have hov1 : SlR st' 1 ov (ordL o).length (ic (ordL o)) := hov'.keeps fun i o h => hk.get h
  have hdv1 : SlR st' 1024 dv o.length (bc (dataF o)) := hdv'.keeps fun i o h => hk.get h
  by_cases h5 : (i : Int) < o.length
  · have h6 : i < o.length := by omega
    obtain ⟨a, x, q1, q2, q3, q4⟩ := hdv1.at (by decide) h6
    have hp : o[i]? = some o[i] := List.getElem?_eq_getElem h6
    rw [bc_drop, bc_take, dataF_at ho hp] at q3
    have q1' := q1 .i64
    have hbi := ho _ (List.getElem_mem h6)
    have hoi := o26 (2 + (i : Int)) hbi
    simp -implicitDefEqProofs (maxSteps := 2000000) (disch := first|assumption|omega|rfl|(simp only[RD];done)|(simp only[RD];omega)) only [RN,Int.reduceBEq,Int.reduceBNe,Int.reduceLT,Int.reduceLE,Int.reduceAdd,Int.reduceSub,Int.reduceMul,Nat.reduceAdd,↓bc_flatz,↓bc_flat16,↓agg_bytez, hov1.len, ol, decide_eq_true h5, p4_5, hk.get c32, e3, q1', q3, hbi, hoi]
    obtain ⟨s5, wv', a1, a2, a3, a4⟩ := app_op (op := (1, 2 + (i : Int), o[i].2)) hw hk hid hbi (by rw [List.length_map, logOps_len]; omega)
    unfold opC at a1
    simp -implicitDefEqProofs (maxSteps := 2000000) (disch := first|assumption|omega|rfl|(simp only[RD];done)|(simp only[RD];omega)) only [RN,Int.reduceBEq,Int.reduceBNe,Int.reduceLT,Int.reduceLE,Int.reduceAdd,Int.reduceSub,Int.reduceMul,Nat.reduceAdd,↓bc_flatz,↓bc_flat16,↓agg_bytez, a1]
    refine hnx _ _ _ (by omega) ⟨i + 1, by omega, by congr 1, a3, ?_, a4⟩
    have e : (logOps o (i + 1)).map toH = (logOps o i).map toH ++ [(1, 2 + (i : Int), o[i].2)] := by
      simp only [logOps, List.map_append, List.map_cons, List.map_nil, toH, getD_at h6]
    rw [e]; exact a2
  · have h7 : i = o.length := by omega
    simp -implicitDefEqProofs (maxSteps := 2000000) (disch := first|assumption|omega|rfl|(simp only[RD];done)|(simp only[RD];omega)) only [RN,Int.reduceBEq,Int.reduceBNe,Int.reduceLT,Int.reduceLE,Int.reduceAdd,Int.reduceSub,Int.reduceMul,Nat.reduceAdd,↓bc_flatz,↓bc_flat16,↓agg_bytez, hov1.len, ol, decide_eq_false h5, p4_5, hk.get c32, hk.get ce, hk.get cb, e3, hb26, hbl, o26 1 hbl]
    subst h7
    obtain ⟨s5, wv5, a1, a2, a3, a4⟩ := app_op3 (x := 1) (h := h) hw hk hid hbl (by rw [List.length_map, logOps_len]; omega)
    simp -implicitDefEqProofs (maxSteps := 2000000) (disch := first|assumption|omega|rfl|(simp only[RD];done)|(simp only[RD];omega)) only [RN,Int.reduceBEq,Int.reduceBNe,Int.reduceLT,Int.reduceLE,Int.reduceAdd,Int.reduceSub,Int.reduceMul,Nat.reduceAdd,↓bc_flatz,↓bc_flat16,↓agg_bytez, a1]
    refine lop2 (fun k wv x st' => ∃ i : Nat, k + i = o.length ∧ x = .int .i64 i ∧ Keeps sE st' ∧ SlG st' 1026 wv ((preOps o ++ putOps o i).map toH).length (histC ((preOps o ++ putOps o i).map toH)) ∧ ∀ j ∈ idsV wv, sE.next ≤ j) o.length ⟨0, rfl, rfl, a3, ?_, a4⟩ ?_
    · have e : (preOps o ++ putOps o 0).map toH = (logOps o o.length).map toH ++ [(2, 0, zb), (1, 1, h), (2, 0, zb)] := by
        simp [preOps, putOps, toH, hhB]
      rw [e]; exact a2
    rintro k wv x st' next ⟨i, hi, rfl, hk, hw, hid⟩ hnx
    have hov1 : SlR st' 1 ov (ordL o).length (ic (ordL o)) := hov'.keeps fun i o h => hk.get h
    have hdv1 : SlR st' 1024 dv o.length (bc (dataF o)) := hdv'.keeps fun i o h => hk.get h
    have hpre : ((preOps o ++ putOps o i).map toH).length = o.length + 3 + i := by simp [preOps, logOps_len, putOps_len]; omega
    by_cases h5 : (i : Int) < o.length
    · have h6 : i < o.length := by omega
      obtain ⟨a, x, q1, q2, q3, q4⟩ := hdv1.at (by decide) h6
      have hp : o[i]? = some o[i] := List.getElem?_eq_getElem h6
      rw [bc_drop, bc_take, dataF_at ho hp] at q3
      have q1' := q1 .i64
      have hbi := ho _ (List.getElem_mem h6)
      have hoi := o26 o[i].1 hbi
      have hox : (ordL o)[i]? = some o[i].1 := by unfold ordL; rw [List.getElem?_map, hp]; rfl
      obtain ⟨a', x', r1, r2, r3⟩ := slr_get hov1 hox
      simp -implicitDefEqProofs (maxSteps := 2000000) (disch := first|assumption|omega|rfl|(simp only[RD];done)|(simp only[RD];omega)) only [RN,Int.reduceBEq,Int.reduceBNe,Int.reduceLT,Int.reduceLE,Int.reduceAdd,Int.reduceSub,Int.reduceMul,Nat.reduceAdd,↓bc_flatz,↓bc_flat16,↓agg_bytez, decide_eq_true h5, p4_4, q1', q3, r1, r3, hbi, hoi]
      obtain ⟨s5, wv', a1, a2, a3, a4⟩ := app_op (op := (1, o[i].1, o[i].2)) hw hk hid hbi (by rw [hpre]; omega)
      unfold opC at a1
      simp -implicitDefEqProofs (maxSteps := 2000000) (disch := first|assumption|omega|rfl|(simp only[RD];done)|(simp only[RD];omega)) only [RN,Int.reduceBEq,Int.reduceBNe,Int.reduceLT,Int.reduceLE,Int.reduceAdd,Int.reduceSub,Int.reduceMul,Nat.reduceAdd,↓bc_flatz,↓bc_flat16,↓agg_bytez, a1]
      refine hnx _ _ _ (by omega) ⟨i + 1, by omega, by congr 1, a3, ?_, a4⟩
      have e : (preOps o ++ putOps o (i + 1)).map toH = (preOps o ++ putOps o i).map toH ++ [(1, o[i].1, o[i].2)] := by
        simp only [putOps, List.map_append, List.map_cons, List.map_nil, toH, getD_at h6, List.append_assoc]
      rw [e]; exact a2
    · have h7 : i = o.length := by omega
      subst h7
      simp -implicitDefEqProofs (maxSteps := 2000000) (disch := first|assumption|omega|rfl|(simp only[RD];done)|(simp only[RD];omega)) only [RN,Int.reduceBEq,Int.reduceBNe,Int.reduceLT,Int.reduceLE,Int.reduceAdd,Int.reduceSub,Int.reduceMul,Nat.reduceAdd,↓bc_flatz,↓bc_flat16,↓agg_bytez, decide_eq_false h5, p4_4, hk.get c32, hk.get cb, e3, hb26, o26 1 z1]
      obtain ⟨s5, wv5, b1, b2, b3, b4⟩ := app_op3 (x := 1) (h := zb) hw hk hid z1 (by rw [hpre]; omega)
      simp -implicitDefEqProofs (maxSteps := 2000000) (disch := first|assumption|omega|rfl|(simp only[RD];done)|(simp only[RD];omega)) only [RN,Int.reduceBEq,Int.reduceBNe,Int.reduceLT,Int.reduceLE,Int.reduceAdd,Int.reduceSub,Int.reduceMul,Nat.reduceAdd,↓bc_flatz,↓bc_flat16,↓agg_bytez, b1]
      have k5 : Keeps st s5 := kE.trans b3
      have hlen : s.hist.length = 2 * o.length + 6 := by rw [hh, List.length_map, commitOps_len]
      refine history_o (D.later k5) hC hm (fun e => by rw [e] at hlen; simp at hlen) fun s6 v k6 hv => ?_
      try simp -implicitDefEqProofs (maxSteps := 2000000) (disch := first|assumption|omega|rfl|(simp only[RD];done)|(simp only[RD];omega)) only [RN,Int.reduceBEq,Int.reduceBNe,Int.reduceLT,Int.reduceLE,Int.reduceAdd,Int.reduceSub,Int.reduceMul,Nat.reduceAdd,↓bc_flatz,↓bc_flat16,↓agg_bytez]
      have e : (preOps o ++ putOps o o.length).map toH ++ [(2, 0, zb), (1, 1, zb), (2, 0, zb)] = s.hist := by
        rw [hh]; simp [commitOps, toH]
      rw [e] at b2
      refine sameops_ (h := s.hist) (by omega) (by rw [hh]; exact ops_len ho) hv (b2.r.keeps fun i o h => k6.get h) ?_
      exact hK _
end Go.Proofs.YtndjgidglnofbaaRRR
