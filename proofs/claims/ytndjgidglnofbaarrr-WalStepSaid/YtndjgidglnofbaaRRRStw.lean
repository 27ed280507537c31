/- WalStep, walked. -/
import Derived.Test.YtndjgidglnofbaaRRRSts
set_option linter.all false
set_option maxRecDepth 100000
set_option maxHeartbeats 400000
namespace Go.Proofs.YtndjgidglnofbaaRRR
open Go.Am
variable {σ : Store} {Q : Value → Store → Prop} {g : Geo} {s : DS} {w : WS} {m : Nat} {l d nid : Nat} {F G B X : List Nat} {st sB : Store}
theorem stw_a {K : Value → Store → Prop} {a2 : Value} {b0 b1 n : Nat} {r : Int} {chg : List (Int × Int)} (hg : g.ok) (hn : g.blocks = (n : Nat)) (h3 : n ≤ 300) (hchg : ∀ p ∈ chg, 0 ≤ p.2 ∧ p.2 < 256) (hlen : chg.length ≤ 200) (hr : 1 ≤ r ∧ r ≤ g.log - 1)
    (L : Log sB l d ((WS.new g 1).begin r) (fresh0 g) F) (D : Disk sB d (fresh0 g) G) (A : Apart F G) (ha : SlR sB 2 a2 chg.length (chgC chg)) (c0 : sB.get b0 = some (.cells (ic g.cells) none)) (c1 : sB.get b1 = some (.cells (ic g.lay) none)) (n0 : b0 ∉ F ++ G) (n1 : b1 ∉ F ++ G)
    (hkeep : ∀ st', (∀ j, j < sB.next → j ∉ F ++ G → st'.get j = sB.get j) → SlR st' 2 a2 chg.length (chgC chg)) (hK : ∀ st', K (.bool true) st') :
    p5_10 (.bool false) K sB (.pointer (some ⟨b0, 0, none⟩)) a2 (.pointer (some ⟨l, 0, none⟩)) (.pointer (some ⟨b1, 0, none⟩)) (.int .i64 r) (.pointer (some ⟨d, 0, none⟩)) := by
  have hgg := hg
  unfold Geo.ok at hgg
  have e0 : rdOne (some (.cells (ic g.cells) none)) 0 = some (.int .i64 (n : Nat)) := by rw [← hn]; rfl
  have e3 : rdOne (some (.cells (ic g.lay) none)) 3 = some (.int .i64 1) := rfl
  have e4 : rdOne (some (.cells (ic g.lay) none)) 4 = some (.int .i64 (1 + g.log)) := rfl
  have mk := make_blocks (n := n) (k := .i64) (by omega)
  have z1 := zb_len
  have bl := @blk_len
  simp -implicitDefEqProofs (maxSteps := 2000000) (disch := first|assumption|omega|rfl|(simp only[RD];done)|(simp only[RD];omega)) only [RN,Int.reduceBEq,Int.reduceBNe,Int.reduceLT,Int.reduceLE,Int.reduceAdd,Int.reduceSub,Int.reduceMul,Nat.reduceAdd,↓bc_flatz,↓bc_flat16,↓agg_bytez, p5_10, c0, e0, mk]
  obtain ⟨sC, hsC⟩ : ∃ sC, sC = sB.push (.cells (bc (List.replicate (n * 1024) 0)) none) := ⟨_, rfl⟩
  have kC : Keeps sB sC := by rw [hsC]; exact (Keeps.refl _).push _
  have cC : sC.get sB.next = some (.cells (bc (List.replicate (n * 1024) 0)) none) := by rw [hsC]; exact Store.get_push_same _ _
  rw [← hsC]
  have hFG : ∀ j ∈ F ++ G, j < sB.next := fun j hj => by
    rcases List.mem_append.1 hj with h | h
    · exact L.lt j h
    · exact D.lt j h
  have hnb0 : b0 < sB.next := Store.lt_of_get c0
  have hnb1 : b1 < sB.next := Store.lt_of_get c1
  have sp0 : Sp l d sB.next g r (F ++ G) sC ((WS.new g 1).begin r) (.slice none 0 0) (List.replicate (n * 1024) 0) sC := {
    ex := ⟨F, G, L.same kC.1 fun j hj => kC.2 j (L.lt j hj), D.later kC, A, fun j hj hx => by
        have := hFG j hj
        have : j = sB.next := by simpa [idsV] using hx
        omega, Nat.le_refl _, fun j hj => ?_, fun _ _ _ => rfl⟩
    sl := SlG.nil
    nn := by simp [idsV]
    arr := cC
    nl := by rw [List.length_replicate, hn]; simp
    nv := fun x hx => by
      rw [List.drop_replicate, List.take_replicate]
      show _ = zb
      unfold zb
      congr 1
      have : g.blocks.toNat = n := by omega
      omega
    wg := rfl
    wo := rfl
    wr := rfl
    wm := rfl
    ord := rfl
    cnt := ⟨rfl, rfl⟩ }
  rotate_left
  · have hlt : sB.next < sC.next := Store.lt_of_get cC
    rcases List.mem_append.1 hj with h | h
    · have := hFG j h
      exact ⟨by omega, .inl (List.mem_append_left _ h)⟩
    · have e : j = sB.next := by simpa [idsV] using h
      exact ⟨by omega, .inl (List.mem_append_right _ (by simp [e]))⟩
  refine lop2 (fun k xv x st => ∃ (i : Nat) (w : WS) (now : List Int), k + i = chg.length ∧ x = .int .i64 i ∧ Sp l d sB.next g r (F ++ G) sC w xv now st) chg.length ⟨0, _, _, rfl, rfl, sp0⟩ ?_
  rintro k xv x st next ⟨i, w, now, hi, rfl, sp⟩ hnx
  have old : ∀ {j : Nat} {o : SObj}, sB.get j = some o → j ∉ F ++ G → st.get j = some o := fun {j o} hj hn => sp.old (kC.get hj) hn (by have := Store.lt_of_get hj; omega)
  have c0' := old c0 n0
  have c1' := old c1 n1
  have ha' : SlR st 2 a2 chg.length (chgC chg) := hkeep st fun j hj hn => by
    obtain ⟨_, _, _, _, _, _, u⟩ := sp.ex
    rw [u.same j (Nat.lt_of_lt_of_le hj kC.1) (fun h => by
      rcases List.mem_append.1 h with h | h
      · exact hn h
      · have : j = sB.next := by simpa using h
        omega), kC.2 j hj]
  by_cases h5 : (i : Int) < (chg.length : Nat)
  · have h6 : i < chg.length := by omega
    obtain ⟨p, hp⟩ : ∃ p, chg[i]? = some p := ⟨_, List.getElem?_eq_getElem h6⟩
    have hpr := hchg p (List.mem_of_getElem? hp)
    obtain ⟨a, o, q1, q2, q3, q4⟩ := chg_at ha' hp
    simp -implicitDefEqProofs (maxSteps := 2000000) (disch := first|assumption|omega|rfl|(simp only[RD];done)|(simp only[RD];omega)) only [RN,Int.reduceBEq,Int.reduceBNe,Int.reduceLT,Int.reduceLE,Int.reduceAdd,Int.reduceSub,Int.reduceMul,Nat.reduceAdd,↓bc_flatz,↓bc_flat16,↓agg_bytez, ha'.len, decide_eq_true h5, q1, q3, c0', e0]
    simp -implicitDefEqProofs (maxSteps := 2000000) (disch := first|assumption|omega|rfl|(simp only[RD];done)|(simp only[RD];omega)) only [RN,Int.reduceBEq,Int.reduceBNe,Int.reduceLT,Int.reduceLE,Int.reduceAdd,Int.reduceSub,Int.reduceMul,Nat.reduceAdd,↓bc_flatz,↓bc_flat16,↓agg_bytez, p5_4, c0', e0]
    refine pick_ (by omega) (by omega) ?_
    have m1 := Int.emod_nonneg p.1 (show (n : Int) + 4 ≠ 0 by omega)
    have m2 := Int.emod_lt_of_pos p.1 (show 0 < (n : Int) + 4 by omega)
    obtain ⟨y, hy⟩ : ∃ y, y = p.1 % ((n : Int) + 4) - 2 := ⟨_, rfl⟩
    simp -implicitDefEqProofs (maxSteps := 2000000) (disch := first|assumption|omega|rfl|(simp only[RD];done)|(simp only[RD];omega)) only [RN,Int.reduceBEq,Int.reduceBNe,Int.reduceLT,Int.reduceLE,Int.reduceAdd,Int.reduceSub,Int.reduceMul,Nat.reduceAdd,↓bc_flatz,↓bc_flat16,↓agg_bytez, q1, q4]
    rw [← hy]
    refine block_ hpr.1 hpr.2 ?_
    try simp -implicitDefEqProofs (maxSteps := 2000000) (disch := first|assumption|omega|rfl|(simp only[RD];done)|(simp only[RD];omega)) only [RN,Int.reduceBEq,Int.reduceBNe,Int.reduceLT,Int.reduceLE,Int.reduceAdd,Int.reduceSub,Int.reduceMul,Nat.reduceAdd,↓bc_flatz,↓bc_flat16,↓agg_bytez]
    obtain ⟨F1, G1, L1, D1, A1, AB1, U1⟩ := sp.ex
    have hW := sp.ok
    have hmm : (fresh0 g).mine w.mine = true := by rw [sp.wm]; rfl
    have hC : (fresh0 g).C 2 := fresh0_C hg
    refine lwrite_ L1 D1 A1 hC hmm (bl p.2) (x := y) fun st2 F2 L2 D2 A2 U2 => ?_
    have ew := write_want hW sp.wo y (blk p.2)
    rw [sp.wg, sp.wr] at ew
    have hBlt : ∀ j ∈ sB.next :: idsV xv, j < st.next := fun j hj => by
      rcases List.mem_cons.1 hj with h | h
      · rw [h]; exact Store.lt_of_get sp.arr
      · exact sp.sl.lt j h
    have AB2 := AB1.upd U2 hBlt
    have UB2 : Upd ((F ++ G) ++ [sB.next]) sC st2 ((F2 ++ G1) ++ (sB.next :: idsV xv)) := U1.trans (upd_left U2 hBlt)
    have sl2 : SlG st2 1 xv w.wrote.length (ic w.wrote) := sp.sl.same fun j hj => Upd.get U2 AB1 hBlt j (List.mem_cons_of_mem _ hj)
    have arr2 : st2.get sB.next = some (.cells (bc now) none) := by rw [Upd.get U2 AB1 hBlt _ (List.mem_cons_self ..)]; exact sp.arr
    have old2 : ∀ {j : Nat} {o : SObj}, sB.get j = some o → j ∉ F ++ G → st2.get j = some o := fun {j o} hj hn => by
      rw [UB2.same j (by have := Store.lt_of_get hj; have := kC.1; omega) (by have := Store.lt_of_get hj; simp [hn]; simp at hn; exact ⟨hn.1, hn.2, by omega⟩), kC.get hj]
    have c02 := old2 c0 n0
    have c12 := old2 c1 n1
    have hgl : w.grp.length = w.wrote.length := by rw [← sp.ord, ordL_len]
    have hwl : w.wrote.length ≤ 300 := by have := hW.many; rw [sp.wg] at this; omega
    have no : (w.write y (blk p.2)).1 ≠ 0 → Sp l d sB.next g r (F ++ G) sC w xv now st2 ∧ Log st2 l d w (fresh0 g) F2 := fun h => by
      rw [write_no h] at L2
      exact ⟨⟨⟨F2, G1, L2, D2, A2, AB2, UB2⟩, sl2, sp.nn, arr2, sp.nl, sp.nv, sp.wg, sp.wo, sp.wr, sp.wm, sp.ord, sp.cnt⟩, L2⟩
    have tail : ∀ {xv' : Value} {w' : WS} {now' : List Int} {st' : Store}, Sp l d sB.next g r (F ++ G) sC w' xv' now' st' → next xv' (.int .i64 ((i : Int) + 1)) st' := fun h => hnx _ _ _ (by omega) ⟨i + 1, _, _, by omega, by congr 1, h⟩
    by_cases hbad : y < 1 + g.log ∨ g.blocks ≤ y
    · rw [if_pos hbad] at ew
      obtain ⟨sp2, L3⟩ := no (by rw [ew]; decide)
      rw [ew]
      by_cases hy0 : 0 < y
      · by_cases hy1 : y < (n : Int)
        · simp -implicitDefEqProofs (maxSteps := 2000000) (disch := first|assumption|omega|rfl|(simp only[RD];done)|(simp only[RD];omega)) only [RN,Int.reduceBEq,Int.reduceBNe,Int.reduceLT,Int.reduceLE,Int.reduceAdd,Int.reduceSub,Int.reduceMul,Nat.reduceAdd,↓bc_flatz,↓bc_flat16,↓agg_bytez, decide_eq_true hy0, c02, e0, p5_3, decide_eq_true hy1, c12, e3, e4, decide_eq_false (show ¬ y < 1 by omega), decide_eq_false (show ¬ (1 + g.log) ≤ y by omega), p5_2, p5_1]
          refine used_ L3 D2 hC hmm ?_
          simp -implicitDefEqProofs (maxSteps := 2000000) (disch := first|assumption|omega|rfl|(simp only[RD];done)|(simp only[RD];omega)) only [RN,Int.reduceBEq,Int.reduceBNe,Int.reduceLT,Int.reduceLE,Int.reduceAdd,Int.reduceSub,Int.reduceMul,Nat.reduceAdd,↓bc_flatz,↓bc_flat16,↓agg_bytez, sl2.len, hgl]
          exact tail sp2
        · simp -implicitDefEqProofs (maxSteps := 2000000) (disch := first|assumption|omega|rfl|(simp only[RD];done)|(simp only[RD];omega)) only [RN,Int.reduceBEq,Int.reduceBNe,Int.reduceLT,Int.reduceLE,Int.reduceAdd,Int.reduceSub,Int.reduceMul,Nat.reduceAdd,↓bc_flatz,↓bc_flat16,↓agg_bytez, decide_eq_true hy0, c02, e0, p5_3, decide_eq_false hy1, p5_2, p5_1]
          refine used_ L3 D2 hC hmm ?_
          simp -implicitDefEqProofs (maxSteps := 2000000) (disch := first|assumption|omega|rfl|(simp only[RD];done)|(simp only[RD];omega)) only [RN,Int.reduceBEq,Int.reduceBNe,Int.reduceLT,Int.reduceLE,Int.reduceAdd,Int.reduceSub,Int.reduceMul,Nat.reduceAdd,↓bc_flatz,↓bc_flat16,↓agg_bytez, sl2.len, hgl]
          exact tail sp2
      · simp -implicitDefEqProofs (maxSteps := 2000000) (disch := first|assumption|omega|rfl|(simp only[RD];done)|(simp only[RD];omega)) only [RN,Int.reduceBEq,Int.reduceBNe,Int.reduceLT,Int.reduceLE,Int.reduceAdd,Int.reduceSub,Int.reduceMul,Nat.reduceAdd,↓bc_flatz,↓bc_flat16,↓agg_bytez, decide_eq_false hy0, p5_3, p5_2, p5_1]
        refine used_ L3 D2 hC hmm ?_
        simp -implicitDefEqProofs (maxSteps := 2000000) (disch := first|assumption|omega|rfl|(simp only[RD];done)|(simp only[RD];omega)) only [RN,Int.reduceBEq,Int.reduceBNe,Int.reduceLT,Int.reduceLE,Int.reduceAdd,Int.reduceSub,Int.reduceMul,Nat.reduceAdd,↓bc_flatz,↓bc_flat16,↓agg_bytez, sl2.len, hgl]
        exact tail sp2
    · have hy0 : 0 < y := by omega
      have hy1 : y < (n : Int) := by omega
      rw [if_neg hbad] at ew
      simp -implicitDefEqProofs (maxSteps := 2000000) (disch := first|assumption|omega|rfl|(simp only[RD];done)|(simp only[RD];omega)) only [RN,Int.reduceBEq,Int.reduceBNe,Int.reduceLT,Int.reduceLE,Int.reduceAdd,Int.reduceSub,Int.reduceMul,Nat.reduceAdd,↓bc_flatz,↓bc_flat16,↓agg_bytez, decide_eq_true hy0, c02, e0, p5_3, decide_eq_true hy1, c12, e3, e4, decide_eq_false (show ¬ y < 1 by omega), decide_eq_true (show (1 + g.log) ≤ y by omega), p5_2]
      refine in_ sl2.r (by omega) ?_
      obtain ⟨yn, hyn⟩ : ∃ yn : Nat, y = (yn : Nat) := ⟨y.toNat, by omega⟩
      have hnl := sp.nl
      have hnn : g.blocks.toNat = n := by omega
      rw [hnn] at hnl
      have hsb : st2.next ≤ st2.next := Nat.le_refl _
      have yes : (w.write y (blk p.2)).1 = 0 → ∃ F3 G3, Log (st2.put sB.next (some (.cells (bc (layB now (yn * 1024) (blk p.2))) none))) l d (w.write y (blk p.2)).2 (fresh0 g) F3 ∧ Disk (st2.put sB.next (some (.cells (bc (layB now (yn * 1024) (blk p.2))) none))) d (fresh0 g) G3 ∧ Apart F3 G3 ∧ Apart (F3 ++ G3) (sB.next :: idsV xv) ∧ Upd ((F ++ G) ++ [sB.next]) sC (st2.put sB.next (some (.cells (bc (layB now (yn * 1024) (blk p.2))) none))) ((F3 ++ G3) ++ (sB.next :: idsV xv)) :=
        fun _ => ex_put L2 D2 A2 AB2 UB2 (by simp) (Store.lt_of_get arr2) _
      have nv' : (w.write y (blk p.2)).1 = 0 → ∀ x : Nat, x < g.blocks.toNat → ((layB now (yn * 1024) (blk p.2)).drop (x * 1024)).take 1024 = (w.write y (blk p.2)).2.at (fresh0 g) x := fun h x hx => by
        rw [layB_at (bl p.2) (by rw [hnl]; omega) (by rw [hnl]; omega)]
        unfold WS.at
        rw [(write_yes h).1, getG_put hW.nodup]
        by_cases e : x = yn
        · rw [if_pos e, if_pos (by rw [hyn, e]), Option.getD_some]
        · rw [if_neg e, if_neg (by rw [hyn]; omega), sp.nv x hx]; rfl
      have stb := store_bytes (n := 1024) arr2 (bl p.2) (o := yn * 1024) (by rw [hnl]; omega)
      obtain ⟨k1, k2, k3, k4, k5, k6⟩ := write_keeps w y (blk p.2)
      have nl' : (layB now (yn * 1024) (blk p.2)).length = g.blocks.toNat * 1024 := by rw [layB_len (by rw [bl, hnl]; omega), hnl, hnn]
      have slp : SlG (st2.put sB.next (some (.cells (bc (layB now (yn * 1024) (blk p.2))) none))) 1 xv w.wrote.length (ic w.wrote) := sl2.same fun j hj => get_put_ne' (fun e => sp.nn (e ▸ hj))
      by_cases hin : y ∈ w.wrote
      · have e00 : (w.write y (blk p.2)).1 = 0 := by rw [ew, if_neg (fun h => h.1 hin)]
        obtain ⟨F3, G3, L3, D3, A3, AB3, U3⟩ := yes e00
        have hwr : (w.write y (blk p.2)).2.wrote = w.wrote := by rw [(write_yes e00).2]; exact if_pos hin
        have sp3 : Sp l d sB.next g r (F ++ G) sC (w.write y (blk p.2)).2 xv (layB now (yn * 1024) (blk p.2)) (st2.put sB.next (some (.cells (bc (layB now (yn * 1024) (blk p.2))) none))) := {
          ex := ⟨F3, G3, L3, D3, A3, AB3, U3⟩, sl := by rw [hwr]; exact slp, nn := sp.nn, arr := Store.get_put_same _ _ _, nl := nl', nv := nv' e00, wg := by rw [k1, sp.wg], wo := by rw [k3, sp.wo], wr := by rw [k4, sp.wr], wm := by rw [k2, sp.wm]
          ord := by rw [(write_yes e00).1, (write_yes e00).2, ordL_put, sp.ord], cnt := by rw [k5, k6]; exact sp.cnt }
        have hgl' : (w.write y (blk p.2)).2.grp.length = w.wrote.length := by rw [← hwr, ← sp3.ord, ordL_len]
        have q1'' : iaddrS 2 a2 (.int .i64 (i : Nat)) = some (.pointer (some ⟨a, o, none⟩)) := q1
        have ha2 : SlR st2 2 a2 chg.length (chgC chg) := hkeep st2 fun j hj hn => by
          rw [UB2.same j (Nat.lt_of_lt_of_le hj kC.1) (by simp; simp at hn; exact ⟨hn.1, hn.2, by omega⟩), kC.2 j hj]
        obtain ⟨a', o', r1, r2, r3, r4⟩ := chg_at ha2 hp
        rw [decide_eq_true hin, e00]
        rw [hyn]
        simp -implicitDefEqProofs (maxSteps := 2000000) (disch := first|assumption|omega|rfl|(simp only[RD];done)|(simp only[RD];omega)) only [RN,Int.reduceBEq,Int.reduceBNe,Int.reduceLT,Int.reduceLE,Int.reduceAdd,Int.reduceSub,Int.reduceMul,Nat.reduceAdd,↓bc_flatz,↓bc_flat16,↓agg_bytez, p5_1, r1, r4]
        refine block_ hpr.1 hpr.2 ?_
        simp -implicitDefEqProofs (maxSteps := 2000000) (disch := first|assumption|omega|rfl|(simp only[RD];done)|(simp only[RD];omega)) only [RN,Int.reduceBEq,Int.reduceBNe,Int.reduceLT,Int.reduceLE,Int.reduceAdd,Int.reduceSub,Int.reduceMul,Nat.reduceAdd,↓bc_flatz,↓bc_flat16,↓agg_bytez, Int.toNat_natCast, stb]
        refine in_ slp.r (by omega) ?_
        rw [← hyn, decide_eq_true hin]
        try simp -implicitDefEqProofs (maxSteps := 2000000) (disch := first|assumption|omega|rfl|(simp only[RD];done)|(simp only[RD];omega)) only [RN,Int.reduceBEq,Int.reduceBNe,Int.reduceLT,Int.reduceLE,Int.reduceAdd,Int.reduceSub,Int.reduceMul,Nat.reduceAdd,↓bc_flatz,↓bc_flat16,↓agg_bytez]
        refine used_ L3 D3 hC (by rw [k2]; exact hmm) ?_
        simp -implicitDefEqProofs (maxSteps := 2000000) (disch := first|assumption|omega|rfl|(simp only[RD];done)|(simp only[RD];omega)) only [RN,Int.reduceBEq,Int.reduceBNe,Int.reduceLT,Int.reduceLE,Int.reduceAdd,Int.reduceSub,Int.reduceMul,Nat.reduceAdd,↓bc_flatz,↓bc_flat16,↓agg_bytez, slp.len, hgl']
        exact tail sp3
      · by_cases hfull : (w.wrote.length : Int) = r
        · have e1 : (w.write y (blk p.2)).1 = 181 := by rw [ew, if_pos ⟨hin, hfull⟩]
          obtain ⟨sp2, L3⟩ := no (by rw [e1]; decide)
          rw [decide_eq_false hin, e1]
          have hfb : ((w.wrote.length : Int) == r) = true := by rw [hfull]; exact beq_self_eq_true _
          simp -implicitDefEqProofs (maxSteps := 2000000) (disch := first|assumption|omega|rfl|(simp only[RD];done)|(simp only[RD];omega)) only [RN,Int.reduceBEq,Int.reduceBNe,Int.reduceLT,Int.reduceLE,Int.reduceAdd,Int.reduceSub,Int.reduceMul,Nat.reduceAdd,↓bc_flatz,↓bc_flat16,↓agg_bytez, sl2.len, hfb, p5_1]
          refine used_ L3 D2 hC hmm ?_
          simp -implicitDefEqProofs (maxSteps := 2000000) (disch := first|assumption|omega|rfl|(simp only[RD];done)|(simp only[RD];omega)) only [RN,Int.reduceBEq,Int.reduceBNe,Int.reduceLT,Int.reduceLE,Int.reduceAdd,Int.reduceSub,Int.reduceMul,Nat.reduceAdd,↓bc_flatz,↓bc_flat16,↓agg_bytez, sl2.len, hgl]
          exact tail sp2
        · have e00 : (w.write y (blk p.2)).1 = 0 := by rw [ew, if_neg (fun h => hfull h.2)]
          have hfb : ((w.wrote.length : Int) == r) = false := by simpa using hfull
          obtain ⟨F3, G3, L3, D3, A3, AB3, U3⟩ := yes e00
          have ha2 : SlR st2 2 a2 chg.length (chgC chg) := hkeep st2 fun j hj hn => by
            rw [UB2.same j (Nat.lt_of_lt_of_le hj kC.1) (by simp; simp at hn; exact ⟨hn.1, hn.2, by omega⟩), kC.2 j hj]
          obtain ⟨a', o', r1, r2, r3, r4⟩ := chg_at ha2 hp
          rw [decide_eq_false hin, e00]
          rw [hyn]
          simp -implicitDefEqProofs (maxSteps := 2000000) (disch := first|assumption|omega|rfl|(simp only[RD];done)|(simp only[RD];omega)) only [RN,Int.reduceBEq,Int.reduceBNe,Int.reduceLT,Int.reduceLE,Int.reduceAdd,Int.reduceSub,Int.reduceMul,Nat.reduceAdd,↓bc_flatz,↓bc_flat16,↓agg_bytez, sl2.len, hfb, p5_1, r1, r4]
          refine block_ hpr.1 hpr.2 ?_
          simp -implicitDefEqProofs (maxSteps := 2000000) (disch := first|assumption|omega|rfl|(simp only[RD];done)|(simp only[RD];omega)) only [RN,Int.reduceBEq,Int.reduceBNe,Int.reduceLT,Int.reduceLE,Int.reduceAdd,Int.reduceSub,Int.reduceMul,Nat.reduceAdd,↓bc_flatz,↓bc_flat16,↓agg_bytez, Int.toNat_natCast, stb]
          obtain ⟨s3, hs3⟩ : ∃ s3, s3 = st2.put sB.next (some (.cells (bc (layB now (yn * 1024) (blk p.2))) none)) := ⟨_, rfl⟩
          rw [← hs3] at slp L3 D3 U3 ⊢
          refine in_ slp.r (by omega) ?_
          rw [← hyn, decide_eq_false hin]
          obtain ⟨s4, hs4⟩ : ∃ s4, s4 = s3.push (.cells [.int .i64 y] none) := ⟨_, rfl⟩
          have k4' : Keeps s3 s4 := by rw [hs4]; exact (Keeps.refl _).push _
          have c4 : s4.get s3.next = some (.cells [.int .i64 y] none) := by rw [hs4]; exact Store.get_push_same _ _
          have sl4 : SlG s4 1 xv w.wrote.length (ic w.wrote) := slp.same fun j hj => k4'.2 j (slp.lt j hj)
          obtain ⟨s5, ap1, ap2, ap3, ap4⟩ := sl4.app (by_ := 8) (k := 1) (gj := none) c4 rfl (by omega) (by omega) (by decide)
          simp -implicitDefEqProofs (maxSteps := 2000000) (disch := first|assumption|omega|rfl|(simp only[RD];done)|(simp only[RD];omega)) only [RN,Int.reduceBEq,Int.reduceBNe,Int.reduceLT,Int.reduceLE,Int.reduceAdd,Int.reduceSub,Int.reduceMul,Nat.reduceAdd,↓bc_flatz,↓bc_flat16,↓agg_bytez]
          rw [← hs4]
          simp -implicitDefEqProofs (maxSteps := 2000000) (disch := first|assumption|omega|rfl|(simp only[RD];done)|(simp only[RD];omega)) only [RN,Int.reduceBEq,Int.reduceBNe,Int.reduceLT,Int.reduceLE,Int.reduceAdd,Int.reduceSub,Int.reduceMul,Nat.reduceAdd,↓bc_flatz,↓bc_flat16,↓agg_bytez, ap1]
          have arr3 : s3.get sB.next = some (.cells (bc (layB now (yn * 1024) (blk p.2))) none) := by rw [hs3]; exact Store.get_put_same _ _ _
          have hwr : (w.write y (blk p.2)).2.wrote = w.wrote ++ [y] := by rw [(write_yes e00).2]; exact if_neg hin
          have n34 : s3.next < s4.next := Store.lt_of_get c4
          have sp3 : Sp l d sB.next g r (F ++ G) sC (w.write y (blk p.2)).2 (.slice (some ⟨s4.next, 0, some 1⟩) (w.wrote.length + 1) (w.wrote.length + 1)) (layB now (yn * 1024) (blk p.2)) s5 := {
            ex := ex_app L3 D3 A3 AB3 U3 (Store.lt_of_get arr3) sp.nn (by omega) (fun j hj hb => by rw [ap4 j (by omega) hb, k4'.2 j hj]) (fun j hj => by
              have : j = s4.next := by simpa [idsV] using hj
              omega)
            sl := by rw [hwr, List.length_append, ic_app]; exact ap2
            nn := by have := Store.lt_of_get arr3; simp [idsV]; omega
            arr := by have := Store.lt_of_get arr3; rw [ap4 _ (by omega) sp.nn, k4'.get arr3]
            nl := nl', nv := nv' e00, wg := by rw [k1, sp.wg], wo := by rw [k3, sp.wo], wr := by rw [k4, sp.wr], wm := by rw [k2, sp.wm]
            ord := by rw [(write_yes e00).1, (write_yes e00).2, ordL_put, sp.ord], cnt := by rw [k5, k6]; exact sp.cnt }
          have hgl' : (w.write y (blk p.2)).2.grp.length = w.wrote.length + 1 := by rw [← ordL_len, sp3.ord, hwr, List.length_append]; rfl
          obtain ⟨F5, G5, L5, D5, _⟩ := sp3.ex
          refine used_ L5 D5 hC (by rw [k2]; exact hmm) ?_
          simp -implicitDefEqProofs (maxSteps := 2000000) (disch := first|assumption|omega|rfl|(simp only[RD];done)|(simp only[RD];omega)) only [RN,Int.reduceBEq,Int.reduceBNe,Int.reduceLT,Int.reduceLE,Int.reduceAdd,Int.reduceSub,Int.reduceMul,Nat.reduceAdd,↓bc_flatz,↓bc_flat16,↓agg_bytez, hgl', Int.natCast_add]
          exact tail sp3
  · obtain ⟨F1, G1, L1, D1, A1, AB1, U1⟩ := sp.ex
    simp -implicitDefEqProofs (maxSteps := 2000000) (disch := first|assumption|omega|rfl|(simp only[RD];done)|(simp only[RD];omega)) only [RN,Int.reduceBEq,Int.reduceBNe,Int.reduceLT,Int.reduceLE,Int.reduceAdd,Int.reduceSub,Int.reduceMul,Nat.reduceAdd,↓bc_flatz,↓bc_flat16,↓agg_bytez, ha'.len, decide_eq_false h5]
    have hnn : g.blocks.toNat = n := by omega
    have nl := sp.nl
    have nv := sp.nv
    rw [hnn] at nl nv
    refine stw_b L1 D1 A1 AB1 sp.sl sp.arr nl nv sp.wg sp.wo sp.wm sp.ord sp.cnt hn h3 c0' ?_ hK
    intro hb
    rcases (U1.ids b0 (List.mem_append_left _ hb)).2 with h | h
    · rcases List.mem_append.1 h with h | h
      · exact n0 h
      · have : b0 = sB.next := by simpa using h
        omega
    · have := kC.1; omega
end Go.Proofs.YtndjgidglnofbaaRRR
