/- WalCommit, walked: the loop over its changes, and all. -/
import Derived.Test.YtndjgidglnofbaaRRRCmd
set_option linter.all false
set_option maxRecDepth 100000
set_option maxHeartbeats 800000
namespace Go.Proofs.YtndjgidglnofbaaRRR
open Go.Am
variable {σ : Store} {Q : Value → Store → Prop} {g : Geo} {s : DS} {w : WS} {m : Nat} {l d nid : Nat} {F G B X : List Nat} {st sB : Store}
theorem cm_loop {K : Value → Store → Prop} {pa : Option Addr} {ka : Nat} {b0 b1 n : Nat} {chg : List (Int × Int)} (hg : g.ok) (hn : g.blocks = (n : Nat)) (h3 : n ≤ 300) (hchg : ∀ p ∈ chg, 0 ≤ p.2 ∧ p.2 < 256) (hlen : chg.length ≤ 31) (hpos : 0 < chg.length)
    (L : Log sB l d ((WS.new g 1).begin (chg.length : Nat)) (fresh0 g) F) (D : Disk sB d (fresh0 g) G) (A : Apart F G) (c0 : sB.get b0 = some (.cells (ic g.cells) none)) (c1 : sB.get b1 = some (.cells (ic g.lay) none)) (n0 : b0 ∉ F ++ G) (n1 : b1 ∉ F ++ G)
    (hkeep : ∀ st', (∀ j, j < sB.next → j ∉ F ++ G → st'.get j = sB.get j) → SlR st' 2 (.slice pa chg.length ka) chg.length (chgC chg)) (hK : ∀ st', K (.bool true) st') :
    lop 3 (fun (n56 : Value → Value → Value → Store → Prop) x57 x58 x59 s60 => vop (binI .lss x59 (.int .i64 (chg.length : Nat))) s60 fun v63 s64 => p4_8 v63 (.slice pa chg.length ka) x59 s64 (.pointer (some ⟨b0, 0, none⟩)) (.pointer (some ⟨b1, 0, none⟩)) (.pointer (some ⟨l, 0, none⟩)) K x57 x58 n56 (.pointer (some ⟨d, 0, none⟩))) (.slice none 0 0) (.slice none 0 0) (.int .i64 0) sB := by
  have hgg := hg
  unfold Geo.ok at hgg
  have e0 : rdOne (some (.cells (ic g.cells) none)) 0 = some (.int .i64 (n : Nat)) := by rw [← hn]; rfl
  have e4 : rdOne (some (.cells (ic g.lay) none)) 4 = some (.int .i64 (1 + g.log)) := rfl
  have z1 := zb_len
  have bl := @blk_len
  have hnb0 := Store.lt_of_get c0
  have hnb1 := Store.lt_of_get c1
  have hFG : ∀ j ∈ F ++ G, j < sB.next := fun j hj => by
    rcases List.mem_append.1 hj with h | h
    · exact L.lt j h
    · exact D.lt j h
  have sc0 : Sc l d g (chg.length : Nat) (F ++ G) sB ((WS.new g 1).begin (chg.length : Nat)) (.slice none 0 0) (.slice none 0 0) sB := {
    ex := ⟨F, G, L, D, A, fun j hj hx => by simp [idsV] at hx, Nat.le_refl _, fun j hj => (by
        have hj : j ∈ F ++ G := by simpa [idsV] using hj
        exact ⟨hFG j hj, .inl hj⟩), fun _ _ _ => rfl⟩
    so := SlG.nil, sd := SlG.nil, ne := fun j hj => by simp [idsV] at hj
    wg := rfl, wo := rfl, wr := rfl, wm := rfl, ord := rfl, cnt := ⟨rfl, rfl⟩ }
  refine lop3 (fun k ov dv x st => ∃ (i : Nat) (w : WS), k + i = chg.length ∧ x = .int .i64 i ∧ Sc l d g (chg.length : Nat) (F ++ G) sB w ov dv st ∧ w.grp.length ≤ i ∧ (0 < i → w.grp ≠ [])) chg.length ⟨0, _, rfl, rfl, sc0, Nat.le_refl _, fun h => by omega⟩ ?_
  rintro k ov dv x st next ⟨i, w, hi, rfl, sc, hgi, hgn⟩ hnx
  have old : ∀ {st' : Store} {Y : List Nat} {j : Nat} {o : SObj}, Upd (F ++ G) sB st' Y → sB.get j = some o → j ∉ F ++ G → st'.get j = some o := fun u hj hn => by rw [u.same _ (Store.lt_of_get hj) hn, hj]
  obtain ⟨F1, G1, L1, D1, A1, AB1, U1⟩ := sc.ex
  have c0' := old U1 c0 n0
  have c1' := old U1 c1 n1
  have ha' : SlR st 2 (.slice pa chg.length ka) chg.length (chgC chg) := hkeep st fun j hj hn => U1.same j hj hn
  by_cases h5 : (i : Int) < (chg.length : Nat)
  · have h6 : i < chg.length := by omega
    obtain ⟨p, hp⟩ : ∃ p, chg[i]? = some p := ⟨_, List.getElem?_eq_getElem h6⟩
    have hpr := hchg p (List.mem_of_getElem? hp)
    obtain ⟨a, o, q1, q2, q3, q4⟩ := chg_at ha' hp
    have hda : g.dataAt = 1 + g.log + g.nodeBlocks + g.bitsBlocks := rfl
    have hnb : g.nodeBlocks = (g.inodes + 16) / 16 := rfl
    have hbb : g.bitsBlocks = (g.blocks + 8191) / 8192 := rfl
    simp -implicitDefEqProofs (maxSteps := 2000000) (disch := first|assumption|omega|rfl|(simp only[RD];done)|(simp only[RD];omega)) only [RN,Int.reduceBEq,Int.reduceBNe,Int.reduceLT,Int.reduceLE,Int.reduceAdd,Int.reduceSub,Int.reduceMul,Nat.reduceAdd,↓bc_flatz,↓bc_flat16,↓agg_bytez, decide_eq_true h5, p4_8, q1, q3, c0', e0, c1', e4]
    simp -implicitDefEqProofs (maxSteps := 2000000) (disch := first|assumption|omega|rfl|(simp only[RD];done)|(simp only[RD];omega)) only [RN,Int.reduceBEq,Int.reduceBNe,Int.reduceLT,Int.reduceLE,Int.reduceAdd,Int.reduceSub,Int.reduceMul,Nat.reduceAdd,↓bc_flatz,↓bc_flat16,↓agg_bytez, p4_3]
    refine pick_ (by omega) (by omega) ?_
    have m1 := Int.emod_nonneg p.1 (show (n : Int) - (1 + g.log) ≠ 0 by omega)
    have m2 := Int.emod_lt_of_pos p.1 (show 0 < (n : Int) - (1 + g.log) by omega)
    obtain ⟨y, hy⟩ : ∃ y, y = 1 + g.log + p.1 % ((n : Int) - (1 + g.log)) := ⟨_, rfl⟩
    simp -implicitDefEqProofs (maxSteps := 2000000) (disch := first|assumption|omega|rfl|(simp only[RD];done)|(simp only[RD];omega)) only [RN,Int.reduceBEq,Int.reduceBNe,Int.reduceLT,Int.reduceLE,Int.reduceAdd,Int.reduceSub,Int.reduceMul,Nat.reduceAdd,↓bc_flatz,↓bc_flat16,↓agg_bytez, q1, q4, c1', e4]
    rw [← hy]
    refine block_ hpr.1 hpr.2 ?_
    try simp -implicitDefEqProofs (maxSteps := 2000000) (disch := first|assumption|omega|rfl|(simp only[RD];done)|(simp only[RD];omega)) only [RN,Int.reduceBEq,Int.reduceBNe,Int.reduceLT,Int.reduceLE,Int.reduceAdd,Int.reduceSub,Int.reduceMul,Nat.reduceAdd,↓bc_flatz,↓bc_flat16,↓agg_bytez]
    have hW := sc.ok
    have hmm : (fresh0 g).mine w.mine = true := by rw [sc.wm]; rfl
    have hC : (fresh0 g).C 2 := fresh0_C hg
    have hBlt : ∀ j ∈ idsV ov ++ idsV dv, j < st.next := fun j hj => by
      rcases List.mem_append.1 hj with h | h
      · exact sc.so.lt j h
      · exact sc.sd.lt j h
    refine lwrite_ L1 D1 A1 hC hmm (bl p.2) (x := y) fun st2 F2 L2 D2 A2 U2 => ?_
    have AB2 := AB1.upd U2 hBlt
    have UB2 := U1.trans (upd_left U2 hBlt)
    have so2 : SlG st2 1 ov (ordL w.grp).length (ic (ordL w.grp)) := sc.so.same fun j hj => Upd.get U2 AB1 hBlt j (List.mem_append_left _ hj)
    have sd2 : SlG st2 1024 dv (ordL w.grp).length (bc (dataF w.grp)) := sc.sd.same fun j hj => Upd.get U2 AB1 hBlt j (List.mem_append_right _ hj)
    have ol := ordL_len w.grp
    have e00 : (w.write y (blk p.2)).1 = 0 := by
      rw [write_want hW sc.wo, sc.wg, sc.wr, if_neg (by omega), if_neg (fun h => by
        have h2 := h.2
        rw [← sc.ord, ol] at h2
        omega)]
    obtain ⟨w1, w2⟩ := write_yes e00
    rw [e00]
    simp -implicitDefEqProofs (maxSteps := 2000000) (disch := first|assumption|omega|rfl|(simp only[RD];done)|(simp only[RD];omega)) only [RN,Int.reduceBEq,Int.reduceBNe,Int.reduceLT,Int.reduceLE,Int.reduceAdd,Int.reduceSub,Int.reduceMul,Nat.reduceAdd,↓bc_flatz,↓bc_flat16,↓agg_bytez, p4_2]
    have ha2 : SlR st2 2 (.slice pa chg.length ka) chg.length (chgC chg) := hkeep st2 fun j hj hn => UB2.same j hj hn
    obtain ⟨a', o', r1, r2, r3, r4⟩ := chg_at ha2 hp
    refine lop1 (fun k x st' => ∃ t : Nat, k + t = (ordL w.grp).length ∧ x = .int .i64 t ∧ st' = st2 ∧ ∀ j, j < t → (ordL w.grp)[j]? ≠ some y) (ordL w.grp).length ⟨0, rfl, rfl, rfl, fun j hj => by omega⟩ ?_
    rintro k' x st' next' ⟨t, ht, rfl, rfl, hnot⟩ hnx'
    have tail : ∀ {ov' dv' : Value} {st' : Store}, Sc l d g (chg.length : Nat) (F ++ G) sB (w.write y (blk p.2)).2 ov' dv' st' → next ov' dv' (.int .i64 ((i : Int) + 1)) st' := fun h => hnx _ _ _ _ (by omega) ⟨i + 1, _, by omega, by congr 1, h, by
      rw [← ordL_len, w1, ordL_put]
      unfold addL
      split
      · omega
      · rw [List.length_append]; simp; omega, fun _ e => by
        have h1 : (ordL (w.write y (blk p.2)).2.grp) = [] := by rw [e]; rfl
        rw [w1, ordL_put] at h1
        unfold addL at h1
        split at h1
        · rename_i hm; rw [h1] at hm; cases hm
        · simp at h1⟩
    by_cases h7 : (t : Int) < ((ordL w.grp).length : Nat)
    · have h8 : t < (ordL w.grp).length := by omega
      obtain ⟨z, hz⟩ : ∃ z, (ordL w.grp)[t]? = some z := ⟨_, List.getElem?_eq_getElem h8⟩
      obtain ⟨a'', o'', t1, t2, t3⟩ := slr_get so2.r hz
      by_cases hzy : z = y
      · have hb : (z != y) = false := by simp [hzy]
        have hb2 : ((t : Int) == ((ordL w.grp).length : Nat)) = false := by simp; omega
        obtain ⟨ai, st3, s1, s2, s3⟩ := Sc.again sc e00 (bl p.2) (hzy ▸ hz) L2 D2 A2 AB2 UB2 so2 sd2
        simp -implicitDefEqProofs (maxSteps := 2000000) (disch := first|assumption|omega|rfl|(simp only[RD];done)|(simp only[RD];omega)) only [RN,Int.reduceBEq,Int.reduceBNe,Int.reduceLT,Int.reduceLE,Int.reduceAdd,Int.reduceSub,Int.reduceMul,Nat.reduceAdd,↓bc_flatz,↓bc_flat16,↓agg_bytez, so2.len, decide_eq_true h7, t1, t3, hb, p4_1, hb2, r1, r4]
        refine block_ hpr.1 hpr.2 ?_
        simp -implicitDefEqProofs (maxSteps := 2000000) (disch := first|assumption|omega|rfl|(simp only[RD];done)|(simp only[RD];omega)) only [RN,Int.reduceBEq,Int.reduceBNe,Int.reduceLT,Int.reduceLE,Int.reduceAdd,Int.reduceSub,Int.reduceMul,Nat.reduceAdd,↓bc_flatz,↓bc_flat16,↓agg_bytez, s1, s2]
        exact tail s3
      · have hb : (z != y) = true := by simpa using hzy
        simp -implicitDefEqProofs (maxSteps := 2000000) (disch := first|assumption|omega|rfl|(simp only[RD];done)|(simp only[RD];omega)) only [RN,Int.reduceBEq,Int.reduceBNe,Int.reduceLT,Int.reduceLE,Int.reduceAdd,Int.reduceSub,Int.reduceMul,Nat.reduceAdd,↓bc_flatz,↓bc_flat16,↓agg_bytez, so2.len, decide_eq_true h7, t1, t3, hb]
        refine hnx' _ _ (by omega) ⟨t + 1, by omega, by congr 1, rfl, fun j hj => ?_⟩
        by_cases e : j = t
        · rw [e, hz]; intro h; exact hzy (Option.some.inj h)
        · exact hnot j (by omega)
    · have h9 : t = (ordL w.grp).length := by omega
      have hout : y ∉ ordL w.grp := fun h => by
        obtain ⟨j, hj, e⟩ := List.getElem_of_mem h
        exact hnot j (by omega) (by rw [List.getElem?_eq_getElem hj, e])
      have hb2 : ((t : Int) == ((ordL w.grp).length : Nat)) = true := by simp [h9]
      obtain ⟨s4, ov', s6, dv', ai, s7, p1, p2, p3, p4, p5, p6, p7⟩ := Sc.first sc e00 (bl p.2) hout (by omega) L2 D2 A2 AB2 UB2 so2 sd2
      rw [← h9] at p3 p4
      have ha6 : SlR s6 2 (.slice pa chg.length ka) chg.length (chgC chg) := hkeep s6 fun j hj hn => by
        rw [p6 j (Nat.lt_of_lt_of_le hj UB2.next) (fun h => by
          rcases (UB2.ids j (List.mem_append_right _ h)).2 with h | h
          · exact hn h
          · omega), UB2.same j hj hn]
      obtain ⟨a6, o6, u1, u2, u3, u4⟩ := chg_at ha6 hp
      simp -implicitDefEqProofs (maxSteps := 2000000) (disch := first|assumption|omega|rfl|(simp only[RD];done)|(simp only[RD];omega)) only [RN,Int.reduceBEq,Int.reduceBNe,Int.reduceLT,Int.reduceLE,Int.reduceAdd,Int.reduceSub,Int.reduceMul,Nat.reduceAdd,↓bc_flatz,↓bc_flat16,↓agg_bytez, so2.len, decide_eq_false h7, p4_1, hb2, p1, p2, u1, u4, z1]
      refine block_ hpr.1 hpr.2 ?_
      simp -implicitDefEqProofs (maxSteps := 2000000) (disch := first|assumption|omega|rfl|(simp only[RD];done)|(simp only[RD];omega)) only [RN,Int.reduceBEq,Int.reduceBNe,Int.reduceLT,Int.reduceLE,Int.reduceAdd,Int.reduceSub,Int.reduceMul,Nat.reduceAdd,↓bc_flatz,↓bc_flat16,↓agg_bytez, p3, p4]
      exact tail p5
  · simp -implicitDefEqProofs (maxSteps := 2000000) (disch := first|assumption|omega|rfl|(simp only[RD];done)|(simp only[RD];omega)) only [RN,Int.reduceBEq,Int.reduceBNe,Int.reduceLT,Int.reduceLE,Int.reduceAdd,Int.reduceSub,Int.reduceMul,Nat.reduceAdd,↓bc_flatz,↓bc_flat16,↓agg_bytez, decide_eq_false h5]
    have hii : i = chg.length := by omega
    refine cm_b hg sc (by omega) (hgn (by omega)) c1' (fun {F' G'} u hx => ?_) hK
    rcases (u.ids _ hx).2 with h | h
    · exact n1 h
    · omega
end Go.Proofs.YtndjgidglnofbaaRRR
