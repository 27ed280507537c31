/- Chapter 08: run: a step's changes; a step's end. -/
import Derived.Test.YtkmalbaollffiaaRun8
set_option linter.all false
set_option maxRecDepth 100000
set_option maxHeartbeats 1600000
namespace Go.Proofs.Ytkmalbaollffiaa
open Go.Am
variable {σ st st' : Store} {l d : Nat} {w : WS} {s : DS} {m bn : Nat} {Q : Value → Store → Prop} {g : Geo} {T : List Int}
variable {sid oid iid i : Nat} {og : Option Nat} {c : List Value} {least : Int} {cs : List (Nat × SObj)} {v0 v2 v4 fid : Nat} {sv yv kv kv2 : Value} {x y : Int} {ls : List Value} {t : List (Int × Int)} {v : Value} {K : Value → Store → Prop} {k37 : Store → Prop}
/-- The changes of a step. -/
theorem steps_in (hg : g.ok) (h3 : g.blocks ≤ 300) (hbn : (bn : Int) = g.blocks - (1 + g.log)) (h : Rm σ st l d w s m sid oid iid og c T bn i least cs) (wg : w.g = g) (wo : w.opn = true) (hw0 : w.wrote = []) (hroom : (t.length : Int) ≤ w.room) (ht31 : t.length ≤ 31) (ht : ∀ p ∈ t, 0 ≤ p.2 ∧ p.2 < 256)
    (h0 : (v0, SObj.cells (ic g.lay) none) ∈ cs) (h2 : (v2, SObj.cells (playV g sv yv kv kv2 x y) none) ∈ cs) (hsv : ∀ st', Keeps σ st' → SlR st' 1 sv ls.length ls ∧ StpV st' v t) (hi : ls[i]? = some v) (hT : TW bn T w s)
    (hend : ∀ st' w', Rm σ st' l d w' s m sid oid iid og c T bn i least cs → w'.g = g → w'.opn = true → w'.commits = w.commits → w'.steps = w.steps → TW bn (stepB bn T t) w' s → p25_6 (.bool true) st' K (.pointer (some ⟨l, 0, none⟩)) (.pointer (some ⟨sid, 0, none⟩)) (.int .i64 (i : Nat)) (.pointer (some ⟨v2, 0, none⟩)) (.pointer (some ⟨v4, 0, none⟩)) k37) :
    lop 1 (fun (n89 : Value → Store → Prop) x90 s91 =>
      vop (faddr 3 (.pointer (some ⟨v2, 0, none⟩))) s91 fun v92 s93 =>
      vop (loadV false 1 v92 s93.get) s93 fun v94 s95 =>
      vop (iaddrS 1 v94 (.int .i64 (i : Nat))) s95 fun v96 s97 =>
      vop (loadV false 1 v96 s97.get) s97 fun v98 s99 =>
      vop (lenSl v98) s99 fun v100 s101 =>
      vop (binI .lss x90 v100) s101 fun v102 s103 =>
      p25_7 v102 (.pointer (some ⟨sid, 0, none⟩)) s103 K (.pointer (some ⟨v2, 0, none⟩)) (.int .i64 (i : Nat)) x90 (.slice (some ⟨fid, 0, some 1024⟩) bn bn) (.pointer (some ⟨l, 0, none⟩)) (.pointer (some ⟨v0, 0, none⟩)) n89 (.pointer (some ⟨v4, 0, none⟩)) k37) (.int .i64 0) st := by
  have hgg := hg
  unfold Geo.ok at hgg
  have hda : g.dataAt = 1 + g.log + g.nodeBlocks + g.bitsBlocks := rfl
  have hnb : g.nodeBlocks = (g.inodes + 16) / 16 := rfl
  have hbb : g.bitsBlocks = (g.blocks + 8191) / 8192 := rfl
  have e3 : rdOne (some (.cells (playV g sv yv kv kv2 x y) none)) 3 = some sv := rfl
  have e4 : rdOne (some (.cells (ic g.lay) none)) 4 = some (.int .i64 (1 + g.log)) := rfl
  have lf : lenSl (.slice (some ⟨fid, 0, some 1024⟩) bn bn) = some (.int .i64 (bn : Nat)) := rfl
  have hi' : i < ls.length := (List.getElem?_eq_some_iff.1 hi).1
  refine lop1 (fun k xx st' => ∃ (j : Nat) (w' : WS), k + j = t.length ∧ xx = .int .i64 j ∧ Rm σ st' l d w' s m sid oid iid og c T bn i least cs ∧ w'.g = g ∧ w'.opn = true ∧ w'.room = w.room ∧ w'.wrote.length ≤ j ∧ w'.commits = w.commits ∧ w'.steps = w.steps ∧ TW bn (stepB bn T (t.take j)) w' s) t.length ⟨0, w, rfl, rfl, h, wg, wo, rfl, by rw [hw0]; exact Nat.le_refl _, rfl, rfl, hT⟩ ?_
  rintro k xx st1 next ⟨j, w', hj, rfl, hR, wg', wo', wr', wl', wc', ws', hT'⟩ hnx
  have c0 := hR.cc h0
  have c2 := hR.cc h2
  obtain ⟨hls, hstp⟩ := hsv st1 hR.r.keeps
  obtain ⟨a, oo, q1, q2, q3, q4⟩ := hls.at (by decide) hi'
  rw [Nat.mul_one, hi] at q4
  have q1' := q1 .i64
  have cS := hR.cS
  by_cases h5 : (j : Int) < (t.length : Nat)
  · have h6 : j < t.length := by omega
    obtain ⟨p, hp⟩ : ∃ p, t[j]? = some p := ⟨_, List.getElem?_eq_getElem h6⟩
    have hpr := ht p (List.mem_of_getElem? hp)
    obtain ⟨a', o', r1, r2, r3, r4⟩ := hstp.2 j p hp
    simp -implicitDefEqProofs (maxSteps := 2000000) (disch := first|assumption|omega|rfl|(simp only[RD];done)|(simp only[RD];omega)) only [RN,Int.reduceBEq,Int.reduceBNe,Int.reduceLT,Int.reduceLE,Int.reduceAdd,Int.reduceSub,Int.reduceMul,Nat.reduceAdd,↓bc_flatz,↓bc_flat16,↓agg_bytez, c2, e3, q1', q4, hstp.1, decide_eq_true h5, p25_7, cS, sc3, r1]
    simp -implicitDefEqProofs (maxSteps := 2000000) (disch := first|assumption|omega|rfl|(simp only[RD];done)|(simp only[RD];omega)) only [RN,Int.reduceBEq,Int.reduceBNe,Int.reduceLT,Int.reduceLE,Int.reduceAdd,Int.reduceSub,Int.reduceMul,Nat.reduceAdd,↓bc_flatz,↓bc_flat16,↓agg_bytez, p25_2, r3, lf]
    refine pick_ (by omega) (by omega) ?_
    have m1 := Int.emod_nonneg p.1 (show ((bn : Nat) : Int) ≠ 0 by omega)
    have m2 := Int.emod_lt_of_pos p.1 (show (0 : Int) < (bn : Nat) by omega)
    obtain ⟨z, hz⟩ : ∃ z : Nat, p.1 % ((bn : Nat) : Int) = (z : Nat) := ⟨(p.1 % ((bn : Nat) : Int)).toNat, by omega⟩
    rw [hz]
    simp -implicitDefEqProofs (maxSteps := 2000000) (disch := first|assumption|omega|rfl|(simp only[RD];done)|(simp only[RD];omega)) only [RN,Int.reduceBEq,Int.reduceBNe,Int.reduceLT,Int.reduceLE,Int.reduceAdd,Int.reduceSub,Int.reduceMul,Nat.reduceAdd,↓bc_flatz,↓bc_flat16,↓agg_bytez, c2, e3, q1', q4, r1, p25_1, r4]
    refine block_ hpr.1 hpr.2 ?_
    simp -implicitDefEqProofs (maxSteps := 2000000) (disch := first|assumption|omega|rfl|(simp only[RD];done)|(simp only[RD];omega)) only [RN,Int.reduceBEq,Int.reduceBNe,Int.reduceLT,Int.reduceLE,Int.reduceAdd,Int.reduceSub,Int.reduceMul,Nat.reduceAdd,↓bc_flatz,↓bc_flat16,↓agg_bytez, c0, e4]
    refine rn_write hR.r (blk_len p.2) (x := 1 + g.log + (z : Nat)) fun st2 hR2 => ?_
    have hW := hR.r.ok
    have e00 : (w'.write (1 + g.log + (z : Nat)) (blk p.2)).1 = 0 := by
      rw [write_want hW wo', wg', wr', if_neg (by omega), if_neg (fun h => by have := h.2; omega)]
    rw [e00]
    obtain ⟨f1, f2, f3, f4, f5, f6⟩ := write_keeps w' (1 + g.log + (z : Nat)) (blk p.2)
    obtain ⟨w1, w2⟩ := write_yes e00
    have hR3 := hR.next hR2
    have s3 := st3 hR3.cS
    simp -implicitDefEqProofs (maxSteps := 2000000) (disch := first|assumption|omega|rfl|(simp only[RD];done)|(simp only[RD];omega)) only [RN,Int.reduceBEq,Int.reduceBNe,Int.reduceLT,Int.reduceLE,Int.reduceAdd,Int.reduceSub,Int.reduceMul,Nat.reduceAdd,↓bc_flatz,↓bc_flat16,↓agg_bytez, s3]
    have wl2 : (w'.write (1 + g.log + (z : Nat)) (blk p.2)).2.wrote.length ≤ j + 1 := by
      rw [w2]; unfold addL; split
      · omega
      · rw [List.length_append]; simp; omega
    have hTn : TW bn (stepB bn T (t.take (j + 1))) (w'.write (1 + g.log + (z : Nat)) (blk p.2)).2 s := by
      rw [stepB_take T hp]
      unfold chB
      rw [hz, Int.toNat_natCast]
      have := hT'.write (x := z) (b := blk p.2) hW (by omega) (blk_len p.2) (by rw [wg']; exact e00)
      rw [wg'] at this
      exact this
    exact hnx _ _ (by omega) ⟨j + 1, _, by omega, by congr 1, hR3.set least, by rw [f1, wg'], by rw [f3, wo'], by rw [f4, wr'], wl2, by rw [f5, wc'], by rw [f6, ws'], hTn⟩
  · have h6 : j = t.length := by omega
    simp -implicitDefEqProofs (maxSteps := 2000000) (disch := first|assumption|omega|rfl|(simp only[RD];done)|(simp only[RD];omega)) only [RN,Int.reduceBEq,Int.reduceBNe,Int.reduceLT,Int.reduceLE,Int.reduceAdd,Int.reduceSub,Int.reduceMul,Nat.reduceAdd,↓bc_flatz,↓bc_flat16,↓agg_bytez, c2, e3, q1', q4, hstp.1, decide_eq_false h5, p25_7, cS, sc3]
    rw [h6, List.take_length] at hT'
    exact hend st1 w' hR wg' wo' wc' ws' hT'
end Go.Proofs.Ytkmalbaollffiaa
