/- WalSynced: the law. -/
import Derived.Test.YtkmalbaollffiaaSyn
set_option linter.all false
set_option maxRecDepth 100000
set_option maxHeartbeats 800000
namespace Go.Proofs.Ytkmalbaollffiaa
open Go.Am
variable {σ : Store} {Q : Value → Store → Prop} {g : Geo}
theorem walsynced_ {sv yv kv kv2 : Value} {x y : Int} {ls : List Value} {steps : List (List (Int × Int))} {sy : List Int} (hsyl : sy.length < 2 ^ 63) (hby : ∀ t ∈ steps, ∀ p ∈ t, 0 ≤ p.2 ∧ p.2 < 256) (hll : ls.length = steps.length) (hcap : steps.length < 2 ^ 63) (hlc : ∀ t ∈ steps, t.length < 2 ^ 63)
    (hls : SlR σ 1 sv ls.length ls) (hsy : SlR σ 1 yv sy.length (ic sy)) (hstp : ∀ (i : Nat) v t, ls[i]? = some v → steps[i]? = some t → StpV σ v t) (hq : ∀ st, Q (.bool true) st) : Does Try.prog 5 [.agg ⟨playV g sv yv kv kv2 x y⟩] σ Q := by
  refine d5 ?_
  have bx : boxN (.agg ⟨playV g sv yv kv kv2 x y⟩) = some (.cells (playV g sv yv kv kv2 x y) none, ptrTo) := rfl
  have l9 : (ic g.lay).length = 9 := rfl
  have p9 : (playV g sv yv kv kv2 x y).length = 9 := rfl
  have u9 : (unrle [(9, .int .i64 0)]).length = 9 := rfl
  have rp : rdPart (some (.cells (playV g sv yv kv kv2 x y) none)) 0 3 = some (.agg ⟨ic g.cells⟩) := rfl
  have r0 : rdOne (some (.cells (playV g sv yv kv kv2 x y) none)) 0 = some (.int .i64 g.blocks) := rfl
  have e3 : rdOne (some (.cells (playV g sv yv kv kv2 x y) none)) 3 = some sv := rfl
  unfold p5
  obtain ⟨s1, hs1⟩ : ∃ s1, s1 = σ.push (.cells (playV g sv yv kv kv2 x y) none) := ⟨_, rfl⟩
  have k1 : Keeps σ s1 := by rw [hs1]; exact (Keeps.refl _).push _
  have c1 : s1.get σ.next = some (.cells (playV g sv yv kv kv2 x y) none) := by rw [hs1]; exact Store.get_push_same _ _
  rw [bx, nop_some, ← hs1]
  try simp -implicitDefEqProofs (maxSteps := 2000000) (disch := first|assumption|omega|rfl|(simp only[RD];done)|(simp only[RD];omega)) only [RN,Int.reduceBEq,Int.reduceBNe,Int.reduceLT,Int.reduceLE,Int.reduceAdd,Int.reduceSub,Int.reduceMul,Nat.reduceAdd,↓bc_flatz,↓bc_flat16,↓agg_bytez]
  refine lives_ fun s2 k2 => ?_
  have c2 := k2.get c1
  have k12 := k1.trans k2
  simp -implicitDefEqProofs (maxSteps := 2000000) (disch := first|assumption|omega|rfl|(simp only[RD];done)|(simp only[RD];omega)) only [RN,Int.reduceBEq,Int.reduceBNe,Int.reduceLT,Int.reduceLE,Int.reduceAdd,Int.reduceSub,Int.reduceMul,Nat.reduceAdd,↓bc_flatz,↓bc_flat16,↓agg_bytez, c2, p9]
  refine lfitsN_ hll hcap hlc (hls.keeps fun i o h => k12.get h) (fun i v t h1 h2 => (hstp i v t h1 h2).1) ?_
  by_cases hf : g.ok ∧ g.blocks ≤ 300 ∧ steps.length ≤ 40 ∧ ∀ t ∈ steps, t.length ≤ 31
  · rw [decide_eq_true hf]
    obtain ⟨hg, h3, h40, h31⟩ := hf
    have hgg := hg
    unfold Geo.ok at hgg
    have hda : g.dataAt = 1 + g.log + g.nodeBlocks + g.bitsBlocks := rfl
    have hnb : g.nodeBlocks = (g.inodes + 16) / 16 := rfl
    have hbb : g.bitsBlocks = (g.blocks + 8191) / 8192 := rfl
    have hof : g.of = g.lay := if_pos hg
    have herr : g.err = 0 := if_pos hg
    obtain ⟨bn, hbn⟩ : ∃ bn : Nat, (bn : Int) = g.blocks - (1 + g.log) := ⟨(g.blocks - (1 + g.log)).toNat, by omega⟩
    simp -implicitDefEqProofs (maxSteps := 2000000) (disch := first|assumption|omega|rfl|(simp only[RD];done)|(simp only[RD];omega)) only [RN,Int.reduceBEq,Int.reduceBNe,Int.reduceLT,Int.reduceLE,Int.reduceAdd,Int.reduceSub,Int.reduceMul,Nat.reduceAdd,↓bc_flatz,↓bc_flat16,↓agg_bytez, c2, rp]
    refine rof_ ?_
    obtain ⟨s4, hs4⟩ : ∃ s4, s4 = s2.push (.cells (ic g.lay) none) := ⟨_, rfl⟩
    have k4 : Keeps s2 s4 := by rw [hs4]; exact (Keeps.refl _).push _
    have c4 : s4.get s2.next = some (.cells (ic g.lay) none) := by rw [hs4]; exact Store.get_push_same _ _
    have c24 := k4.get c2
    simp -implicitDefEqProofs (maxSteps := 2000000) (disch := first|assumption|omega|rfl|(simp only[RD];done)|(simp only[RD];omega)) only [RN,Int.reduceBEq,Int.reduceBNe,Int.reduceLT,Int.reduceLE,Int.reduceAdd,Int.reduceSub,Int.reduceMul,Nat.reduceAdd,↓bc_flatz,↓bc_flat16,↓agg_bytez, p5_10, hof, herr, u9, l9]
    rw [← hs4]
    simp -implicitDefEqProofs (maxSteps := 2000000) (disch := first|assumption|omega|rfl|(simp only[RD];done)|(simp only[RD];omega)) only [RN,Int.reduceBEq,Int.reduceBNe,Int.reduceLT,Int.reduceLE,Int.reduceAdd,Int.reduceSub,Int.reduceMul,Nat.reduceAdd,↓bc_flatz,↓bc_flat16,↓agg_bytez, c24, r0]
    refine new_o hg.2.2.2.2.1 hg.2.2.2.2.2.1 fun s5 d G d5 u5 => ?_
    have k5 : Keeps s4 s5 := ⟨u5.next, fun j hj => u5.same j hj List.not_mem_nil⟩
    have hG : ∀ j ∈ G, s4.next ≤ j := fun j hj => by
      rcases (u5.ids j hj).2 with h | h
      · exact absurd h List.not_mem_nil
      · exact h
    simp -implicitDefEqProofs (maxSteps := 2000000) (disch := first|assumption|omega|rfl|(simp only[RD];done)|(simp only[RD];omega)) only [RN,Int.reduceBEq,Int.reduceBNe,Int.reduceLT,Int.reduceLE,Int.reduceAdd,Int.reduceSub,Int.reduceMul,Nat.reduceAdd,↓bc_flatz,↓bc_flat16,↓agg_bytez, p5_9, k5.get c4, l9]
    refine wnew_ d5 (new_C hg.2.2.2.2.1 hg.2.2.2.2.2.1) (by omega) hg (Int.le_refl _) zb_bytes (fun h => by cases h) (fun _ h => absurd ⟨dec_zb hg, decL_zb⟩ h) fun _ _ _ s6 l F L6 d6 A6 u6 => ?_
    have k6 : Keeps s4 s6 := ⟨Nat.le_trans u5.next u6.next, fun j hj => by rw [u6.same j (Nat.lt_of_lt_of_le hj u5.next) (fun h => by have := hG _ h; omega), k5.2 j hj]⟩
    have hR : Rn s4 s6 l d (WS.new g 1) (fresh0 g) 2 [] := ⟨⟨F, G, L6, d6, A6, fun j hj => by
      rcases (u6.ids j hj).2 with h | h
      · exact hG j h
      · exact Nat.le_trans u5.next h, k6, fun p hp => by cases hp⟩, fresh0_C hg, fresh0_live, rfl⟩
    simp -implicitDefEqProofs (maxSteps := 2000000) (disch := first|assumption|omega|rfl|(simp only[RD];done)|(simp only[RD];omega)) only [RN,Int.reduceBEq,Int.reduceBNe,Int.reduceLT,Int.reduceLE,Int.reduceAdd,Int.reduceSub,Int.reduceMul,Nat.reduceAdd,↓bc_flatz,↓bc_flat16,↓agg_bytez, p5_8, k6.get c4, l9, k6.get c24, p9]
    have hkk : ∀ st', Keeps s4 st' → Keeps σ st' := fun st' k => (k12.trans k4).trans k
    have hsv : ∀ st', Keeps s4 st' → SlR st' 1 sv ls.length ls ∧ SlR st' 1 yv sy.length (ic sy) ∧ ∀ (i : Nat) v t, ls[i]? = some v → steps[i]? = some t → StpV st' v t := fun st' k => ⟨hls.keeps fun i o h => (hkk st' k).get h, hsy.keeps fun i o h => (hkk st' k).get h, fun i v t hv ht => (hstp i v t hv ht).keep (hkk st' k).2 (hkk st' k).1⟩
    refine run_ (sy := sy) (steps := steps) (ls := ls) hg h3 hbn h40 h31 hby hll hsyl hR (by omega) rfl rfl rfl rfl rfl rfl rfl hsv fun st7 w7 s7 sid oid iid og c T least cs R wg7 wo7 wc7 hT7 hz7 hwt7 => ?_
    have u4 : unrle [(1, Value.slice none 0 0), (2, .int .i64 0), (1, .bool false)] = [.slice none 0 0, .int .i64 0, .int .i64 0, .bool false] := rfl
    obtain ⟨tv, htv⟩ : ∃ tv : Value, tv = .slice (some ⟨oid, 0, og⟩) (steps.length + 1) (steps.length + 1) := ⟨_, rfl⟩
    rw [← htv]
    have lC : (scC tv least ((steps.length : Nat) : Int)).length = 4 := rfl
    have g4 : ([.slice none 0 0, .int .i64 0, .int .i64 0, .bool false] : List Value).length = 4 := rfl
    have hR8 := R.r.push (.cells (scC tv least ((steps.length : Nat) : Int)) none)
    obtain ⟨s8, hs8⟩ : ∃ s8, s8 = st7.push (.cells (scC tv least ((steps.length : Nat) : Int)) none) := ⟨_, rfl⟩
    rw [← hs8] at hR8
    have c8 := hR8.get (List.mem_cons_self ..)
    have hls8 := (hsv s8 hR8.keeps).1
    have c28 := hR8.keeps.get c24
    have en : (((steps.length : Nat) : Int) != (ls.length : Nat)) = false := by rw [hll]; simp
    simp -implicitDefEqProofs (maxSteps := 2000000) (disch := first|assumption|omega|rfl|(simp only[RD];done)|(simp only[RD];omega)) only [RN,Int.reduceBEq,Int.reduceBNe,Int.reduceLT,Int.reduceLE,Int.reduceAdd,Int.reduceSub,Int.reduceMul,Nat.reduceAdd,↓bc_flatz,↓bc_flat16,↓agg_bytez, u4, lC, g4]
    rw [← hs8]
    have gi := R.gi
    rw [← htv] at gi
    have l2 := R.l2
    have hTl := hT7.1
    have e4L : rdOne (some (.cells (ic g.lay) none)) 4 = some (.int .i64 (1 + g.log)) := rfl
    have z1 := zb_len
    have lf : lenSl (.slice (some ⟨iid, 0, some 1024⟩) bn bn) = some (.int .i64 (bn : Nat)) := rfl
    simp -implicitDefEqProofs (maxSteps := 2000000) (disch := first|assumption|omega|rfl|(simp only[RD];done)|(simp only[RD];omega)) only [RN,Int.reduceBEq,Int.reduceBNe,Int.reduceLT,Int.reduceLE,Int.reduceAdd,Int.reduceSub,Int.reduceMul,Nat.reduceAdd,↓bc_flatz,↓bc_flat16,↓agg_bytez, sc3, c8, sc2, c28, e3, hls8.len, en, p5_7]
    have hR8' : Rn s4 s8 l d w7 { s7 with reads := s7.reads } 100000 ((st7.next, .cells (scC tv least ((steps.length : Nat) : Int)) none) :: (sid, .cells (scC (.slice (some ⟨oid, 0, og⟩) (steps.length + 1) (steps.length + 1)) least ((steps.length : Nat) : Int)) none) :: (oid, .cells c og) :: (iid, .cells (bc T) (some 1024)) :: cs) := hR8
    refine lop1 (fun k xx st' => ∃ (i : Nat) (r : Int), k + i = bn ∧ xx = .int .i64 i ∧ Rn s4 st' l d w7 { s7 with reads := r } (100000 + i) ((st7.next, .cells (scC tv least ((steps.length : Nat) : Int)) none) :: (sid, .cells (scC (.slice (some ⟨oid, 0, og⟩) (steps.length + 1) (steps.length + 1)) least ((steps.length : Nat) : Int)) none) :: (oid, .cells c og) :: (iid, .cells (bc T) (some 1024)) :: cs)) bn ⟨0, s7.reads, rfl, rfl, hR8'⟩ ?_
    rintro k xx st9 next ⟨i, r, hi, rfl, hR9⟩ hnx
    have d8 := hR9.get (List.mem_cons_self ..)
    have dO : st9.get oid = some (.cells c og) := hR9.get (by simp)
    have dI : st9.get iid = some (.cells (bc T) (some 1024)) := hR9.get (by simp)
    have dL := (k4.trans (Keeps.refl s4)).1
    have c49 := hR9.keeps.get c4
    by_cases h5 : (i : Int) < (bn : Nat)
    · have h6 : i < bn := by omega
      simp -implicitDefEqProofs (maxSteps := 2000000) (disch := first|assumption|omega|rfl|(simp only[RD];done)|(simp only[RD];omega)) only [RN,Int.reduceBEq,Int.reduceBNe,Int.reduceLT,Int.reduceLE,Int.reduceAdd,Int.reduceSub,Int.reduceMul,Nat.reduceAdd,↓bc_flatz,↓bc_flat16,↓agg_bytez, d8, sc0, sc2, gi, dO, l2, lf, decide_eq_true h5, p5_6, c49, e4L]
      refine rn_lread hR9 (by omega) (x := 1 + g.log + (i : Nat)) (by rw [wg7]; omega) fun st10 r' hR10 => ?_
      have ea : w7.at { s7 with reads := r } (1 + g.log + (i : Nat)) = (T.drop (i * 1024)).take 1024 := by
        rw [hT7.2 i h6, wg7]; rfl
      rw [ea]
      obtain ⟨A, hA⟩ : ∃ A, A = (T.drop (i * 1024)).take 1024 := ⟨_, rfl⟩
      have la : A.length = 1024 := by rw [hA, List.length_take, List.length_drop]; omega
      have ra : rdPart (some (.cells (bc T) (some 1024))) (i * 1024) 1024 = some (.agg ⟨bc A⟩) := by rw [rdPart_bc (by omega), hA]
      rw [← hA]
      have eq1 := eqA_bc (n := 1024) true la la
      rw [decide_eq_true rfl] at eq1
      obtain ⟨s11, hs11⟩ : ∃ s11, s11 = st10.push (.cells (bc A) none) := ⟨_, rfl⟩
      have hR11 := hR10.push (.cells (bc A) none)
      rw [← hs11] at hR11
      have cA := hR11.get (List.mem_cons_self ..)
      have x8 : s11.get st7.next = some (.cells (scC tv least ((steps.length : Nat) : Int)) none) := hR11.get (by simp)
      have xO : s11.get oid = some (.cells c og) := hR11.get (by simp)
      have xI : s11.get iid = some (.cells (bc T) (some 1024)) := hR11.get (by simp)
      simp -implicitDefEqProofs (maxSteps := 2000000) (disch := first|assumption|omega|rfl|(simp only[RD];done)|(simp only[RD];omega)) only [RN,Int.reduceBEq,Int.reduceBNe,Int.reduceLT,Int.reduceLE,Int.reduceAdd,Int.reduceSub,Int.reduceMul,Nat.reduceAdd,↓bc_flatz,↓bc_flat16,↓agg_bytez, la, z1]
      rw [← hs11]
      simp -implicitDefEqProofs (maxSteps := 2000000) (disch := first|assumption|omega|rfl|(simp only[RD];done)|(simp only[RD];omega)) only [RN,Int.reduceBEq,Int.reduceBNe,Int.reduceLT,Int.reduceLE,Int.reduceAdd,Int.reduceSub,Int.reduceMul,Nat.reduceAdd,↓bc_flatz,↓bc_flat16,↓agg_bytez, cA, la, p5_1, x8, sc0, sc2, gi, xO, l2, Int.toNat_natCast, xI, ra, eq1]
      exact hnx _ _ (by omega) ⟨i + 1, r', by omega, by congr 1, hR11.less fun p hp => List.mem_cons_of_mem _ hp⟩
    · simp -implicitDefEqProofs (maxSteps := 2000000) (disch := first|assumption|omega|rfl|(simp only[RD];done)|(simp only[RD];omega)) only [RN,Int.reduceBEq,Int.reduceBNe,Int.reduceLT,Int.reduceLE,Int.reduceAdd,Int.reduceSub,Int.reduceMul,Nat.reduceAdd,↓bc_flatz,↓bc_flat16,↓agg_bytez, d8, sc0, sc2, gi, dO, l2, lf, decide_eq_false h5, p5_6]
      refine rn_sync hR9 (by omega) wo7 (by omega) fun st10 w10 s10 hR10 o10 gr10 af _ => ?_
      have hT10 := (hT7.same (w' := w7) (s' := { s7 with reads := r }) rfl fun _ _ => rfl).same af.g af.at_
      have hz10 : s10.at 1 = zb := by
        rcases af.head with h | h
        · rw [h]; exact hz7
        · exact h
      have hw10 : s10.wait = [] := by
        rcases af.wait with h | h
        · rw [h]; exact hwt7
        · exact h
      have wg10 : w10.g = g := by rw [af.g]; exact wg7
      have wc10 := af.commits
      simp -implicitDefEqProofs (maxSteps := 2000000) (disch := first|assumption|omega|rfl|(simp only[RD];done)|(simp only[RD];omega)) only [RN,Int.reduceBEq,Int.reduceBNe,Int.reduceLT,Int.reduceLE,Int.reduceAdd,Int.reduceSub,Int.reduceMul,Nat.reduceAdd,↓bc_flatz,↓bc_flat16,↓agg_bytez, p5_5]
      refine rn_made hR10 ?_
      try simp -implicitDefEqProofs (maxSteps := 2000000) (disch := first|assumption|omega|rfl|(simp only[RD];done)|(simp only[RD];omega)) only [RN,Int.reduceBEq,Int.reduceBNe,Int.reduceLT,Int.reduceLE,Int.reduceAdd,Int.reduceSub,Int.reduceMul,Nat.reduceAdd,↓bc_flatz,↓bc_flat16,↓agg_bytez]
      refine rn_sync hR10 (by omega) o10 (by omega) fun st11 w11 s11 hR11 _ _ _ esame => ?_
      obtain ⟨rfl, rfl, rfl⟩ := esame gr10
      try simp -implicitDefEqProofs (maxSteps := 2000000) (disch := first|assumption|omega|rfl|(simp only[RD];done)|(simp only[RD];omega)) only [RN,Int.reduceBEq,Int.reduceBNe,Int.reduceLT,Int.reduceLE,Int.reduceAdd,Int.reduceSub,Int.reduceMul,Nat.reduceAdd,↓bc_flatz,↓bc_flat16,↓agg_bytez]
      refine rn_made hR10 ?_
      have em : (s11.made != s11.made) = false := by simp
      have em2 : (s11.made == s11.made) = true := by simp
      simp -implicitDefEqProofs (maxSteps := 2000000) (disch := first|assumption|omega|rfl|(simp only[RD];done)|(simp only[RD];omega)) only [RN,Int.reduceBEq,Int.reduceBNe,Int.reduceLT,Int.reduceLE,Int.reduceAdd,Int.reduceSub,Int.reduceMul,Nat.reduceAdd,↓bc_flatz,↓bc_flat16,↓agg_bytez, em]
      refine rn_pending0 hR10 hw10 ?_
      have ln : lenSl (.slice none 0 0) = some (.int .i64 0) := rfl
      have c4b := hR10.keeps.get c4
      simp -implicitDefEqProofs (maxSteps := 2000000) (disch := first|assumption|omega|rfl|(simp only[RD];done)|(simp only[RD];omega)) only [RN,Int.reduceBEq,Int.reduceBNe,Int.reduceLT,Int.reduceLE,Int.reduceAdd,Int.reduceSub,Int.reduceMul,Nat.reduceAdd,↓bc_flatz,↓bc_flat16,↓agg_bytez, ln, p5_4, c4b, l9]
      refine rn_recover0 hR10 (by omega) hg wg10 hz10 fun st12 hR12 => ?_
      have c12 := hR12.get (List.mem_cons_self ..)
      have hne : ∀ p ∈ (sid, SObj.cells (scC (.slice (some ⟨oid, 0, og⟩) (steps.length + 1) (steps.length + 1)) least ((steps.length : Nat) : Int)) none) :: (oid, SObj.cells c og) :: (iid, SObj.cells (bc T) (some 1024)) :: cs, p.1 ≠ st7.next := fun p hp => Nat.ne_of_lt (Store.lt_of_get (R.r.get (j := p.1) (o := p.2) hp))
      have hR13 := hR12.set (scC tv ((steps.length : Nat) : Int) ((steps.length : Nat) : Int)) R.r.keeps.1 hne
      obtain ⟨s13, hs13⟩ : ∃ s13, s13 = st12.put st7.next (some (.cells (scC tv ((steps.length : Nat) : Int) ((steps.length : Nat) : Int)) none)) := ⟨_, rfl⟩
      rw [← hs13] at hR13
      have c13 := hR13.get (List.mem_cons_self ..)
      have rC : rdPart (some (.cells (scC tv ((steps.length : Nat) : Int) ((steps.length : Nat) : Int)) none)) 0 4 = some (.agg ⟨scC tv ((steps.length : Nat) : Int) ((steps.length : Nat) : Int)⟩) := rfl
      have c4c := hR13.keeps.get c4
      simp -implicitDefEqProofs (maxSteps := 2000000) (disch := first|assumption|omega|rfl|(simp only[RD];done)|(simp only[RD];omega)) only [RN,Int.reduceBEq,Int.reduceBNe,Int.reduceLT,Int.reduceLE,Int.reduceAdd,Int.reduceSub,Int.reduceMul,Nat.reduceAdd,↓bc_flatz,↓bc_flat16,↓agg_bytez, c12, sc2, wS1]
      have eset : (scC tv least ((steps.length : Nat) : Int)).set 1 (.int .i64 ((steps.length : Nat) : Int)) = scC tv ((steps.length : Nat) : Int) ((steps.length : Nat) : Int) := rfl
      first | rw [← hs13] | rw [eset, ← hs13]
      simp -implicitDefEqProofs (maxSteps := 2000000) (disch := first|assumption|omega|rfl|(simp only[RD];done)|(simp only[RD];omega)) only [RN,Int.reduceBEq,Int.reduceBNe,Int.reduceLT,Int.reduceLE,Int.reduceAdd,Int.reduceSub,Int.reduceMul,Nat.reduceAdd,↓bc_flatz,↓bc_flat16,↓agg_bytez, p5_3]
      refine rn_made hR13 ?_
      have em3 : s11.readed.made = s11.made := rfl
      rw [em3]
      simp -implicitDefEqProofs (maxSteps := 2000000) (disch := first|assumption|omega|rfl|(simp only[RD];done)|(simp only[RD];omega)) only [RN,Int.reduceBEq,Int.reduceBNe,Int.reduceLT,Int.reduceLE,Int.reduceAdd,Int.reduceSub,Int.reduceMul,Nat.reduceAdd,↓bc_flatz,↓bc_flat16,↓agg_bytez, em2, c4c, l9, c13, rC]
      have hRm : Rm s4 s13 l d w11 s11.readed (100000 + i + 600 + 1) sid oid iid og c T bn steps.length least [] :=
        ⟨hR13.less (fun p hp => by
          simp only [List.mem_cons, List.not_mem_nil, or_false] at hp ⊢
          rcases hp with h | h | h
          · exact .inr (.inl h)
          · exact .inr (.inr (.inl h))
          · exact .inr (.inr (.inr (.inl h)))), R.s1, R.o1, fun p hp => R.s2 p (by
          simp only [List.mem_cons, List.not_mem_nil, or_false] at hp ⊢
          rcases hp with h | h
          · exact .inl h
          · exact .inr (.inl h)), fun p hp => R.o2 p (by
          simp only [List.mem_cons, List.not_mem_nil, or_false] at hp ⊢
          exact .inl hp), R.l1, R.l2, R.og⟩
      rw [htv]
      refine found_ hRm hg wg10 (by omega) h3 hbn gr10 (hT10.same rfl fun _ _ => rfl) fun st14 r14 hR14 => ?_
      simp -implicitDefEqProofs (maxSteps := 2000000) (disch := first|assumption|omega|rfl|(simp only[RD];done)|(simp only[RD];omega)) only [RN,Int.reduceBEq,Int.reduceBNe,Int.reduceLT,Int.reduceLE,Int.reduceAdd,Int.reduceSub,Int.reduceMul,Nat.reduceAdd,↓bc_flatz,↓bc_flat16,↓agg_bytez, p5_2]
      refine rn_close hR14 (by omega) o10 gr10 (by omega) fun st15 G15 D15 C15 N15 => ?_
      try simp -implicitDefEqProofs (maxSteps := 2000000) (disch := first|assumption|omega|rfl|(simp only[RD];done)|(simp only[RD];omega)) only [RN,Int.reduceBEq,Int.reduceBNe,Int.reduceLT,Int.reduceLE,Int.reduceAdd,Int.reduceSub,Int.reduceMul,Nat.reduceAdd,↓bc_flatz,↓bc_flat16,↓agg_bytez]
      refine nl_check N15 ?_
      try simp -implicitDefEqProofs (maxSteps := 2000000) (disch := first|assumption|omega|rfl|(simp only[RD];done)|(simp only[RD];omega)) only [RN,Int.reduceBEq,Int.reduceBNe,Int.reduceLT,Int.reduceLE,Int.reduceAdd,Int.reduceSub,Int.reduceMul,Nat.reduceAdd,↓bc_flatz,↓bc_flat16,↓agg_bytez]
      refine made_o D15 C15 ?_
      have em4 : (({ s11.readed with reads := r14 } : DS).made == s11.made) = true := em2
      simp -implicitDefEqProofs (maxSteps := 2000000) (disch := first|assumption|omega|rfl|(simp only[RD];done)|(simp only[RD];omega)) only [RN,Int.reduceBEq,Int.reduceBNe,Int.reduceLT,Int.reduceLE,Int.reduceAdd,Int.reduceSub,Int.reduceMul,Nat.reduceAdd,↓bc_flatz,↓bc_flat16,↓agg_bytez, em4]
      exact hq _
  · rw [decide_eq_false hf]
    simp -implicitDefEqProofs (maxSteps := 2000000) (disch := first|assumption|omega|rfl|(simp only[RD];done)|(simp only[RD];omega)) only [RN,Int.reduceBEq,Int.reduceBNe,Int.reduceLT,Int.reduceLE,Int.reduceAdd,Int.reduceSub,Int.reduceMul,Nat.reduceAdd,↓bc_flatz,↓bc_flat16,↓agg_bytez]
    exact hq _
end Go.Proofs.Ytkmalbaollffiaa
