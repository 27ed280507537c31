/- Chapter 04: DiskLeft, walked. -/
import Derived.Test.YtelnpbgkgcollaaLft
set_option linter.all false
set_option maxRecDepth 100000
set_option maxHeartbeats 1600000
namespace Go.Proofs.Ytelnpbgkgcollaa
open Go.Am
variable {σ st st' : Store} {d bn hid m n i : Nat} {s s' : DS} {v sv kv pv : Value} {w : List (Int × List Int)} {B B' p : List Int} {us : List Value} {Q : Value → Store → Prop}
theorem stop_bar (h : ¬ (s.dead = false ∧ s.fuse ≠ 0)) : ∃ s', s.barrier = (3, s') ∧ s'.held = s.held ∧ s'.wait = s.wait ∧ s'.n = s.n ∧ s'.dead = true := by
  unfold DS.barrier
  cases hd : s.dead with
  | true => exact ⟨s, by simp, rfl, rfl, rfl, hd⟩
  | false =>
    have hf : s.fuse = 0 := by
      by_cases hz : s.fuse = 0
      · exact hz
      · exact absurd ⟨hd, hz⟩ h
    have e := burnt_same s
    refine ⟨s.burnt, by rw [if_neg (by decide), if_pos hf], e.2.1, e.2.2.1, e.1, ?_⟩
    unfold DS.burnt; rw [if_pos hf]
theorem stop_write {x : Int} {b : List Int} (h : ¬ (s.dead = false ∧ s.fuse ≠ 0)) (hx : 0 ≤ x ∧ x < s.n) : ∃ s', s.write x b = (3, s') ∧ s'.held = s.held ∧ s'.wait = s.wait ∧ s'.n = s.n ∧ s'.dead = true := by
  unfold DS.write
  cases hd : s.dead with
  | true => exact ⟨s, by simp, rfl, rfl, rfl, hd⟩
  | false =>
    have hf : s.fuse = 0 := by
      by_cases hz : s.fuse = 0
      · exact hz
      · exact absurd ⟨hd, hz⟩ h
    have e := burnt_same s
    refine ⟨s.burnt, by rw [if_neg (by decide), if_neg (by omega), if_pos hf], e.2.1, e.2.2.1, e.1, ?_⟩
    unfold DS.burnt; rw [if_pos hf]
theorem burnt_go (h : s.dead = false ∧ s.fuse ≠ 0) : s.burnt.dead = false ∧ s.burnt.fuse = (if 0 < s.fuse then s.fuse - 1 else s.fuse) ∧ s.burnt.made = s.made + 1 := by
  unfold DS.burnt
  rw [if_neg h.2]
  exact ⟨h.1, rfl, rfl⟩
theorem go_bar (h : s.dead = false ∧ s.fuse ≠ 0) : s.barrier = (0, { s.burnt with held := barHeld s.held s.wait, wait := [], hist := s.hist ++ [(2, 0, zb)] }) := by
  unfold DS.barrier
  rw [h.1, if_neg (by decide), if_neg h.2]
theorem go_write {x : Int} {b : List Int} (h : s.dead = false ∧ s.fuse ≠ 0) (hx : 0 ≤ x ∧ x < s.n) : s.write x b = (0, { s.burnt with wait := s.wait ++ [(x, b)], hist := s.hist ++ [(1, x, b)] }) := by
  unfold DS.write
  rw [h.1, if_neg (by decide), if_neg (by omega), if_neg h.2]
/-- A put. -/
theorem left_op {K : Value → Store → Prop} {k51 : Value → Value → Store → Prop} {at_ : Int} {goes : Bool} (h : LW σ d hid st s v s.wait B) (hd : Hd B bn s.held) (hC : s.C m) (hm : m + 1 < 2 ^ 29) (hW : s.W) (hn : s.n = (bn : Nat)) (hbn : 0 < bn)
    (hs : ∀ st, Keeps σ st → SlR st 2 sv n us) (hi : i < n) (he : (us.drop (i * 2)).take 2 = [.int .i64 at_, pv]) (hp : ∀ st, Keeps σ st → ElV st pv (bc p)) (hg : goes = true ↔ (s.dead = false ∧ s.fuse ≠ 0))
    (hk : ∀ st' s' v' B', LW σ d hid st' s' v' s'.wait B' → Hd B' bn s'.held → s'.C (m + 1) → s'.W → s'.n = (bn : Nat) → s'.dead = !goes → (goes = true → s'.fuse = if 0 < s.fuse then s.fuse - 1 else s.fuse) → k51 (.bool (!goes)) v' st') :
    p4_4 sv (.int .i64 (i : Nat)) st (.pointer (some ⟨d, 0, none⟩)) (.int .i64 (at_ % (bn : Nat))) (.bool goes) K v (.slice (some ⟨hid, 0, none⟩) bn bn) k51 := by
  obtain ⟨a, o, q1, q2, q3⟩ := two_at (hs st h.b.keeps) hi he
  have m1 := Int.emod_nonneg at_ (show ((bn : Nat) : Int) ≠ 0 by omega)
  have m2 := Int.emod_lt_of_pos at_ (show (0 : Int) < (bn : Nat) by omega)
  have hww : ∀ p ∈ s.wait, (0 ≤ p.1 ∧ p.1 < (bn : Int)) ∧ p.2.length = 1024 := fun p hp => ⟨by have := hW.wait p hp; rw [hn] at this; exact this, hC.ok.wait p hp⟩
  by_cases ha : at_ < 0
  · simp -implicitDefEqProofs (maxSteps := 2000000) (disch := first|assumption|omega|rfl|(simp only[RD];done)|(simp only[RD];omega)) only [RN,Int.reduceBEq,Int.reduceBNe,Int.reduceLT,Int.reduceLE,Int.reduceAdd,Int.reduceSub,Int.reduceMul,Nat.reduceAdd,↓bc_flatz,↓bc_flat16,↓agg_bytez, p4_4, q1, q2, decide_eq_true ha]
    refine bbar_ h.b hC (by omega) fun st2 b2 => ?_
    have C2 := barrier_C hC
    have W2 := barrier_W hW
    cases goes with
    | false =>
      obtain ⟨s', e, e1, e2, e3, e4⟩ := stop_bar (s := s) (fun hh => by have := hg.2 hh; cases this)
      rw [e] at b2 C2 W2 ⊢
      simp -implicitDefEqProofs (maxSteps := 2000000) (disch := first|assumption|omega|rfl|(simp only[RD];done)|(simp only[RD];omega)) only [RN,Int.reduceBEq,Int.reduceBNe,Int.reduceLT,Int.reduceLE,Int.reduceAdd,Int.reduceSub,Int.reduceMul,Nat.reduceAdd,↓bc_flatz,↓bc_flat16,↓agg_bytez, p4_3, p4_2]
      have h2 := h.op b2
      refine hk st2 s' v B (by rw [e2]; exact h2) (by rw [e1]; exact hd) C2 W2 (by rw [e3]; exact hn) e4 fun hh => by cases hh
    | true =>
      have hgo := hg.1 rfl
      have e := go_bar hgo
      rw [e] at b2 C2 W2 ⊢
      have h2 := h.op b2
      obtain ⟨a', o', r1, r2, r3⟩ := two_at (hs st2 h2.b.keeps) hi he
      simp -implicitDefEqProofs (maxSteps := 2000000) (disch := first|assumption|omega|rfl|(simp only[RD];done)|(simp only[RD];omega)) only [RN,Int.reduceBEq,Int.reduceBNe,Int.reduceLT,Int.reduceLE,Int.reduceAdd,Int.reduceSub,Int.reduceMul,Nat.reduceAdd,↓bc_flatz,↓bc_flat16,↓agg_bytez, p4_3, p4_2, r1, r2, decide_eq_true ha]
      refine flush_ h2 hd hww (by have := hC.wait; omega) fun st' B' lw hd' => ?_
      exact hk st' _ _ B' lw.drop hd' C2 W2 (by show s.burnt.n = _; rw [(burnt_same s).1]; exact hn) (burnt_go hgo).1 fun _ => (burnt_go hgo).2.1
  · simp -implicitDefEqProofs (maxSteps := 2000000) (disch := first|assumption|omega|rfl|(simp only[RD];done)|(simp only[RD];omega)) only [RN,Int.reduceBEq,Int.reduceBNe,Int.reduceLT,Int.reduceLE,Int.reduceAdd,Int.reduceSub,Int.reduceMul,Nat.reduceAdd,↓bc_flatz,↓bc_flat16,↓agg_bytez, p4_4, q1, q2, q3, decide_eq_false ha]
    refine block4_ (hp st h.b.keeps) ?_
    try simp -implicitDefEqProofs (maxSteps := 2000000) (disch := first|assumption|omega|rfl|(simp only[RD];done)|(simp only[RD];omega)) only [RN,Int.reduceBEq,Int.reduceBNe,Int.reduceLT,Int.reduceLE,Int.reduceAdd,Int.reduceSub,Int.reduceMul,Nat.reduceAdd,↓bc_flatz,↓bc_flat16,↓agg_bytez]
    refine bwrite_ h.b hC (by omega) (blkP_len p) fun st2 b2 => ?_
    have C2 := write_C hC (i := at_ % (bn : Nat)) (blkP_len p)
    have W2 := write_W hW (i := at_ % (bn : Nat)) (b := blkP p)
    cases goes with
    | false =>
      obtain ⟨s', e, e1, e2, e3, e4⟩ := stop_write (s := s) (x := at_ % (bn : Nat)) (b := blkP p) (fun hh => by have := hg.2 hh; cases this) ⟨m1, by rw [hn]; exact m2⟩
      rw [e] at b2 C2 W2 ⊢
      simp -implicitDefEqProofs (maxSteps := 2000000) (disch := first|assumption|omega|rfl|(simp only[RD];done)|(simp only[RD];omega)) only [RN,Int.reduceBEq,Int.reduceBNe,Int.reduceLT,Int.reduceLE,Int.reduceAdd,Int.reduceSub,Int.reduceMul,Nat.reduceAdd,↓bc_flatz,↓bc_flat16,↓agg_bytez, p4_3, p4_2]
      have h2 := h.op b2
      refine hk st2 s' v B (by rw [e2]; exact h2) (by rw [e1]; exact hd) C2 W2 (by rw [e3]; exact hn) e4 fun hh => by cases hh
    | true =>
      have hgo := hg.1 rfl
      have e := go_write (x := at_ % (bn : Nat)) (b := blkP p) hgo ⟨m1, by rw [hn]; exact m2⟩
      rw [e] at b2 C2 W2 ⊢
      have h2 := h.op b2
      have bl := blkP_len p
      obtain ⟨a', o', r1, r2, r3⟩ := two_at (hs st2 h2.b.keeps) hi he
      simp -implicitDefEqProofs (maxSteps := 2000000) (disch := first|assumption|omega|rfl|(simp only[RD];done)|(simp only[RD];omega)) only [RN,Int.reduceBEq,Int.reduceBNe,Int.reduceLT,Int.reduceLE,Int.reduceAdd,Int.reduceSub,Int.reduceMul,Nat.reduceAdd,↓bc_flatz,↓bc_flat16,↓agg_bytez, p4_3, p4_2, r1, r2, r3, decide_eq_false ha]
      refine block4_ (hp st2 h2.b.keeps) ?_
      obtain ⟨s4, v4, a1, a2, a3⟩ := h2.app (x := at_ % (bn : Nat)) (b := blkP p) bl (by have := hC.wait; omega)
      simp -implicitDefEqProofs (maxSteps := 2000000) (disch := first|assumption|omega|rfl|(simp only[RD];done)|(simp only[RD];omega)) only [RN,Int.reduceBEq,Int.reduceBNe,Int.reduceLT,Int.reduceLE,Int.reduceAdd,Int.reduceSub,Int.reduceMul,Nat.reduceAdd,↓bc_flatz,↓bc_flat16,↓agg_bytez, bl, a1]
      refine hk s4 _ v4 B a2 ?_ C2 W2 (by show s.burnt.n = _; rw [(burnt_same s).1]; exact hn) (burnt_go hgo).1 fun _ => (burnt_go hgo).2.1
      show Hd B bn s.burnt.held
      rw [(burnt_same s).2.1]
      exact hd
/-- DiskLeft. -/
theorem left_ {blocks fuse : Int} {ks : List Bool} (hf : fuse < 2 ^ 63) (hn : n < 2 ^ 63) (hs : SlR σ 2 sv n us) (hputs : ∀ i, i < n → ∃ at_ pv p, (us.drop (i * 2)).take 2 = [.int .i64 at_, pv] ∧ ElV σ pv (bc p)) (hk : SlR σ 1 kv ks.length (bC ks)) (hq : ∀ σ', Q (.bool true) σ') :
    Does Try.prog 4 [.int .i64 blocks, sv, .int .i64 fuse, kv] σ Q := by
  refine d4 ?_
  simp -implicitDefEqProofs (maxSteps := 2000000) (disch := first|assumption|omega|rfl|(simp only[RD];done)|(simp only[RD];omega)) only [RN,Int.reduceBEq,Int.reduceBNe,Int.reduceLT,Int.reduceLE,Int.reduceAdd,Int.reduceSub,Int.reduceMul,Nat.reduceAdd,↓bc_flatz,↓bc_flat16,↓agg_bytez, p4]
  refine awake_ fun s1 k1 => ?_
  have hs1 : SlR s1 2 sv n us := hs.keeps fun i o h => k1.get h
  by_cases hb : blocks < 1
  · simp -implicitDefEqProofs (maxSteps := 2000000) (disch := first|assumption|omega|rfl|(simp only[RD];done)|(simp only[RD];omega)) only [RN,Int.reduceBEq,Int.reduceBNe,Int.reduceLT,Int.reduceLE,Int.reduceAdd,Int.reduceSub,Int.reduceMul,Nat.reduceAdd,↓bc_flatz,↓bc_flat16,↓agg_bytez, decide_eq_true hb]
    exact hq _
  by_cases hb2 : 64 < blocks
  · simp -implicitDefEqProofs (maxSteps := 2000000) (disch := first|assumption|omega|rfl|(simp only[RD];done)|(simp only[RD];omega)) only [RN,Int.reduceBEq,Int.reduceBNe,Int.reduceLT,Int.reduceLE,Int.reduceAdd,Int.reduceSub,Int.reduceMul,Nat.reduceAdd,↓bc_flatz,↓bc_flat16,↓agg_bytez, decide_eq_false hb, decide_eq_true hb2]
    exact hq _
  by_cases hn3 : (300 : Int) < (n : Nat)
  · simp -implicitDefEqProofs (maxSteps := 2000000) (disch := first|assumption|omega|rfl|(simp only[RD];done)|(simp only[RD];omega)) only [RN,Int.reduceBEq,Int.reduceBNe,Int.reduceLT,Int.reduceLE,Int.reduceAdd,Int.reduceSub,Int.reduceMul,Nat.reduceAdd,↓bc_flatz,↓bc_flat16,↓agg_bytez, decide_eq_false hb, decide_eq_false hb2, hs1.len, decide_eq_true hn3]
    exact hq _
  obtain ⟨bn, rfl⟩ : ∃ bn : Nat, blocks = (bn : Nat) := ⟨blocks.toNat, by omega⟩
  have hbn : 0 < bn := by omega
  simp -implicitDefEqProofs (maxSteps := 2000000) (disch := first|assumption|omega|rfl|(simp only[RD];done)|(simp only[RD];omega)) only [RN,Int.reduceBEq,Int.reduceBNe,Int.reduceLT,Int.reduceLE,Int.reduceAdd,Int.reduceSub,Int.reduceMul,Nat.reduceAdd,↓bc_flatz,↓bc_flat16,↓agg_bytez, decide_eq_false hb, decide_eq_false hb2, hs1.len, decide_eq_false hn3, p4_12]
  refine bnew_ (by omega) (by omega) [] (fun p hp => by cases hp) fun s2 d b2 => ?_
  have mk := make_blocks (n := bn) (k := .i64) (by omega)
  have z1 := zb_len
  simp -implicitDefEqProofs (maxSteps := 2000000) (disch := first|assumption|omega|rfl|(simp only[RD];done)|(simp only[RD];omega)) only [RN,Int.reduceBEq,Int.reduceBNe,Int.reduceLT,Int.reduceLE,Int.reduceAdd,Int.reduceSub,Int.reduceMul,Nat.reduceAdd,↓bc_flatz,↓bc_flat16,↓agg_bytez, mk]
  obtain ⟨s3, hs3⟩ : ∃ s3, s3 = s2.push (.cells (bc (List.replicate (bn * 1024) 0)) none) := ⟨_, rfl⟩
  have b3 : Bun s1 s3 d (DS.new (bn : Nat)) (osL s2.next (List.replicate (bn * 1024) 0) (.slice none 0 0) []) := by
    rw [hs3]; exact b2.push _
  have h3 : LW s1 d s2.next s3 (DS.new (bn : Nat)) (.slice none 0 0) [] (List.replicate (bn * 1024) 0) := ⟨b3, SlG.nil, by simp [idsV], b2.keeps.1, fun j hj => by simp [idsV] at hj⟩
  rw [← hs3]
  simp -implicitDefEqProofs (maxSteps := 2000000) (disch := first|assumption|omega|rfl|(simp only[RD];done)|(simp only[RD];omega)) only [RN,Int.reduceBEq,Int.reduceBNe,Int.reduceLT,Int.reduceLE,Int.reduceAdd,Int.reduceSub,Int.reduceMul,Nat.reduceAdd,↓bc_flatz,↓bc_flat16,↓agg_bytez, p4_11]
  have C0 : (DS.new (bn : Nat)).C 0 := new_C (by omega) (by omega)
  refine bfuse_ h3.b C0 rfl fuse fun s4 b4 => ?_
  have h4 := h3.op b4
  have C4 : ((DS.new (bn : Nat)).fused fuse).C 0 := fused_C C0 hf
  have hsk : ∀ st, Keeps s1 st → SlR st 2 sv n us := fun st k => hs1.keeps fun i o h => k.get h
  have hkk : ∀ st, Keeps s1 st → SlR st 1 kv ks.length (bC ks) := fun st k => hk.keeps fun i o h => (k1.trans k).get h
  try simp -implicitDefEqProofs (maxSteps := 2000000) (disch := first|assumption|omega|rfl|(simp only[RD];done)|(simp only[RD];omega)) only [RN,Int.reduceBEq,Int.reduceBNe,Int.reduceLT,Int.reduceLE,Int.reduceAdd,Int.reduceSub,Int.reduceMul,Nat.reduceAdd,↓bc_flatz,↓bc_flat16,↓agg_bytez]
  refine lop3 (fun k x v y st => ∃ (i : Nat) (s : DS) (B : List Int), k + i = n ∧ y = .int .i64 i ∧ x = .bool s.dead ∧ LW s1 d s2.next st s v s.wait B ∧ Hd B bn s.held ∧ s.C i ∧ s.W ∧ s.n = (bn : Nat) ∧ (s.dead = false → fuse < 0 ∧ s.fuse < 0 ∨ 0 ≤ fuse ∧ s.fuse = fuse - i ∧ (i : Int) ≤ fuse)) n
    ⟨0, _, _, rfl, rfl, rfl, h4, Hd.new, C4, fused_W new_W, rfl, fun _ => by
      show fuse < 0 ∧ max fuse (-1) < 0 ∨ 0 ≤ fuse ∧ max fuse (-1) = fuse - ((0 : Nat) : Int) ∧ ((0 : Nat) : Int) ≤ fuse
      omega⟩ ?_
  rintro k x v y st next ⟨i, s, B, hi, rfl, rfl, h, hd, hC, hW, hsn, hfu⟩ hnx
  have hl := hsk st h.b.keeps
  by_cases h5 : (i : Int) < (n : Nat)
  · have h6 : i < n := by omega
    obtain ⟨at_, pv, p, he, hp⟩ := hputs i h6
    have hpk : ∀ st, Keeps s1 st → ElV st pv (bc p) := fun st k => hp.keep (fun i o h => (k1.trans k).get h) (k1.trans k).1
    obtain ⟨a, o, q1, q2, q3⟩ := two_at hl h6 he
    have fin : ∀ (goes : Bool) (st' : Store) (s' : DS) (v' : Value) (B' : List Int), (goes = true → s.dead = false ∧ s.fuse ≠ 0) → LW s1 d s2.next st' s' v' s'.wait B' → Hd B' bn s'.held → s'.C (i + 1) → s'.W → s'.n = (bn : Nat) → s'.dead = !goes → (goes = true → s'.fuse = if 0 < s.fuse then s.fuse - 1 else s.fuse) → next (.bool (!goes)) v' (.int .i64 ((i : Int) + 1)) st' := fun goes st' s' v' B' hgo a1 a2 a3 a4 a5 a6 a7 => by
      refine hnx _ _ _ _ (by omega) ⟨i + 1, s', B', by omega, by congr 1, by rw [a6], a1, a2, a3, a4, a5, fun hde => ?_⟩
      have hg : goes = true := by
        cases goes with
        | true => rfl
        | false => rw [hde] at a6; cases a6
      obtain ⟨g1, g2⟩ := hgo hg
      have := a7 hg
      rcases hfu g1 with ⟨f1, f2⟩ | ⟨f1, f2, f3⟩
      · left; refine ⟨f1, ?_⟩; rw [this, if_neg (by omega)]; exact f2
      · right; refine ⟨f1, ?_, by omega⟩; rw [this, if_pos (by omega)]; omega
    cases hde : s.dead with
    | true =>
      simp -implicitDefEqProofs (maxSteps := 2000000) (disch := first|assumption|omega|rfl|(simp only[RD];done)|(simp only[RD];omega)) only [RN,Int.reduceBEq,Int.reduceBNe,Int.reduceLT,Int.reduceLE,Int.reduceAdd,Int.reduceSub,Int.reduceMul,Nat.reduceAdd,↓bc_flatz,↓bc_flat16,↓agg_bytez, hl.len, decide_eq_true h5, p4_5, q1, q2]
      refine pick_ (by omega) (by omega) ?_
      refine left_op (goes := false) h hd hC (by omega) hW hsn hbn hsk h6 he hpk ⟨fun h => (by cases h), fun h => (by rw [hde] at h; cases h.1)⟩ fun st' s' v' B' a1 a2 a3 a4 a5 a6 a7 => ?_
      simp -implicitDefEqProofs (maxSteps := 2000000) (disch := first|assumption|omega|rfl|(simp only[RD];done)|(simp only[RD];omega)) only [RN,Int.reduceBEq,Int.reduceBNe,Int.reduceLT,Int.reduceLE,Int.reduceAdd,Int.reduceSub,Int.reduceMul,Nat.reduceAdd,↓bc_flatz,↓bc_flat16,↓agg_bytez]
      exact fin false st' s' v' B' (fun h => (by cases h)) a1 a2 a3 a4 a5 a6 a7
    | false =>
      by_cases hf0 : fuse < 0
      · simp -implicitDefEqProofs (maxSteps := 2000000) (disch := first|assumption|omega|rfl|(simp only[RD];done)|(simp only[RD];omega)) only [RN,Int.reduceBEq,Int.reduceBNe,Int.reduceLT,Int.reduceLE,Int.reduceAdd,Int.reduceSub,Int.reduceMul,Nat.reduceAdd,↓bc_flatz,↓bc_flat16,↓agg_bytez, hl.len, decide_eq_true h5, p4_5, q1, q2, decide_eq_true hf0]
        refine pick_ (by omega) (by omega) ?_
        have hgo : s.dead = false ∧ s.fuse ≠ 0 := ⟨hde, by rcases hfu hde with h | h <;> omega⟩
        refine left_op (goes := true) h hd hC (by omega) hW hsn hbn hsk h6 he hpk ⟨fun _ => hgo, fun _ => rfl⟩ fun st' s' v' B' a1 a2 a3 a4 a5 a6 a7 => ?_
        simp -implicitDefEqProofs (maxSteps := 2000000) (disch := first|assumption|omega|rfl|(simp only[RD];done)|(simp only[RD];omega)) only [RN,Int.reduceBEq,Int.reduceBNe,Int.reduceLT,Int.reduceLE,Int.reduceAdd,Int.reduceSub,Int.reduceMul,Nat.reduceAdd,↓bc_flatz,↓bc_flat16,↓agg_bytez]
        exact fin true st' s' v' B' (fun _ => hgo) a1 a2 a3 a4 a5 a6 a7
      · by_cases hfi : (i : Int) < fuse
        · simp -implicitDefEqProofs (maxSteps := 2000000) (disch := first|assumption|omega|rfl|(simp only[RD];done)|(simp only[RD];omega)) only [RN,Int.reduceBEq,Int.reduceBNe,Int.reduceLT,Int.reduceLE,Int.reduceAdd,Int.reduceSub,Int.reduceMul,Nat.reduceAdd,↓bc_flatz,↓bc_flat16,↓agg_bytez, hl.len, decide_eq_true h5, p4_5, q1, q2, decide_eq_false hf0, decide_eq_true hfi]
          refine pick_ (by omega) (by omega) ?_
          have hgo : s.dead = false ∧ s.fuse ≠ 0 := ⟨hde, by rcases hfu hde with h | h <;> omega⟩
          refine left_op (goes := true) h hd hC (by omega) hW hsn hbn hsk h6 he hpk ⟨fun _ => hgo, fun _ => rfl⟩ fun st' s' v' B' a1 a2 a3 a4 a5 a6 a7 => ?_
          simp -implicitDefEqProofs (maxSteps := 2000000) (disch := first|assumption|omega|rfl|(simp only[RD];done)|(simp only[RD];omega)) only [RN,Int.reduceBEq,Int.reduceBNe,Int.reduceLT,Int.reduceLE,Int.reduceAdd,Int.reduceSub,Int.reduceMul,Nat.reduceAdd,↓bc_flatz,↓bc_flat16,↓agg_bytez]
          exact fin true st' s' v' B' (fun _ => hgo) a1 a2 a3 a4 a5 a6 a7
        · simp -implicitDefEqProofs (maxSteps := 2000000) (disch := first|assumption|omega|rfl|(simp only[RD];done)|(simp only[RD];omega)) only [RN,Int.reduceBEq,Int.reduceBNe,Int.reduceLT,Int.reduceLE,Int.reduceAdd,Int.reduceSub,Int.reduceMul,Nat.reduceAdd,↓bc_flatz,↓bc_flat16,↓agg_bytez, hl.len, decide_eq_true h5, p4_5, q1, q2, decide_eq_false hf0, decide_eq_false hfi]
          refine pick_ (by omega) (by omega) ?_
          have hno : ¬ (s.dead = false ∧ s.fuse ≠ 0) := fun h => h.2 (by rcases hfu hde with h | h <;> omega)
          refine left_op (goes := false) h hd hC (by omega) hW hsn hbn hsk h6 he hpk ⟨fun h => (by cases h), fun h => absurd h hno⟩ fun st' s' v' B' a1 a2 a3 a4 a5 a6 a7 => ?_
          simp -implicitDefEqProofs (maxSteps := 2000000) (disch := first|assumption|omega|rfl|(simp only[RD];done)|(simp only[RD];omega)) only [RN,Int.reduceBEq,Int.reduceBNe,Int.reduceLT,Int.reduceLE,Int.reduceAdd,Int.reduceSub,Int.reduceMul,Nat.reduceAdd,↓bc_flatz,↓bc_flat16,↓agg_bytez]
          exact fin false st' s' v' B' (fun h => (by cases h)) a1 a2 a3 a4 a5 a6 a7
  · have hin : i = n := by omega
    simp -implicitDefEqProofs (maxSteps := 2000000) (disch := first|assumption|omega|rfl|(simp only[RD];done)|(simp only[RD];omega)) only [RN,Int.reduceBEq,Int.reduceBNe,Int.reduceLT,Int.reduceLE,Int.reduceAdd,Int.reduceSub,Int.reduceMul,Nat.reduceAdd,↓bc_flatz,↓bc_flat16,↓agg_bytez, hl.len, decide_eq_false h5]
    refine bstopped_ h.b hC ?_
    have ez : (((s.wait.length : Nat) : Int) != (s.wait.length : Nat)) = false := by simp
    have hww : ∀ p ∈ s.wait, (0 ≤ p.1 ∧ p.1 < (bn : Int)) ∧ p.2.length = 1024 := fun p hp => ⟨by have := hW.wait p hp; rw [hsn] at this; exact this, hC.ok.wait p hp⟩
    have go : ∀ b : Bool, s.dead = b → gop (.bool false) false st (fun K => K (.pointer (some ⟨d, 0, none⟩)) st) (fun v181 s182 => gop (.bool false) false s182 (fun K => Does Try.prog 20 [v181] s182 K) fun v183 s184 => p4_10 (.bool false) s184 Q v183 v (.pointer (some ⟨d, 0, none⟩)) kv (.slice (some ⟨s2.next, 0, none⟩) bn bn) (.int .i64 (bn : Nat))) := fun b hb => by
      simp -implicitDefEqProofs (maxSteps := 2000000) (disch := first|assumption|omega|rfl|(simp only[RD];done)|(simp only[RD];omega)) only [RN,Int.reduceBEq,Int.reduceBNe,Int.reduceLT,Int.reduceLE,Int.reduceAdd,Int.reduceSub,Int.reduceMul,Nat.reduceAdd,↓bc_flatz,↓bc_flat16,↓agg_bytez]
      refine bpending_ h.b hC (by omega) fun st2 v2 b2 hv2 => ?_
      have h2 := h.op b2
      simp -implicitDefEqProofs (maxSteps := 2000000) (disch := first|assumption|omega|rfl|(simp only[RD];done)|(simp only[RD];omega)) only [RN,Int.reduceBEq,Int.reduceBNe,Int.reduceLT,Int.reduceLE,Int.reduceAdd,Int.reduceSub,Int.reduceMul,Nat.reduceAdd,↓bc_flatz,↓bc_flat16,↓agg_bytez, p4_10, hv2, h2.sl.r.len, ez]
      refine bcrash_ (ks := ks) h2.b hC (by omega) (fun st' k _ => hkk st' k) fun st3 b3 => ?_
      have h3 := h2.op b3
      have C3 := crash_C (ks := ks) hC
      try simp -implicitDefEqProofs (maxSteps := 2000000) (disch := first|assumption|omega|rfl|(simp only[RD];done)|(simp only[RD];omega)) only [RN,Int.reduceBEq,Int.reduceBNe,Int.reduceLT,Int.reduceLE,Int.reduceAdd,Int.reduceSub,Int.reduceMul,Nat.reduceAdd,↓bc_flatz,↓bc_flat16,↓agg_bytez]
      refine bstopped_ h3.b C3 ?_
      rw [show (s.crash ks).dead = false from rfl]
      try simp -implicitDefEqProofs (maxSteps := 2000000) (disch := first|assumption|omega|rfl|(simp only[RD];done)|(simp only[RD];omega)) only [RN,Int.reduceBEq,Int.reduceBNe,Int.reduceLT,Int.reduceLE,Int.reduceAdd,Int.reduceSub,Int.reduceMul,Nat.reduceAdd,↓bc_flatz,↓bc_flat16,↓agg_bytez]
      refine kept_ h3 hd hww (by have := hC.wait; omega) hkk fun st4 B4 h4 hd4 => ?_
      exact tell_ h4 hd4 C3.ok.held C3 (by omega) hsn rfl rfl rfl hq
    cases hde : s.dead with
    | true =>
      simp -implicitDefEqProofs (maxSteps := 2000000) (disch := first|assumption|omega|rfl|(simp only[RD];done)|(simp only[RD];omega)) only [RN,Int.reduceBEq,Int.reduceBNe,Int.reduceLT,Int.reduceLE,Int.reduceAdd,Int.reduceSub,Int.reduceMul,Nat.reduceAdd,↓bc_flatz,↓bc_flat16,↓agg_bytez]
      have := go true hde
      simp -implicitDefEqProofs (maxSteps := 2000000) (disch := first|assumption|omega|rfl|(simp only[RD];done)|(simp only[RD];omega)) only [RN,Int.reduceBEq,Int.reduceBNe,Int.reduceLT,Int.reduceLE,Int.reduceAdd,Int.reduceSub,Int.reduceMul,Nat.reduceAdd,↓bc_flatz,↓bc_flat16,↓agg_bytez] at this
      exact this
    | false =>
      simp -implicitDefEqProofs (maxSteps := 2000000) (disch := first|assumption|omega|rfl|(simp only[RD];done)|(simp only[RD];omega)) only [RN,Int.reduceBEq,Int.reduceBNe,Int.reduceLT,Int.reduceLE,Int.reduceAdd,Int.reduceSub,Int.reduceMul,Nat.reduceAdd,↓bc_flatz,↓bc_flat16,↓agg_bytez]
      have := go false hde
      simp -implicitDefEqProofs (maxSteps := 2000000) (disch := first|assumption|omega|rfl|(simp only[RD];done)|(simp only[RD];omega)) only [RN,Int.reduceBEq,Int.reduceBNe,Int.reduceLT,Int.reduceLE,Int.reduceAdd,Int.reduceSub,Int.reduceMul,Nat.reduceAdd,↓bc_flatz,↓bc_flat16,↓agg_bytez] at this
      exact this
end Go.Proofs.Ytelnpbgkgcollaa
