/- Chapter 04: DiskAgain, walked. -/
import Derived.Test.YtelnpbgkgcollaaDks
import Derived.Test.YtelnpbgkgcollaaLft
set_option linter.all false
set_option maxRecDepth 100000
set_option maxHeartbeats 1600000
namespace Go.Proofs.Ytelnpbgkgcollaa
open Go.Am
variable {σ st st' : Store} {d bn m n i : Nat} {s : DS} {sv : Value} {us : List Value} {Q : Value → Store → Prop} {f : Nat → Int × Value × List Int}
/-- The writes among the first puts. -/
def wrP (f : Nat → Int × Value × List Int) (bn : Nat) : Nat → List HB
  | 0 => []
  | i + 1 => if (f i).1 < 0 then wrP f bn i else wrP f bn i ++ [((f i).1 % (bn : Nat), blkP (f i).2.2)]
/-- The last barrier among the first puts. -/
def lbP (f : Nat → Int × Value × List Int) : Nat → Int
  | 0 => -1
  | i + 1 => if (f i).1 < 0 then i else lbP f i
theorem lbP_bar (h : (f i).1 < 0) : lbP f (i + 1) = i := by show (if _ then _ else _) = _; rw [if_pos h]
theorem lbP_put (h : ¬ (f i).1 < 0) : lbP f (i + 1) = lbP f i := by show (if _ then _ else _) = _; rw [if_neg h]
theorem lbP_lt : ∀ i, -1 ≤ lbP f i ∧ lbP f i < i
  | 0 => ⟨by simp [lbP], by simp [lbP]⟩
  | i + 1 => by
    have := lbP_lt i
    unfold lbP
    split <;> omega
/-- A disk behind the first puts. -/
structure PutD (f : Nat → Int × Value × List Int) (bn i : Nat) (s : DS) : Prop where
  C : s.C i
  W : s.W
  n : s.n = (bn : Nat)
  alive : s.dead = false
  fuse : s.fuse < 0
  made : s.made = i
  all : wrP f bn i = wrP f bn (lbP f i).toNat ++ s.wait
  held : ∀ y, (s.held y).getD zb = (lastOf (wrP f bn (lbP f i).toNat) y).getD zb
theorem burnt_live (h : s.fuse < 0) : s.burnt = { s with made := s.made + 1 } := by
  unfold DS.burnt
  rw [if_neg (by omega), if_neg (by omega)]
theorem live_bar (hd : s.dead = false) (h : s.fuse < 0) : s.barrier = (0, { s with made := s.made + 1, held := barHeld s.held s.wait, wait := [], hist := s.hist ++ [(2, 0, zb)] }) := by
  unfold DS.barrier
  rw [hd, if_neg (by decide), if_neg (by omega), burnt_live h, hd]
theorem live_write {x : Int} {b : List Int} (hd : s.dead = false) (h : s.fuse < 0) (hx : 0 ≤ x ∧ x < s.n) : s.write x b = (0, { s with made := s.made + 1, wait := s.wait ++ [(x, b)], hist := s.hist ++ [(1, x, b)] }) := by
  unfold DS.write
  rw [hd, if_neg (by decide), if_neg (by omega), if_neg (by omega), burnt_live h, hd]
theorem PutD.bar (h : PutD f bn i s) (hf : (f i).1 < 0) : PutD f bn (i + 1) s.barrier.2 := by
  have e := live_bar h.alive h.fuse
  have C2 := barrier_C h.C
  have W2 := barrier_W h.W
  rw [e] at C2 W2 ⊢
  have el : lbP f (i + 1) = i := by unfold lbP; rw [if_pos hf]
  have ew : wrP f bn (i + 1) = wrP f bn i := by show (if _ then _ else _) = _; rw [if_pos hf]
  refine ⟨C2, W2, h.n, h.alive, h.fuse, by show s.made + 1 = _; rw [h.made]; omega, ?_, fun y => ?_⟩
  · rw [el, ew, Int.toNat_natCast]; simp
  · rw [el, Int.toNat_natCast, h.all, lastOf_append]
    show (barHeld s.held s.wait y).getD zb = _
    rw [barHeld_at]
    cases lastOf s.wait y with
    | some b => rfl
    | none => exact h.held y
theorem PutD.write (h : PutD f bn i s) (hbn : 0 < bn) (hf : ¬ (f i).1 < 0) : PutD f bn (i + 1) (s.write ((f i).1 % (bn : Nat)) (blkP (f i).2.2)).2 := by
  have m1 := Int.emod_nonneg (f i).1 (show ((bn : Nat) : Int) ≠ 0 by omega)
  have m2 := Int.emod_lt_of_pos (f i).1 (show (0 : Int) < (bn : Nat) by omega)
  have e := live_write (x := (f i).1 % (bn : Nat)) (b := blkP (f i).2.2) h.alive h.fuse ⟨m1, by rw [h.n]; exact m2⟩
  have C2 := write_C h.C (i := (f i).1 % (bn : Nat)) (blkP_len (f i).2.2)
  have W2 := write_W h.W (i := (f i).1 % (bn : Nat)) (b := blkP (f i).2.2)
  rw [e] at C2 W2 ⊢
  have el : lbP f (i + 1) = lbP f i := by show (if _ then _ else _) = _; rw [if_neg hf]
  have ew : wrP f bn (i + 1) = wrP f bn i ++ [((f i).1 % (bn : Nat), blkP (f i).2.2)] := by show (if _ then _ else _) = _; rw [if_neg hf]
  refine ⟨C2, W2, h.n, h.alive, h.fuse, by show s.made + 1 = _; rw [h.made]; omega, ?_, fun y => ?_⟩
  · rw [el, ew, h.all, List.append_assoc]
  · rw [el]; exact h.held y
/-- A disk whose content is told by a function, and that is read. -/
structure Told (bn m : Nat) (g : Int → List Int) (s : DS) : Prop where
  C : s.C m
  n : s.n = (bn : Nat)
  alive : s.dead = false
  at_ : ∀ y, s.at y = g y
  len : ∀ y, (g y).length = 1024
theorem Told.read {g : Int → List Int} (h : Told bn m g s) (hi : i < bn) : s.read i = (g i, 0, { s with reads := s.reads + 1 }) ∧ Told bn (m + 1) g (s.read i).2.2 := by
  have e : s.read i = (g i, 0, { s with reads := s.reads + 1 }) := by
    unfold DS.read
    rw [if_neg (by rw [h.alive]; decide), if_neg (by rw [h.n]; omega), h.at_]
  have C2 := read_C h.C (i := i)
  refine ⟨e, ?_⟩
  rw [e] at C2 ⊢
  exact ⟨C2, h.n, h.alive, h.at_, h.len⟩
/-- DiskAgain. -/
theorem again_ {blocks : Int} (hn : n < 2 ^ 63) (hs : SlR σ 2 sv n us) (hputs : ∀ i, i < n → (us.drop (i * 2)).take 2 = [.int .i64 (f i).1, (f i).2.1] ∧ ElV σ (f i).2.1 (bc (f i).2.2)) (hq : ∀ σ', Q (.bool true) σ') :
    Does Try.prog 5 [.int .i64 blocks, sv] σ Q := by
  refine d5 ?_
  simp -implicitDefEqProofs (maxSteps := 2000000) (disch := first|assumption|omega|rfl|(simp only[RD];done)|(simp only[RD];omega)) only [RN,Int.reduceBEq,Int.reduceBNe,Int.reduceLT,Int.reduceLE,Int.reduceAdd,Int.reduceSub,Int.reduceMul,Nat.reduceAdd,↓bc_flatz,↓bc_flat16,↓agg_bytez, p5]
  refine awake_ fun s1 k1 => ?_
  have hs1 : SlR s1 2 sv n us := hs.keeps fun i o h => k1.get h
  by_cases hb : blocks < 1
  · simp -implicitDefEqProofs (maxSteps := 2000000) (disch := first|assumption|omega|rfl|(simp only[RD];done)|(simp only[RD];omega)) only [RN,Int.reduceBEq,Int.reduceBNe,Int.reduceLT,Int.reduceLE,Int.reduceAdd,Int.reduceSub,Int.reduceMul,Nat.reduceAdd,↓bc_flatz,↓bc_flat16,↓agg_bytez, decide_eq_true hb]
    exact hq _
  by_cases hb2 : 64 < blocks
  · simp -implicitDefEqProofs (maxSteps := 2000000) (disch := first|assumption|omega|rfl|(simp only[RD];done)|(simp only[RD];omega)) only [RN,Int.reduceBEq,Int.reduceBNe,Int.reduceLT,Int.reduceLE,Int.reduceAdd,Int.reduceSub,Int.reduceMul,Nat.reduceAdd,↓bc_flatz,↓bc_flat16,↓agg_bytez, decide_eq_false hb, decide_eq_true hb2]
    exact hq _
  by_cases hn3 : (300 : Int) < (n : Nat)
  · simp -implicitDefEqProofs (maxSteps := 2000000) (disch := first|assumption|omega|rfl|(simp only[RD];done)|(simp only[RD];omega)) only [RN,Int.reduceBEq,Int.reduceBNe,Int.reduceLT,Int.reduceLE,Int.reduceAdd,Int.reduceSub,Int.reduceMul,Nat.reduceAdd,↓bc_flatz,↓bc_flat16,↓agg_bytez, decide_eq_false hb, decide_eq_false hb2, hs1.len, decide_eq_true hn3]
    exact hq _
  obtain ⟨bn, rfl⟩ : ∃ bn : Nat, blocks = (bn : Nat) := ⟨blocks.toNat, by omega⟩
  have hbn : 0 < bn := by omega
  have hsk : ∀ st, Keeps s1 st → SlR st 2 sv n us := fun st k => hs1.keeps fun i o h => k.get h
  have hpk : ∀ i, i < n → ∀ st, Keeps s1 st → ElV st (f i).2.1 (bc (f i).2.2) := fun i hi st k => (hputs i hi).2.keep (fun i o h => (k1.trans k).get h) (k1.trans k).1
  simp -implicitDefEqProofs (maxSteps := 2000000) (disch := first|assumption|omega|rfl|(simp only[RD];done)|(simp only[RD];omega)) only [RN,Int.reduceBEq,Int.reduceBNe,Int.reduceLT,Int.reduceLE,Int.reduceAdd,Int.reduceSub,Int.reduceMul,Nat.reduceAdd,↓bc_flatz,↓bc_flat16,↓agg_bytez, decide_eq_false hb, decide_eq_false hb2, hs1.len, decide_eq_false hn3]
  refine knew_ (Dks.none (Keeps.refl s1)) (by omega) (by omega) fun s2 d k2 => ?_
  simp -implicitDefEqProofs (maxSteps := 2000000) (disch := first|assumption|omega|rfl|(simp only[RD];done)|(simp only[RD];omega)) only [RN,Int.reduceBEq,Int.reduceBNe,Int.reduceLT,Int.reduceLE,Int.reduceAdd,Int.reduceSub,Int.reduceMul,Nat.reduceAdd,↓bc_flatz,↓bc_flat16,↓agg_bytez, p5_11]
  refine lop1 (fun k x st => ∃ (i : Nat) (s : DS), k + i = n ∧ x = .int .i64 i ∧ Dks s1 st [(d, s)] [] ∧ PutD f bn i s) n ⟨0, _, rfl, rfl, k2, new_C (by omega) (by omega), new_W, rfl, rfl, by show (-1 : Int) < 0; decide, rfl, rfl, fun y => rfl⟩ ?_
  rintro k x st next ⟨i, s, hi, rfl, hD, hP⟩ hnx
  have hl := hsk st hD.keeps
  by_cases h5 : (i : Int) < (n : Nat)
  · have h6 : i < n := by omega
    obtain ⟨a, o, q1, q2, q3⟩ := two_at hl h6 (hputs i h6).1
    by_cases hf : (f i).1 < 0
    · simp -implicitDefEqProofs (maxSteps := 2000000) (disch := first|assumption|omega|rfl|(simp only[RD];done)|(simp only[RD];omega)) only [RN,Int.reduceBEq,Int.reduceBNe,Int.reduceLT,Int.reduceLE,Int.reduceAdd,Int.reduceSub,Int.reduceMul,Nat.reduceAdd,↓bc_flatz,↓bc_flat16,↓agg_bytez, hl.len, decide_eq_true h5, p5_10, q1, q2, decide_eq_true hf, p5_1]
      refine kbar_ hD hP.C (by omega) fun st2 hD2 => ?_
      try simp -implicitDefEqProofs (maxSteps := 2000000) (disch := first|assumption|omega|rfl|(simp only[RD];done)|(simp only[RD];omega)) only [RN,Int.reduceBEq,Int.reduceBNe,Int.reduceLT,Int.reduceLE,Int.reduceAdd,Int.reduceSub,Int.reduceMul,Nat.reduceAdd,↓bc_flatz,↓bc_flat16,↓agg_bytez]
      exact hnx _ _ (by omega) ⟨i + 1, _, by omega, by congr 1, hD2, hP.bar hf⟩
    · simp -implicitDefEqProofs (maxSteps := 2000000) (disch := first|assumption|omega|rfl|(simp only[RD];done)|(simp only[RD];omega)) only [RN,Int.reduceBEq,Int.reduceBNe,Int.reduceLT,Int.reduceLE,Int.reduceAdd,Int.reduceSub,Int.reduceMul,Nat.reduceAdd,↓bc_flatz,↓bc_flat16,↓agg_bytez, hl.len, decide_eq_true h5, p5_10, q1, q2, decide_eq_false hf, p5_1]
      refine pick_ (by omega) (by omega) ?_
      simp -implicitDefEqProofs (maxSteps := 2000000) (disch := first|assumption|omega|rfl|(simp only[RD];done)|(simp only[RD];omega)) only [RN,Int.reduceBEq,Int.reduceBNe,Int.reduceLT,Int.reduceLE,Int.reduceAdd,Int.reduceSub,Int.reduceMul,Nat.reduceAdd,↓bc_flatz,↓bc_flat16,↓agg_bytez, q1, q3]
      refine block4_ (hpk i h6 st hD.keeps) ?_
      try simp -implicitDefEqProofs (maxSteps := 2000000) (disch := first|assumption|omega|rfl|(simp only[RD];done)|(simp only[RD];omega)) only [RN,Int.reduceBEq,Int.reduceBNe,Int.reduceLT,Int.reduceLE,Int.reduceAdd,Int.reduceSub,Int.reduceMul,Nat.reduceAdd,↓bc_flatz,↓bc_flat16,↓agg_bytez]
      refine kwrite_ hD hP.C (by omega) (blkP_len _) fun st2 hD2 => ?_
      try simp -implicitDefEqProofs (maxSteps := 2000000) (disch := first|assumption|omega|rfl|(simp only[RD];done)|(simp only[RD];omega)) only [RN,Int.reduceBEq,Int.reduceBNe,Int.reduceLT,Int.reduceLE,Int.reduceAdd,Int.reduceSub,Int.reduceMul,Nat.reduceAdd,↓bc_flatz,↓bc_flat16,↓agg_bytez]
      exact hnx _ _ (by omega) ⟨i + 1, _, by omega, by congr 1, hD2, hP.write hbn hf⟩
  have hin : i = n := by omega
  subst hin
  simp -implicitDefEqProofs (maxSteps := 2000000) (disch := first|assumption|omega|rfl|(simp only[RD];done)|(simp only[RD];omega)) only [RN,Int.reduceBEq,Int.reduceBNe,Int.reduceLT,Int.reduceLE,Int.reduceAdd,Int.reduceSub,Int.reduceMul,Nat.reduceAdd,↓bc_flatz,↓bc_flat16,↓agg_bytez, hl.len, decide_eq_false h5, p5_10]
  have hbb : 1 ≤ s.n ∧ s.n ≤ 1048576 := by rw [hP.n]; omega
  refine kimage_ hD hP.C hP.W fun L1 st3 v1 hL1 hD3 hv1 _ _ => ?_
  have len1 := hL1.lens hP.C
  have few1 := hL1.few hP.W (by omega)
  try simp -implicitDefEqProofs (maxSteps := 2000000) (disch := first|assumption|omega|rfl|(simp only[RD];done)|(simp only[RD];omega)) only [RN,Int.reduceBEq,Int.reduceBNe,Int.reduceLT,Int.reduceLE,Int.reduceAdd,Int.reduceSub,Int.reduceMul,Nat.reduceAdd,↓bc_flatz,↓bc_flat16,↓agg_bytez]
  refine kload_ hD3 hv1.r len1 (by omega) (hL1.okIm hP.W hbb) fun st4 x hD4 => ?_
  simp -implicitDefEqProofs (maxSteps := 2000000) (disch := first|assumption|omega|rfl|(simp only[RD];done)|(simp only[RD];omega)) only [RN,Int.reduceBEq,Int.reduceBNe,Int.reduceLT,Int.reduceLE,Int.reduceAdd,Int.reduceSub,Int.reduceMul,Nat.reduceAdd,↓bc_flatz,↓bc_flat16,↓agg_bytez]
  refine kmade_ hD4.swap hP.C ?_
  try simp -implicitDefEqProofs (maxSteps := 2000000) (disch := first|assumption|omega|rfl|(simp only[RD];done)|(simp only[RD];omega)) only [RN,Int.reduceBEq,Int.reduceBNe,Int.reduceLT,Int.reduceLE,Int.reduceAdd,Int.reduceSub,Int.reduceMul,Nat.reduceAdd,↓bc_flatz,↓bc_flat16,↓agg_bytez]
  refine kbar_ hD4.swap hP.C (by omega) fun st5 hD5 => ?_
  have eb := live_bar hP.alive hP.fuse
  have CB := barrier_C hP.C
  have WB := barrier_W hP.W
  obtain ⟨sB, hsB⟩ : ∃ sB, sB = s.barrier.2 := ⟨_, rfl⟩
  have e0 : s.barrier.1 = 0 := by rw [eb]
  have eB : sB = { s with made := s.made + 1, held := barHeld s.held s.wait, wait := [], hist := s.hist ++ [(2, 0, zb)] } := by rw [hsB, eb]
  rw [← hsB] at hD5 CB WB
  rw [e0]
  have nB : sB.n = s.n := by rw [eB]
  have mB : sB.made = s.made + 1 := by rw [eB]
  have mm := hP.made
  simp -implicitDefEqProofs (maxSteps := 2000000) (disch := first|assumption|omega|rfl|(simp only[RD];done)|(simp only[RD];omega)) only [RN,Int.reduceBEq,Int.reduceBNe,Int.reduceLT,Int.reduceLE,Int.reduceAdd,Int.reduceSub,Int.reduceMul,Nat.reduceAdd,↓bc_flatz,↓bc_flat16,↓agg_bytez]
  refine kmade_ hD5 CB ?_
  have ez : (s.made + 1 != IntKind.i64.wrap (s.made + 1)) = false := by
    have : IntKind.i64.wrap (s.made + 1) = s.made + 1 := by simp -implicitDefEqProofs (maxSteps := 2000000) (disch := first|assumption|omega|rfl|(simp only[RD];done)|(simp only[RD];omega)) only [RN,Int.reduceBEq,Int.reduceBNe,Int.reduceLT,Int.reduceLE,Int.reduceAdd,Int.reduceSub,Int.reduceMul,Nat.reduceAdd,↓bc_flatz,↓bc_flat16,↓agg_bytez]
    rw [this]; simp
  have ez2 : (s.made + 1 != s.made + 1) = false := by simp
  rw [mB]
  simp -implicitDefEqProofs (maxSteps := 2000000) (disch := first|assumption|omega|rfl|(simp only[RD];done)|(simp only[RD];omega)) only [RN,Int.reduceBEq,Int.reduceBNe,Int.reduceLT,Int.reduceLE,Int.reduceAdd,Int.reduceSub,Int.reduceMul,Nat.reduceAdd,↓bc_flatz,↓bc_flat16,↓agg_bytez, ez, ez2, p5_9]
  refine kimage_ hD5 CB WB fun L2 st6 v2 hL2 hD6 hv2 _ _ => ?_
  have len2 := hL2.lens CB
  have few2 := hL2.few WB (by omega)
  try simp -implicitDefEqProofs (maxSteps := 2000000) (disch := first|assumption|omega|rfl|(simp only[RD];done)|(simp only[RD];omega)) only [RN,Int.reduceBEq,Int.reduceBNe,Int.reduceLT,Int.reduceLE,Int.reduceAdd,Int.reduceSub,Int.reduceMul,Nat.reduceAdd,↓bc_flatz,↓bc_flat16,↓agg_bytez]
  rw [nB]
  have ok2 := hL2.okIm WB (by omega)
  rw [nB] at ok2
  refine kload_ hD6 hv2.r len2 (by omega) ok2 fun st7 y hD7 => ?_
  have hl7 := hsk st7 hD7.keeps
  have ez3 : (s.made != ((i : Nat) : Int)) = false := by rw [mm]; simp
  simp -implicitDefEqProofs (maxSteps := 2000000) (disch := first|assumption|omega|rfl|(simp only[RD];done)|(simp only[RD];omega)) only [RN,Int.reduceBEq,Int.reduceBNe,Int.reduceLT,Int.reduceLE,Int.reduceAdd,Int.reduceSub,Int.reduceMul,Nat.reduceAdd,↓bc_flatz,↓bc_flat16,↓agg_bytez, p5_8, hl7.len, ez3]
  -- what is told
  have hhl : ∀ y b, sB.held y = some b → b.length = 1024 := CB.ok.held
  have gl : ∀ y, ((sB.held y).getD zb).length = 1024 := fun y => by
    cases hx : sB.held y with
    | none => exact zb_len
    | some b => exact hhl _ _ hx
  have gl1 : ∀ y, ((s.held y).getD zb).length = 1024 := fun y => by
    cases hx : s.held y with
    | none => exact zb_len
    | some b => exact hP.C.ok.held _ _ hx
  have td : Told bn (i + 1) (fun y => (sB.held y).getD zb) sB := ⟨CB, by rw [nB]; exact hP.n, by rw [eB]; exact hP.alive, fun y => by
    unfold DS.at
    rw [show sB.wait = [] from by rw [eB]]
    rfl, gl⟩
  have ty : Told bn 0 (fun y => (sB.held y).getD zb) (DS.load s.n L2) := ⟨by rw [← nB]; exact load_C (hL2.okIm WB (by omega)) len2, hP.n, rfl, fun y => by
    have := load_fn hL2 WB (by omega)
    rw [nB] at this
    unfold DS.at
    rw [show (DS.load s.n L2).wait = [] from rfl, this]
    rfl, gl⟩
  have tx : Told bn 0 (fun y => (s.held y).getD zb) (DS.load s.n L1) := ⟨load_C (hL1.okIm hP.W hbb) len1, hP.n, rfl, fun y => by
    unfold DS.at
    rw [show (DS.load s.n L1).wait = [] from rfl, load_fn hL1 hP.W hbb]
    rfl, gl1⟩
  have z1 := zb_len
  refine lop1 (fun k v st => ∃ (t : Nat) (a b : DS), k + t = bn ∧ v = .int .i64 t ∧ Dks s1 st [(y, b), (d, a), (x, DS.load s.n L1)] [] ∧ Told bn (i + 1 + t) (fun y => (sB.held y).getD zb) a ∧ Told bn t (fun y => (sB.held y).getD zb) b) bn ⟨0, sB, _, by omega, rfl, hD7, td, ty⟩ ?_
  rintro k v st next2 ⟨t, a, b, ht, rfl, hD8, ta, tb⟩ hnx2
  by_cases h7 : (t : Int) < (bn : Nat)
  · have h8 : t < bn := by omega
    simp -implicitDefEqProofs (maxSteps := 2000000) (disch := first|assumption|omega|rfl|(simp only[RD];done)|(simp only[RD];omega)) only [RN,Int.reduceBEq,Int.reduceBNe,Int.reduceLT,Int.reduceLE,Int.reduceAdd,Int.reduceSub,Int.reduceMul,Nat.reduceAdd,↓bc_flatz,↓bc_flat16,↓agg_bytez, decide_eq_true h7, p5_7]
    obtain ⟨ea, ta2⟩ := ta.read h8
    obtain ⟨eb2, tb2⟩ := tb.read h8
    refine kread_ hD8.swap ta.C (by omega) fun st9 hD9 => ?_
    rw [show (a.read t).1 = (sB.held t).getD zb from by rw [ea], show (a.read t).2.1 = 0 from by rw [ea]]
    have g1 := gl t
    simp -implicitDefEqProofs (maxSteps := 2000000) (disch := first|assumption|omega|rfl|(simp only[RD];done)|(simp only[RD];omega)) only [RN,Int.reduceBEq,Int.reduceBNe,Int.reduceLT,Int.reduceLE,Int.reduceAdd,Int.reduceSub,Int.reduceMul,Nat.reduceAdd,↓bc_flatz,↓bc_flat16,↓agg_bytez, g1, z1]
    have hD10 := hD9.swap.push (.cells (bc ((sB.held t).getD zb)) none)
    refine kread_ hD10 tb.C (by omega) fun st11 hD11 => ?_
    rw [show (b.read t).1 = (sB.held t).getD zb from by rw [eb2], show (b.read t).2.1 = 0 from by rw [eb2]]
    simp -implicitDefEqProofs (maxSteps := 2000000) (disch := first|assumption|omega|rfl|(simp only[RD];done)|(simp only[RD];omega)) only [RN,Int.reduceBEq,Int.reduceBNe,Int.reduceLT,Int.reduceLE,Int.reduceAdd,Int.reduceSub,Int.reduceMul,Nat.reduceAdd,↓bc_flatz,↓bc_flat16,↓agg_bytez, p5_2, g1, z1]
    have hD12 := hD11.push (.cells (bc ((sB.held t).getD zb)) none)
    have c1 := hD12.get (show (st9.next, SObj.cells (bc ((sB.held t).getD zb)) none) ∈ _ by simp)
    have c2 := hD12.get (show (st11.next, SObj.cells (bc ((sB.held t).getD zb)) none) ∈ _ by simp)
    have eq1 := eqA_bc (n := 1024) true g1 g1
    rw [decide_eq_true rfl] at eq1
    obtain ⟨s12, hs12⟩ : ∃ s12, s12 = st11.push (.cells (bc ((sB.held t).getD zb)) none) := ⟨_, rfl⟩
    rw [← hs12] at hD12 c1 c2 ⊢
    simp -implicitDefEqProofs (maxSteps := 2000000) (disch := first|assumption|omega|rfl|(simp only[RD];done)|(simp only[RD];omega)) only [RN,Int.reduceBEq,Int.reduceBNe,Int.reduceLT,Int.reduceLE,Int.reduceAdd,Int.reduceSub,Int.reduceMul,Nat.reduceAdd,↓bc_flatz,↓bc_flat16,↓agg_bytez, c1, c2, eq1]
    exact hnx2 _ _ (by omega) ⟨t + 1, _, _, by omega, by congr 1, hD12.less fun p hp => (by cases hp), ta2, tb2⟩
  have htb : t = bn := by omega
  simp -implicitDefEqProofs (maxSteps := 2000000) (disch := first|assumption|omega|rfl|(simp only[RD];done)|(simp only[RD];omega)) only [RN,Int.reduceBEq,Int.reduceBNe,Int.reduceLT,Int.reduceLE,Int.reduceAdd,Int.reduceSub,Int.reduceMul,Nat.reduceAdd,↓bc_flatz,↓bc_flat16,↓agg_bytez, decide_eq_false h7, p5_7]
  refine lop2 (fun k u v st => ∃ (t : Nat), k + t = i ∧ v = .int .i64 t ∧ u = .int .i64 (lbP f t) ∧ Dks s1 st [(x, DS.load s.n L1)] []) i ⟨0, by omega, rfl, rfl, hD8.tail.tail⟩ ?_
  rintro k u v st next3 ⟨t, ht, rfl, rfl, hD9⟩ hnx3
  have hl9 := hsk st hD9.keeps
  by_cases h9 : (t : Int) < (i : Nat)
  · have h10 : t < i := by omega
    obtain ⟨a, o, q1, q2, q3⟩ := two_at hl9 h10 (hputs t h10).1
    by_cases hf : (f t).1 < 0
    · simp -implicitDefEqProofs (maxSteps := 2000000) (disch := first|assumption|omega|rfl|(simp only[RD];done)|(simp only[RD];omega)) only [RN,Int.reduceBEq,Int.reduceBNe,Int.reduceLT,Int.reduceLE,Int.reduceAdd,Int.reduceSub,Int.reduceMul,Nat.reduceAdd,↓bc_flatz,↓bc_flat16,↓agg_bytez, hl9.len, decide_eq_true h9, p5_6, q1, q2, decide_eq_true hf]
      refine hnx3 _ _ _ (by omega) ⟨t + 1, by omega, by congr 1, ?_, hD9⟩
      rw [lbP_bar hf]
    · simp -implicitDefEqProofs (maxSteps := 2000000) (disch := first|assumption|omega|rfl|(simp only[RD];done)|(simp only[RD];omega)) only [RN,Int.reduceBEq,Int.reduceBNe,Int.reduceLT,Int.reduceLE,Int.reduceAdd,Int.reduceSub,Int.reduceMul,Nat.reduceAdd,↓bc_flatz,↓bc_flat16,↓agg_bytez, hl9.len, decide_eq_true h9, p5_6, q1, q2, decide_eq_false hf]
      refine hnx3 _ _ _ (by omega) ⟨t + 1, by omega, by congr 1, ?_, hD9⟩
      rw [lbP_put hf]
  have hti : t = i := by omega
  subst hti
  simp -implicitDefEqProofs (maxSteps := 2000000) (disch := first|assumption|omega|rfl|(simp only[RD];done)|(simp only[RD];omega)) only [RN,Int.reduceBEq,Int.reduceBNe,Int.reduceLT,Int.reduceLE,Int.reduceAdd,Int.reduceSub,Int.reduceMul,Nat.reduceAdd,↓bc_flatz,↓bc_flat16,↓agg_bytez, hl9.len, decide_eq_false h9, p5_6]
  refine knew_ hD9 (by omega) (by omega) fun st13 z hD13 => ?_
  simp -implicitDefEqProofs (maxSteps := 2000000) (disch := first|assumption|omega|rfl|(simp only[RD];done)|(simp only[RD];omega)) only [RN,Int.reduceBEq,Int.reduceBNe,Int.reduceLT,Int.reduceLE,Int.reduceAdd,Int.reduceSub,Int.reduceMul,Nat.reduceAdd,↓bc_flatz,↓bc_flat16,↓agg_bytez]
  have lb := lbP_lt (f := f) t
  refine lop1 (fun k v st => ∃ (j : Nat) (r : DS), k + j = (lbP f t).toNat ∧ v = .int .i64 j ∧ Dks s1 st [(z, r), (x, DS.load s.n L1)] [] ∧ r.C j ∧ r.n = (bn : Nat) ∧ r.dead = false ∧ r.fuse < 0 ∧ r.wait = wrP f bn j ∧ r.held = fun _ => none) (lbP f t).toNat ⟨0, _, rfl, rfl, hD13, new_C (by omega) (by omega), rfl, rfl, by show (-1 : Int) < 0; decide, rfl, rfl⟩ ?_
  rintro k v st next4 ⟨j, r, hj, rfl, hD14, rC, rn, rd, rf, rw_, rh⟩ hnx4
  have hl14 := hsk st hD14.keeps
  by_cases h11 : (j : Int) < lbP f t
  · have h12 : j < t := by omega
    obtain ⟨a, o, q1, q2, q3⟩ := two_at hl14 h12 (hputs j h12).1
    by_cases hf : (f j).1 < 0
    · simp -implicitDefEqProofs (maxSteps := 2000000) (disch := first|assumption|omega|rfl|(simp only[RD];done)|(simp only[RD];omega)) only [RN,Int.reduceBEq,Int.reduceBNe,Int.reduceLT,Int.reduceLE,Int.reduceAdd,Int.reduceSub,Int.reduceMul,Nat.reduceAdd,↓bc_flatz,↓bc_flat16,↓agg_bytez, decide_eq_true h11, p5_5, q1, q2, p5_3, decide_eq_false (show ¬ 0 ≤ (f j).1 by omega)]
      refine hnx4 _ _ (by omega) ⟨j + 1, r, by omega, by congr 1, hD14, rC.le (by omega), rn, rd, rf, ?_, rh⟩
      rw [rw_]; show _ = if _ then _ else _; rw [if_pos hf]
    · simp -implicitDefEqProofs (maxSteps := 2000000) (disch := first|assumption|omega|rfl|(simp only[RD];done)|(simp only[RD];omega)) only [RN,Int.reduceBEq,Int.reduceBNe,Int.reduceLT,Int.reduceLE,Int.reduceAdd,Int.reduceSub,Int.reduceMul,Nat.reduceAdd,↓bc_flatz,↓bc_flat16,↓agg_bytez, decide_eq_true h11, p5_5, q1, q2, p5_3, decide_eq_true (show 0 ≤ (f j).1 by omega)]
      refine pick_ (by omega) (by omega) ?_
      simp -implicitDefEqProofs (maxSteps := 2000000) (disch := first|assumption|omega|rfl|(simp only[RD];done)|(simp only[RD];omega)) only [RN,Int.reduceBEq,Int.reduceBNe,Int.reduceLT,Int.reduceLE,Int.reduceAdd,Int.reduceSub,Int.reduceMul,Nat.reduceAdd,↓bc_flatz,↓bc_flat16,↓agg_bytez, q1, q3]
      refine block4_ (hpk j h12 st hD14.keeps) ?_
      try simp -implicitDefEqProofs (maxSteps := 2000000) (disch := first|assumption|omega|rfl|(simp only[RD];done)|(simp only[RD];omega)) only [RN,Int.reduceBEq,Int.reduceBNe,Int.reduceLT,Int.reduceLE,Int.reduceAdd,Int.reduceSub,Int.reduceMul,Nat.reduceAdd,↓bc_flatz,↓bc_flat16,↓agg_bytez]
      refine kwrite_ hD14 rC (by omega) (blkP_len _) fun st15 hD15 => ?_
      have m1 := Int.emod_nonneg (f j).1 (show ((bn : Nat) : Int) ≠ 0 by omega)
      have m2 := Int.emod_lt_of_pos (f j).1 (show (0 : Int) < (bn : Nat) by omega)
      have ew := live_write (x := (f j).1 % (bn : Nat)) (b := blkP (f j).2.2) rd rf ⟨m1, by rw [rn]; exact m2⟩
      have C2 := write_C rC (i := (f j).1 % (bn : Nat)) (blkP_len (f j).2.2)
      rw [ew] at hD15 C2
      try simp -implicitDefEqProofs (maxSteps := 2000000) (disch := first|assumption|omega|rfl|(simp only[RD];done)|(simp only[RD];omega)) only [RN,Int.reduceBEq,Int.reduceBNe,Int.reduceLT,Int.reduceLE,Int.reduceAdd,Int.reduceSub,Int.reduceMul,Nat.reduceAdd,↓bc_flatz,↓bc_flat16,↓agg_bytez]
      refine hnx4 _ _ (by omega) ⟨j + 1, _, by omega, by congr 1, hD15, C2, rn, rd, rf, ?_, rh⟩
      show r.wait ++ _ = if _ then _ else _
      rw [if_neg hf, rw_]
  have hjl : j = (lbP f t).toNat := by omega
  simp -implicitDefEqProofs (maxSteps := 2000000) (disch := first|assumption|omega|rfl|(simp only[RD];done)|(simp only[RD];omega)) only [RN,Int.reduceBEq,Int.reduceBNe,Int.reduceLT,Int.reduceLE,Int.reduceAdd,Int.reduceSub,Int.reduceMul,Nat.reduceAdd,↓bc_flatz,↓bc_flat16,↓agg_bytez, decide_eq_false h11, p5_5]
  have tz : Told bn j (fun y => (s.held y).getD zb) r := ⟨rC, rn, rd, fun y => by
    rw [hP.held y, ← hjl, ← rw_]
    unfold DS.at
    rw [rh]
    cases lastOf r.wait y <;> rfl, gl1⟩
  refine lop1 (fun k v st => ∃ (u : Nat) (a b : DS), k + u = bn ∧ v = .int .i64 u ∧ Dks s1 st [(z, b), (x, a)] [] ∧ Told bn u (fun y => (s.held y).getD zb) a ∧ Told bn (j + u) (fun y => (s.held y).getD zb) b) bn ⟨0, _, r, by omega, rfl, hD14, tx, tz⟩ ?_
  rintro k v st next5 ⟨u, a, b, hu, rfl, hD16, ta, tb⟩ hnx5
  by_cases h13 : (u : Int) < (bn : Nat)
  · have h14 : u < bn := by omega
    simp -implicitDefEqProofs (maxSteps := 2000000) (disch := first|assumption|omega|rfl|(simp only[RD];done)|(simp only[RD];omega)) only [RN,Int.reduceBEq,Int.reduceBNe,Int.reduceLT,Int.reduceLE,Int.reduceAdd,Int.reduceSub,Int.reduceMul,Nat.reduceAdd,↓bc_flatz,↓bc_flat16,↓agg_bytez, decide_eq_true h13]
    obtain ⟨ea, ta2⟩ := ta.read h14
    obtain ⟨eb2, tb2⟩ := tb.read h14
    refine kread_ hD16.swap ta.C (by omega) fun st9 hD9 => ?_
    rw [show (a.read u).1 = (s.held u).getD zb from by rw [ea], show (a.read u).2.1 = 0 from by rw [ea]]
    have g1 := gl1 u
    simp -implicitDefEqProofs (maxSteps := 2000000) (disch := first|assumption|omega|rfl|(simp only[RD];done)|(simp only[RD];omega)) only [RN,Int.reduceBEq,Int.reduceBNe,Int.reduceLT,Int.reduceLE,Int.reduceAdd,Int.reduceSub,Int.reduceMul,Nat.reduceAdd,↓bc_flatz,↓bc_flat16,↓agg_bytez, g1, z1]
    have hD10 := hD9.swap.push (.cells (bc ((s.held u).getD zb)) none)
    refine kread_ hD10 tb.C (by omega) fun st11 hD11 => ?_
    rw [show (b.read u).1 = (s.held u).getD zb from by rw [eb2], show (b.read u).2.1 = 0 from by rw [eb2]]
    simp -implicitDefEqProofs (maxSteps := 2000000) (disch := first|assumption|omega|rfl|(simp only[RD];done)|(simp only[RD];omega)) only [RN,Int.reduceBEq,Int.reduceBNe,Int.reduceLT,Int.reduceLE,Int.reduceAdd,Int.reduceSub,Int.reduceMul,Nat.reduceAdd,↓bc_flatz,↓bc_flat16,↓agg_bytez, p5_4, g1, z1]
    have hD12 := hD11.push (.cells (bc ((s.held u).getD zb)) none)
    have c1 := hD12.get (show (st9.next, SObj.cells (bc ((s.held u).getD zb)) none) ∈ _ by simp)
    have c2 := hD12.get (show (st11.next, SObj.cells (bc ((s.held u).getD zb)) none) ∈ _ by simp)
    have eq1 := eqA_bc (n := 1024) true g1 g1
    rw [decide_eq_true rfl] at eq1
    obtain ⟨s12, hs12⟩ : ∃ s12, s12 = st11.push (.cells (bc ((s.held u).getD zb)) none) := ⟨_, rfl⟩
    rw [← hs12] at hD12 c1 c2 ⊢
    simp -implicitDefEqProofs (maxSteps := 2000000) (disch := first|assumption|omega|rfl|(simp only[RD];done)|(simp only[RD];omega)) only [RN,Int.reduceBEq,Int.reduceBNe,Int.reduceLT,Int.reduceLE,Int.reduceAdd,Int.reduceSub,Int.reduceMul,Nat.reduceAdd,↓bc_flatz,↓bc_flat16,↓agg_bytez, c1, c2, eq1]
    exact hnx5 _ _ (by omega) ⟨u + 1, _, _, by omega, by congr 1, hD12.less fun p hp => (by cases hp), ta2, tb2⟩
  · simp -implicitDefEqProofs (maxSteps := 2000000) (disch := first|assumption|omega|rfl|(simp only[RD];done)|(simp only[RD];omega)) only [RN,Int.reduceBEq,Int.reduceBNe,Int.reduceLT,Int.reduceLE,Int.reduceAdd,Int.reduceSub,Int.reduceMul,Nat.reduceAdd,↓bc_flatz,↓bc_flat16,↓agg_bytez, decide_eq_false h13]
    exact hq _
end Go.Proofs.Ytelnpbgkgcollaa
