/- Contracts of the package disk. -/
import Derived.Test.YthojojlgmaoecaaGreatAm34
import Derived.Test.YthojojlgmaoecaaGreatP1
import Derived.Test.YthojojlgmaoecaaGreatRuns
set_option linter.all false
set_option maxRecDepth 100000
set_option maxHeartbeats 400000
namespace Go.Proofs.YthojojlgmaoecaaGreat
open Go.Am
/-- A disk: what is held, what waits (the last one last), what was done. -/
structure DS where
  n : Int
  held : Int → Option (List Int)
  wait : List (Int × List Int)
  hist : List (Int × Int × List Int)
  fuse : Int
  dead : Bool
  made : Int
  reads : Int
  claims : Int
  claim : Int
def lastOf : List (Int × List Int) → Int → Option (List Int)
  | [], _ => none
  | (i, b) :: r, x => (lastOf r x).or (if i = x then some b else none)
theorem lastOf_app (w : List (Int × List Int)) (i : Int) (b : List Int) (x : Int) : lastOf (w ++ [(i, b)]) x = if i = x then some b else lastOf w x := by
  induction w with
  | nil => simp [lastOf]
  | cons p w ih =>
    obtain ⟨j, c⟩ := p
    simp only [List.cons_append, lastOf, ih]
    by_cases h : i = x
    · simp [h]
    · simp [h]
def bv (b : List Int) : Value := .agg ⟨bc b⟩
def waitC : List (Int × List Int) → List Value
  | [] => []
  | (i, b) :: r => .int .i64 i :: (bc b ++ waitC r)
def histC : List (Int × Int × List Int) → List Value
  | [] => []
  | (k, i, b) :: r => .int .u8 k :: .int .i64 i :: (bc b ++ histC r)
theorem waitC_app (w : List (Int × List Int)) (i : Int) (b : List Int) : waitC (w ++ [(i, b)]) = waitC w ++ (.int .i64 i :: bc b) := by
  induction w with
  | nil => simp [waitC]
  | cons p w ih => obtain ⟨j, c⟩ := p; simp [waitC, ih]
theorem histC_app (w : List (Int × Int × List Int)) (k i : Int) (b : List Int) : histC (w ++ [(k, i, b)]) = histC w ++ (.int .u8 k :: .int .i64 i :: bc b) := by
  induction w with
  | nil => simp [histC]
  | cons p w ih => obtain ⟨k', j, c⟩ := p; simp [histC, ih]
/-- The cells of a disk. -/
def DS.cells (s : DS) (hm lm : Nat) (pv hv : Value) : List Value := [.int .i64 s.n, .map (some hm), .map (some lm), pv, hv, .int .i64 s.fuse, .bool s.dead, .int .i64 s.made, .int .i64 s.reads, .int .i64 s.claims, .int .i64 s.claim]
/-- How far a disk's numbers go. -/
structure DS.Ok (s : DS) : Prop where
  n : 0 < s.n
  n2 : s.n ≤ 1048576
  fuse : s.fuse < 2 ^ 63
  fuse0 : -1 ≤ s.fuse
  made0 : 0 ≤ s.made
  reads0 : 0 ≤ s.reads
  claims0 : 0 ≤ s.claims
  wait : ∀ p ∈ s.wait, p.2.length = 1024
  hist : ∀ p ∈ s.hist, p.2.2.length = 1024
  held : ∀ x b, s.held x = some b → b.length = 1024
/-- A disk stands in a store, over some ids. -/
structure DAt (σ : Store) (d : Nat) (s : DS) (hm lm : Nat) (pv hv : Value) : Prop where
  cells : σ.get d = some (.cells (s.cells hm lm pv hv) none)
  held : MapAt σ hm fun x => (s.held x).map bv
  last : MapAt σ lm fun x => (lastOf s.wait x).map bv
  wait : SlG σ 1025 pv s.wait.length (waitC s.wait)
  hist : SlG σ 1026 hv s.hist.length (histC s.hist)
  ne1 : hm ≠ d
  ne2 : lm ≠ d
  ne3 : hm ≠ lm
  ne4 : ∀ i ∈ idsV pv, i ≠ d ∧ i ≠ hm ∧ i ≠ lm ∧ i ∉ idsV hv
  ne5 : ∀ i ∈ idsV hv, i ≠ d ∧ i ≠ hm ∧ i ≠ lm
def ids (d hm lm : Nat) (pv hv : Value) : List Nat := d :: hm :: lm :: (idsV pv ++ idsV hv)
variable {σ : Store} {d hm lm : Nat} {pv hv : Value} {s : DS} {Q : Value → Store → Prop}
theorem is_ (h : σ.get d = some (.cells (s.cells hm lm pv hv) none)) (hn : 0 < s.n) (hq : Q (.bool true) σ) : Does Tryz.prog 24 [.pointer (some ⟨d, 0, none⟩)] σ Q := by
  refine d24 ?_
  simp -implicitDefEqProofs (maxSteps := 2000000) (disch := first|assumption|omega|rfl|(simp only[RD];done)|(simp only[RD];omega)) only [RN,Int.reduceBEq,Int.reduceBNe,Int.reduceLT,Int.reduceLE,Int.reduceAdd,Int.reduceSub,Int.reduceMul,Nat.reduceAdd,↓bc_flatz,↓bc_flat16,↓agg_bytez, p24, h, DS.cells, decide_eq_true hn]
  exact hq
theorem check_ (h : σ.get d = some (.cells (s.cells hm lm pv hv) none)) (hn : 0 < s.n) (hq : Q (.int .i64 (if s.dead then 3 else 0)) σ) : Does Tryz.prog 21 [.pointer (some ⟨d, 0, none⟩)] σ Q := by
  refine d21 ?_
  simp -implicitDefEqProofs (maxSteps := 2000000) (disch := first|assumption|omega|rfl|(simp only[RD];done)|(simp only[RD];omega)) only [RN,Int.reduceBEq,Int.reduceBNe,Int.reduceLT,Int.reduceLE,Int.reduceAdd,Int.reduceSub,Int.reduceMul,Nat.reduceAdd,↓bc_flatz,↓bc_flat16,↓agg_bytez, p21]
  refine is_ h hn ?_
  cases hd : s.dead
  · simp -implicitDefEqProofs (maxSteps := 2000000) (disch := first|assumption|omega|rfl|(simp only[RD];done)|(simp only[RD];omega)) only [RN,Int.reduceBEq,Int.reduceBNe,Int.reduceLT,Int.reduceLE,Int.reduceAdd,Int.reduceSub,Int.reduceMul,Nat.reduceAdd,↓bc_flatz,↓bc_flat16,↓agg_bytez, h, DS.cells, hd]
    simpa [hd] using hq
  · simp -implicitDefEqProofs (maxSteps := 2000000) (disch := first|assumption|omega|rfl|(simp only[RD];done)|(simp only[RD];omega)) only [RN,Int.reduceBEq,Int.reduceBNe,Int.reduceLT,Int.reduceLE,Int.reduceAdd,Int.reduceSub,Int.reduceMul,Nat.reduceAdd,↓bc_flatz,↓bc_flat16,↓agg_bytez, h, DS.cells, hd]
    simpa [hd] using hq
/-- Something burns. -/
def DS.burnt (s : DS) : DS := if s.fuse = 0 then { s with dead := true } else { s with fuse := if 0 < s.fuse then s.fuse - 1 else s.fuse, made := s.made + 1 }
theorem burn_ (h : σ.get d = some (.cells (s.cells hm lm pv hv) none)) (hok : s.Ok) (hm1 : s.made < 2 ^ 62) (hq : Q (.bool (s.fuse != 0)) (σ.put d (some (.cells (s.burnt.cells hm lm pv hv) none)))) : Does Tryz.prog 22 [.pointer (some ⟨d, 0, none⟩)] σ Q := by
  refine d22 ?_
  have h1 := hok.fuse
  have h2 := hok.made0
  by_cases hz : s.fuse = 0
  · have e : (s.fuse == 0) = true := by simp [hz]
    have e2 : (s.fuse != 0) = false := by simp [hz]
    rw [e2] at hq
    simp -implicitDefEqProofs (maxSteps := 2000000) (disch := first|assumption|omega|rfl|(simp only[RD];done)|(simp only[RD];omega)) only [RN,Int.reduceBEq,Int.reduceBNe,Int.reduceLT,Int.reduceLE,Int.reduceAdd,Int.reduceSub,Int.reduceMul,Nat.reduceAdd,↓bc_flatz,↓bc_flat16,↓agg_bytez, p22, h, DS.cells, e]
    simpa [DS.burnt, hz, DS.cells] using hq
  · have e : (s.fuse == 0) = false := by simp [hz]
    have e2 : (s.fuse != 0) = true := by simp [hz]
    rw [e2] at hq
    by_cases hp : 0 < s.fuse
    · simp -implicitDefEqProofs (maxSteps := 2000000) (disch := first|assumption|omega|rfl|(simp only[RD];done)|(simp only[RD];omega)) only [RN,Int.reduceBEq,Int.reduceBNe,Int.reduceLT,Int.reduceLE,Int.reduceAdd,Int.reduceSub,Int.reduceMul,Nat.reduceAdd,↓bc_flatz,↓bc_flat16,↓agg_bytez, p22, h, DS.cells, e, decide_eq_true hp]
      simpa [DS.burnt, hz, hp, DS.cells] using hq
    · simp -implicitDefEqProofs (maxSteps := 2000000) (disch := first|assumption|omega|rfl|(simp only[RD];done)|(simp only[RD];omega)) only [RN,Int.reduceBEq,Int.reduceBNe,Int.reduceLT,Int.reduceLE,Int.reduceAdd,Int.reduceSub,Int.reduceMul,Nat.reduceAdd,↓bc_flatz,↓bc_flat16,↓agg_bytez, p22, h, DS.cells, e, decide_eq_false hp]
      simpa [DS.burnt, hz, hp, DS.cells] using hq
/-- Cells of a disk that are written anew, its maps and lists as they were. -/
theorem DAt.put {s' : DS} (h : DAt σ d s hm lm pv hv) (h1 : s'.held = s.held) (h2 : s'.wait = s.wait) (h3 : s'.hist = s.hist) : DAt (σ.put d (some (.cells (s'.cells hm lm pv hv) none))) d s' hm lm pv hv where
  cells := Store.get_put_same _ _ _
  held := by rw [h1]; exact h.held.same (Store.get_put_ne _ _ h.ne1)
  last := by rw [h2]; exact h.last.same (Store.get_put_ne _ _ h.ne2)
  wait := by rw [h2]; exact h.wait.same fun i hi => Store.get_put_ne _ _ (h.ne4 i hi).1
  hist := by rw [h3]; exact h.hist.same fun i hi => Store.get_put_ne _ _ (h.ne5 i hi).1
  ne1 := h.ne1
  ne2 := h.ne2
  ne3 := h.ne3
  ne4 := h.ne4
  ne5 := h.ne5
theorem DAt.lt (h : DAt σ d s hm lm pv hv) : ∀ j ∈ ids d hm lm pv hv, j < σ.next := by
  intro j hj
  simp only [ids, List.mem_cons, List.mem_append] at hj
  rcases hj with rfl | rfl | rfl | hj | hj
  · exact Store.lt_of_get h.cells
  · exact h.held.lt
  · exact h.last.lt
  · exact h.wait.lt _ hj
  · exact h.hist.lt _ hj
theorem DAt.keeps {σ' : Store} (h : DAt σ d s hm lm pv hv) (hg : ∀ j ∈ ids d hm lm pv hv, σ'.get j = σ.get j) : DAt σ' d s hm lm pv hv where
  cells := by rw [hg d (by simp [ids]), h.cells]
  held := h.held.same (hg hm (by simp [ids]))
  last := h.last.same (hg lm (by simp [ids]))
  wait := h.wait.same fun i hi => hg i (by simp [ids, hi])
  hist := h.hist.same fun i hi => hg i (by simp [ids, hi])
  ne1 := h.ne1
  ne2 := h.ne2
  ne3 := h.ne3
  ne4 := h.ne4
  ne5 := h.ne5
theorem upd_put {F : List Nat} {o : Option SObj} (hd : d ∈ F) (hlt : ∀ j ∈ F, j < σ.next) : Upd F σ (σ.put d o) F :=
  ⟨by rw [next_max]; omega, fun j hj => ⟨by rw [next_max]; have := hlt j hj; omega, .inl hj⟩, fun j hj hn => Store.get_put_ne _ _ (fun e => hn (e ▸ hd))⟩
/-- Is a block held, a blank one not at all. -/
def keepF (f : Int → Option (List Int)) (i : Int) (b : List Int) : Int → Option (List Int) := fun x => if x = i then (if b = zb then none else some b) else f x
/-- One thing is held, over cells of its own: the disk is as it was but for the map. -/
theorem keep_ {c : List Value} (h : σ.get d = some (.cells c none)) (hc : c[1]? = some (.map (some hm))) (hd : hm ≠ d) {f : Int → Option (List Int)} (hf : MapAt σ hm fun x => (f x).map bv) {i : Int} {b : List Int} (hb : b.length = 1024)
    (hq : ∀ σ', σ.next ≤ σ'.next → MapAt σ' hm (fun x => (keepF f i b x).map bv) → (∀ j, j < σ.next → j ≠ hm → σ'.get j = σ.get j) → Q (.tuple #[]) σ') : Does Tryz.prog 23 [.pointer (some ⟨d, 0, none⟩), .agg ⟨.int .i64 i :: bc b⟩] σ Q := by
  refine d23 ?_
  have hlt := Store.lt_of_get h
  have hltm := hf.lt
  have e1 : rdPart (some (.cells (.int .i64 i :: bc b) none)) 1 1024 = some (.agg ⟨bc b⟩) := by
    have h1 : Nat.ble (1 + 1024) (Value.int .i64 i :: bc b).length = true := Nat.ble_eq_true_of_le (by simp [hb])
    simp only [rdPart, part?, h1, cond_true, List.drop_succ_cons, List.drop_zero]
    rw [List.take_of_length_le (by rw [bc_len]; omega)]
  have hf1 : MapAt (σ.push (.cells (.int .i64 i :: bc b) none)) hm fun x => (f x).map bv := hf.same (get_push_ne hltm)
  by_cases hz : b = zb
  · have e2 := eqA_bc (n := 1024) false hb zb_len
    rw [decide_eq_true hz] at e2
    obtain ⟨o, h3, h4⟩ := hf1.del i
    simp -implicitDefEqProofs (maxSteps := 2000000) (disch := first|assumption|omega|rfl|(simp only[RD];done)|(simp only[RD];omega)) only [RN,Int.reduceBEq,Int.reduceBNe,Int.reduceLT,Int.reduceLE,Int.reduceAdd,Int.reduceSub,Int.reduceMul,Nat.reduceAdd,↓bc_flatz,↓bc_flat16,↓agg_bytez, p23, e1, e2, h, hc, h3]
    refine hq _ ?_ ?_ fun j hj hn => ?_
    · simp only [next_max, Store.next_push]; omega
    rotate_left
    · simp -implicitDefEqProofs (maxSteps := 2000000) (disch := first|assumption|omega|rfl|(simp only[RD];done)|(simp only[RD];omega)) only [RN,Int.reduceBEq,Int.reduceBNe,Int.reduceLT,Int.reduceLE,Int.reduceAdd,Int.reduceSub,Int.reduceMul,Nat.reduceAdd,↓bc_flatz,↓bc_flat16,↓agg_bytez]
    have e : (fun x => (keepF f i b x).map bv) = fun y => if y = i then none else (f y).map bv := by
      funext x; unfold keepF; by_cases hx : x = i <;> simp [hx, hz]
    rw [e, ← push_put_lt hltm]
    exact h4
  · have e2 := eqA_bc (n := 1024) false hb zb_len
    rw [decide_eq_false hz] at e2
    obtain ⟨o, h3, h4⟩ := hf1.upd i (bv b)
    unfold bv at h3
    simp -implicitDefEqProofs (maxSteps := 2000000) (disch := first|assumption|omega|rfl|(simp only[RD];done)|(simp only[RD];omega)) only [RN,Int.reduceBEq,Int.reduceBNe,Int.reduceLT,Int.reduceLE,Int.reduceAdd,Int.reduceSub,Int.reduceMul,Nat.reduceAdd,↓bc_flatz,↓bc_flat16,↓agg_bytez, p23, e1, e2, h, hc, h3]
    refine hq _ ?_ ?_ fun j hj hn => ?_
    · simp only [next_max, Store.next_push]; omega
    rotate_left
    · simp -implicitDefEqProofs (maxSteps := 2000000) (disch := first|assumption|omega|rfl|(simp only[RD];done)|(simp only[RD];omega)) only [RN,Int.reduceBEq,Int.reduceBNe,Int.reduceLT,Int.reduceLE,Int.reduceAdd,Int.reduceSub,Int.reduceMul,Nat.reduceAdd,↓bc_flatz,↓bc_flat16,↓agg_bytez]
    have e : (fun x => (keepF f i b x).map bv) = fun y => if y = i then some (bv b) else (f y).map bv := by
      funext x; unfold keepF; by_cases hx : x = i <;> simp [hx, hz]
    rw [e, ← push_put_lt hltm]
    exact h4
def DS.write (s : DS) (i : Int) (b : List Int) : Int × DS :=
  if s.dead then (3, s) else if i < 0 ∨ s.n ≤ i then (2, s) else if s.fuse = 0 then (3, s.burnt)
  else (0, { s.burnt with wait := s.wait ++ [(i, b)], hist := s.hist ++ [(1, i, b)] })
theorem burnt_same (s : DS) : s.burnt.n = s.n ∧ s.burnt.held = s.held ∧ s.burnt.wait = s.wait ∧ s.burnt.hist = s.hist ∧ s.burnt.reads = s.reads ∧ s.burnt.claims = s.claims ∧ s.burnt.claim = s.claim := by
  unfold DS.burnt; split <;> exact ⟨rfl, rfl, rfl, rfl, rfl, rfl, rfl⟩
theorem Upd.keeps {F F' : List Nat} {a b c : Store} (h : Keeps a b) (k : Upd F b c F') (hF : ∀ j ∈ F, j < a.next) : Upd F a c F' :=
  ⟨Nat.le_trans h.1 k.next, fun j hj => ⟨(k.ids j hj).1, by
    rcases (k.ids j hj).2 with h1 | h1
    · exact .inl h1
    · exact .inr (Nat.le_trans h.1 h1)⟩, fun j hj hn => by rw [k.same j (Nat.lt_of_lt_of_le hj h.1) hn, h.2 j hj]⟩
theorem write_ (h : DAt σ d s hm lm pv hv) (hok : s.Ok) (hm1 : s.made < 2 ^ 62) (hw : s.wait.length < 2 ^ 30) (hh : s.hist.length < 2 ^ 30) {i : Int} {b : List Int} (hb : b.length = 1024)
    (hq : ∀ σ' pv' hv', DAt σ' d (s.write i b).2 hm lm pv' hv' → Upd (ids d hm lm pv hv) σ σ' (ids d hm lm pv' hv') → Q (.int .i64 (s.write i b).1) σ') : Does Tryz.prog 8 [.pointer (some ⟨d, 0, none⟩), .int .i64 i, .agg ⟨bc b⟩] σ Q := by
  refine d8 ?_
  have hlt := h.lt
  have k1 : Keeps σ (σ.push (.cells (bc b) none)) := (Keeps.refl σ).push _
  have g1 : DAt (σ.push (.cells (bc b) none)) d s hm lm pv hv := h.keeps fun j hj => get_push_ne (hlt j hj)
  have c1 := g1.cells
  have hd1 := hlt d (by simp [ids])
  simp -implicitDefEqProofs (maxSteps := 2000000) (disch := first|assumption|omega|rfl|(simp only[RD];done)|(simp only[RD];omega)) only [RN,Int.reduceBEq,Int.reduceBNe,Int.reduceLT,Int.reduceLE,Int.reduceAdd,Int.reduceSub,Int.reduceMul,Nat.reduceAdd,↓bc_flatz,↓bc_flat16,↓agg_bytez, p8]
  refine check_ c1 hok.n ?_
  cases hd : s.dead
  case true =>
    simp -implicitDefEqProofs (maxSteps := 2000000) (disch := first|assumption|omega|rfl|(simp only[RD];done)|(simp only[RD];omega)) only [RN,Int.reduceBEq,Int.reduceBNe,Int.reduceLT,Int.reduceLE,Int.reduceAdd,Int.reduceSub,Int.reduceMul,Nat.reduceAdd,↓bc_flatz,↓bc_flat16,↓agg_bytez, if_true, p8_3]
    have e : s.write i b = (3, s) := by unfold DS.write; rw [if_pos hd]
    rw [e] at hq
    exact hq _ _ _ g1 (Upd.keeps k1 (Upd.refl g1.lt) hlt)
  case false =>
    simp only [if_false, Bool.false_eq_true]
    by_cases h2 : i < 0
    · simp -implicitDefEqProofs (maxSteps := 2000000) (disch := first|assumption|omega|rfl|(simp only[RD];done)|(simp only[RD];omega)) only [RN,Int.reduceBEq,Int.reduceBNe,Int.reduceLT,Int.reduceLE,Int.reduceAdd,Int.reduceSub,Int.reduceMul,Nat.reduceAdd,↓bc_flatz,↓bc_flat16,↓agg_bytez, p8_3, decide_eq_true h2]
      have e : s.write i b = (2, s) := by unfold DS.write; rw [hd]; simp [h2]
      rw [e] at hq
      exact hq _ _ _ g1 (Upd.keeps k1 (Upd.refl g1.lt) hlt)
    · by_cases h3 : s.n ≤ i
      · have c2 := h.cells
        simp -implicitDefEqProofs (maxSteps := 2000000) (disch := first|assumption|omega|rfl|(simp only[RD];done)|(simp only[RD];omega)) only [RN,Int.reduceBEq,Int.reduceBNe,Int.reduceLT,Int.reduceLE,Int.reduceAdd,Int.reduceSub,Int.reduceMul,Nat.reduceAdd,↓bc_flatz,↓bc_flat16,↓agg_bytez, p8_3, decide_eq_false h2, c2, DS.cells, decide_eq_true h3]
        have e : s.write i b = (2, s) := by unfold DS.write; rw [hd]; simp [h3]
        rw [e] at hq
        exact hq _ _ _ g1 (Upd.keeps k1 (Upd.refl g1.lt) hlt)
      · have c2 := h.cells
        simp -implicitDefEqProofs (maxSteps := 2000000) (disch := first|assumption|omega|rfl|(simp only[RD];done)|(simp only[RD];omega)) only [RN,Int.reduceBEq,Int.reduceBNe,Int.reduceLT,Int.reduceLE,Int.reduceAdd,Int.reduceSub,Int.reduceMul,Nat.reduceAdd,↓bc_flatz,↓bc_flat16,↓agg_bytez, p8_3, decide_eq_false h2, c2, DS.cells, decide_eq_false h3]
        refine burn_ c1 hok hm1 ?_
        have g2 : DAt ((σ.push (.cells (bc b) none)).put d (some (.cells (s.burnt.cells hm lm pv hv) none))) d s.burnt hm lm pv hv := g1.put (burnt_same s).2.1 (burnt_same s).2.2.1 (burnt_same s).2.2.2.1
        have u2 := upd_put (σ := σ.push (.cells (bc b) none)) (d := d) (F := ids d hm lm pv hv) (o := some (.cells (s.burnt.cells hm lm pv hv) none)) (by simp [ids]) g1.lt
        by_cases h4 : s.fuse = 0
        · have e2 : (s.fuse != 0) = false := by simp [h4]
          rw [e2]
          simp -implicitDefEqProofs (maxSteps := 2000000) (disch := first|assumption|omega|rfl|(simp only[RD];done)|(simp only[RD];omega)) only [RN,Int.reduceBEq,Int.reduceBNe,Int.reduceLT,Int.reduceLE,Int.reduceAdd,Int.reduceSub,Int.reduceMul,Nat.reduceAdd,↓bc_flatz,↓bc_flat16,↓agg_bytez, p8_2]
          have e : s.write i b = (3, s.burnt) := by unfold DS.write; rw [hd]; simp [h2, h3, h4]
          rw [e] at hq
          rw [← push_put_lt hd1]
          exact hq _ _ _ g2 (Upd.keeps k1 u2 hlt)
        · have e2 : (s.fuse != 0) = true := by simp [h4]
          rw [e2]
          have e : s.write i b = (0, { s.burnt with wait := s.wait ++ [(i, b)], hist := s.hist ++ [(1, i, b)] }) := by unfold DS.write; rw [hd]; simp [h2, h3, h4]
          rw [e] at hq
          have e3 : ((σ.push (.cells (bc b) none)).put d (some (.cells (s.burnt.cells hm lm pv hv) none))).get σ.next = some (.cells (bc b) none) := by
            rw [get_put_ne' (by omega), Store.get_push_same]
          have u3 := Upd.keeps k1 u2 hlt
          generalize hs2 : (σ.push (.cells (bc b) none)).put d (some (.cells (s.burnt.cells hm lm pv hv) none)) = σ2 at g2 u3 e3 ⊢
          have n2 : σ2.next = σ.next + 1 := by rw [← hs2, next_max, Store.next_push]; omega
          clear hs2 u2
          have c3 := g2.cells
          have hwn : s.burnt.wait = s.wait := (burnt_same s).2.2.1
          have hpw := g2.wait
          rw [hwn] at hpw
          have nj : ∀ j ∈ idsV pv, j < σ.next := fun j hj => hlt j (by simp [ids, hj])
          obtain ⟨s4, a1, a2, a3, a4⟩ := SlG.app (j := σ2.next) (k := 1) (gj := none) (by_ := 1032) (hpw.same (σ' := σ2.push (.cells (.int .i64 i :: bc b) none)) fun x hx => get_push_ne (by have := nj x hx; omega)) (Store.get_push_same _ _) (by simp [hb]) (by omega) (by omega) (by omega)
          simp -implicitDefEqProofs (maxSteps := 2000000) (disch := first|assumption|omega|rfl|(simp only[RD];done)|(simp only[RD];omega)) only [RN,Int.reduceBEq,Int.reduceBNe,Int.reduceLT,Int.reduceLE,Int.reduceAdd,Int.reduceSub,Int.reduceMul,Nat.reduceAdd,↓bc_flatz,↓bc_flat16,↓agg_bytez, p8_2, c3, DS.cells, e3, a1]
          have f1 : s4.get d = some (.cells (s.burnt.cells hm lm pv hv) none) := by
            rw [a4 d (by rw [Store.next_push]; omega) (fun hx => (h.ne4 d hx).1 rfl), get_push_ne (by omega), c3]
          simp -implicitDefEqProofs (maxSteps := 2000000) (disch := first|assumption|omega|rfl|(simp only[RD];done)|(simp only[RD];omega)) only [RN,Int.reduceBEq,Int.reduceBNe,Int.reduceLT,Int.reduceLE,Int.reduceAdd,Int.reduceSub,Int.reduceMul,Nat.reduceAdd,↓bc_flatz,↓bc_flat16,↓agg_bytez, f1, DS.cells]
          generalize hs5 : s4.put d _ = s5
          have n5 : s5.next = σ.next + 3 := by rw [← hs5, next_max, a3, Store.next_push, n2]; omega
          have c5 : s5.get d = some (.cells [.int .i64 s.burnt.n, .map (some hm), .map (some lm), .slice (some ⟨σ2.next + 1, 0, some 1025⟩) (s.wait.length + 1) (s.wait.length + 1), hv, .int .i64 s.burnt.fuse, .bool s.burnt.dead, .int .i64 s.burnt.made, .int .i64 s.burnt.reads, .int .i64 s.burnt.claims, .int .i64 s.burnt.claim] none) := by rw [← hs5, Store.get_put_same]
          have g5 : ∀ j, j < σ.next + 1 → j ≠ d → j ∉ idsV pv → s5.get j = σ2.get j := fun j hj hn hp => by
            rw [← hs5, get_put_ne' hn, a4 j (by rw [Store.next_push]; omega) hp, get_push_ne (by omega)]
          have w5 : SlG s5 1025 (.slice (some ⟨σ2.next + 1, 0, some 1025⟩) (s.wait.length + 1) (s.wait.length + 1)) (s.wait.length + 1) (waitC s.wait ++ .int .i64 i :: bc b) := by
            rw [Store.next_push] at a2
            refine a2.same fun x hx => ?_
            have : x = σ2.next + 1 := by simpa [idsV] using hx
            rw [← hs5, get_put_ne' (by omega)]
          clear hs5
          have b5 : s5.get σ.next = some (.cells (bc b) none) := by
            rw [g5 σ.next (by omega) (by omega) (fun hx => by have := nj _ hx; omega), e3]
          have nlm : lm < σ.next := hlt lm (by simp [ids])
          have nhm : hm < σ.next := hlt hm (by simp [ids])
          have nhv : ∀ j ∈ idsV hv, j < σ.next := fun j hj => hlt j (by simp [ids, hj])
          have m5 : MapAt s5 lm fun x => (lastOf s.wait x).map bv := by
            have := g2.last
            rw [hwn] at this
            exact this.same (g5 lm (by omega) h.ne2 fun hx => (h.ne4 lm hx).2.2.1 rfl)
          obtain ⟨o, m6, m7⟩ := m5.upd i (bv b)
          unfold bv at m6
          simp -implicitDefEqProofs (maxSteps := 2000000) (disch := first|assumption|omega|rfl|(simp only[RD];done)|(simp only[RD];omega)) only [RN,Int.reduceBEq,Int.reduceBNe,Int.reduceLT,Int.reduceLE,Int.reduceAdd,Int.reduceSub,Int.reduceMul,Nat.reduceAdd,↓bc_flatz,↓bc_flat16,↓agg_bytez, p8_1, c5, b5, m6]
          generalize hs6 : s5.put lm (some o) = s6 at m7 ⊢
          have n6 : s6.next = σ.next + 3 := by rw [← hs6, next_max, n5]; omega
          have g6 : ∀ j, j ≠ lm → s6.get j = s5.get j := fun j hj => by rw [← hs6, get_put_ne' hj]
          clear hs6
          have c6 := c5
          rw [← g6 d (fun e => h.ne2 e.symm)] at c6
          have b6 := b5
          rw [← g6 σ.next (by omega)] at b6
          have h6 : SlG s6 1026 hv s.hist.length (histC s.hist) := by
            have := g2.hist
            rw [(burnt_same s).2.2.2.1] at this
            refine this.same fun x hx => ?_
            rw [g6 x (h.ne5 x hx).2.2, g5 x (by have := nhv x hx; omega) (h.ne5 x hx).1 (fun hp => (h.ne4 x hp).2.2.2 hx)]
          obtain ⟨s7, r1, r2, r3, r4⟩ := SlG.app (j := s6.next) (k := 1) (gj := none) (by_ := 1040) (h6.same (σ' := s6.push (.cells (.int .u8 1 :: .int .i64 i :: bc b) none)) fun x hx => get_push_ne (by have := nhv x hx; omega)) (Store.get_push_same _ _) (by simp [hb]) (by omega) (by omega) (by omega)
          have f6 : s7.get d = s6.get d := by
            rw [r4 d (by rw [Store.next_push]; omega) (fun hx => (h.ne5 d hx).1 rfl), get_push_ne (by omega)]
          rw [c6] at f6
          simp -implicitDefEqProofs (maxSteps := 2000000) (disch := first|assumption|omega|rfl|(simp only[RD];done)|(simp only[RD];omega)) only [RN,Int.reduceBEq,Int.reduceBNe,Int.reduceLT,Int.reduceLE,Int.reduceAdd,Int.reduceSub,Int.reduceMul,Nat.reduceAdd,↓bc_flatz,↓bc_flat16,↓agg_bytez, c6, b6, r1, f6]
          rw [Store.next_push] at r2 r4
          rw [Store.next_push] at r3
          generalize hs8 : s7.put d _ = s8
          have n8 : s8.next = σ.next + 5 := by rw [← hs8, next_max, r3, n6]; omega
          have g8 : ∀ j, j < σ.next + 3 → j ≠ d → j ∉ idsV hv → s8.get j = s6.get j := fun j hj hn hp => by
            rw [← hs8, get_put_ne' hn, r4 j (by omega) hp, get_push_ne (by omega)]
          have hpv : idsV (.slice (some ⟨σ2.next + 1, 0, some 1025⟩) (s.wait.length + 1) (s.wait.length + 1)) = [σ2.next + 1] := rfl
          have hhv : idsV (.slice (some ⟨s6.next + 1, 0, some 1026⟩) (s.hist.length + 1) (s.hist.length + 1)) = [s6.next + 1] := rfl
          obtain ⟨S', hS⟩ : ∃ S' : DS, S' = { s.burnt with wait := s.wait ++ [(i, b)], hist := s.hist ++ [(1, i, b)] } := ⟨_, rfl⟩
          rw [← hS] at hq
          have p1 : S'.held = s.burnt.held := by rw [hS]
          have p2 : S'.wait = s.wait ++ [(i, b)] := by rw [hS]
          have p3 : S'.hist = s.hist ++ [(1, i, b)] := by rw [hS]
          have p4 : S'.cells hm lm (.slice (some ⟨σ2.next + 1, 0, some 1025⟩) (s.wait.length + 1) (s.wait.length + 1)) (.slice (some ⟨s6.next + 1, 0, some 1026⟩) (s.hist.length + 1) (s.hist.length + 1)) = [.int .i64 s.burnt.n, .map (some hm), .map (some lm), .slice (some ⟨σ2.next + 1, 0, some 1025⟩) (s.wait.length + 1) (s.wait.length + 1), .slice (some ⟨s6.next + 1, 0, some 1026⟩) (s.hist.length + 1) (s.hist.length + 1), .int .i64 s.burnt.fuse, .bool s.burnt.dead, .int .i64 s.burnt.made, .int .i64 s.burnt.reads, .int .i64 s.burnt.claims, .int .i64 s.burnt.claim] := by rw [hS]; rfl
          clear hS
          have d8 : DAt s8 d S' hm lm (.slice (some ⟨σ2.next + 1, 0, some 1025⟩) (s.wait.length + 1) (s.wait.length + 1)) (.slice (some ⟨s6.next + 1, 0, some 1026⟩) (s.hist.length + 1) (s.hist.length + 1)) := by
            refine ⟨?_, ?_, ?_, ?_, ?_, h.ne1, h.ne2, h.ne3, ?_, ?_⟩
            · rw [← hs8, Store.get_put_same, p4]
            · rw [p1]
              refine g2.held.same ?_
              rw [g8 hm (by omega) h.ne1 (fun hx => (h.ne5 hm hx).2.1 rfl), g6 hm h.ne3, g5 hm (by omega) h.ne1 (fun hx => (h.ne4 hm hx).2.1 rfl)]
            · have e9 : (fun x => (lastOf (s.wait ++ [(i, b)]) x).map bv) = fun y => if y = i then some (bv b) else (lastOf s.wait y).map bv := by
                funext x
                rw [lastOf_app]
                by_cases hx : i = x
                · simp [hx]
                · have hx' : ¬ x = i := fun e => hx e.symm
                  simp [hx, hx']
              rw [p2, e9]
              exact m7.same (g8 lm (by omega) h.ne2 (fun hx => (h.ne5 lm hx).2.2 rfl))
            · rw [p2, waitC_app, List.length_append, List.length_singleton]
              refine w5.same fun x hx => ?_
              rw [hpv] at hx
              have hx : x = σ2.next + 1 := by simpa using hx
              rw [g8 x (by omega) (by omega) (fun hp => by have := nhv x hp; omega), g6 x (by omega)]
            · rw [p3, histC_app, List.length_append, List.length_singleton]
              refine r2.same fun x hx => ?_
              rw [hhv] at hx
              have hx : x = s6.next + 1 := by simpa using hx
              rw [← hs8, get_put_ne' (by omega)]
            · intro x hx
              rw [hpv] at hx
              have hx : x = σ2.next + 1 := by simpa using hx
              rw [hhv]
              refine ⟨by omega, by omega, by omega, ?_⟩
              simp; omega
            · intro x hx
              rw [hhv] at hx
              have hx : x = s6.next + 1 := by simpa using hx
              omega
          refine hq s8 _ _ d8 ⟨by omega, fun j hj => ⟨d8.lt j hj, ?_⟩, fun j hj hn => ?_⟩
          · simp only [ids, hpv, hhv, List.mem_cons, List.mem_append, List.not_mem_nil, or_false] at hj ⊢
            rcases hj with h9 | h9 | h9 | h9 | h9
            · exact .inl (.inl h9)
            · exact .inl (.inr (.inl h9))
            · exact .inl (.inr (.inr (.inl h9)))
            · right; omega
            · right; omega
          · simp only [ids, List.mem_cons, List.mem_append, not_or] at hn
            obtain ⟨q1, q2, q3, q4, q5⟩ := hn
            rw [g8 j (by omega) q1 q5, g6 j q3, g5 j (by omega) q1 q4, u3.same j hj (by simp [ids, q1, q2, q3, q4, q5])]
theorem new_ {n : Int} (h0 : 1 ≤ n) (h1 : n ≤ 1048576) (hq : ∀ σ' d hm lm, DAt σ' d ⟨n, fun _ => none, [], [], -1, false, 0, 0, 0, 0⟩ hm lm (.slice none 0 0) (.slice none 0 0) → Keeps σ σ' → (∀ j ∈ ids d hm lm (.slice none 0 0) (.slice none 0 0), σ.next ≤ j) → Q (.tuple #[.pointer (some ⟨d, 0, none⟩), .int .i64 0]) σ') : Does Tryz.prog 20 [.int .i64 n] σ Q := by
  refine d20 ?_
  simp -implicitDefEqProofs (maxSteps := 2000000) (disch := first|assumption|omega|rfl|(simp only[RD];done)|(simp only[RD];omega)) only [RN,Int.reduceBEq,Int.reduceBNe,Int.reduceLT,Int.reduceLE,Int.reduceAdd,Int.reduceSub,Int.reduceMul,Nat.reduceAdd,↓bc_flatz,↓bc_flat16,↓agg_bytez, p20, decide_eq_false (show ¬ n < 1 by omega), decide_eq_false (show ¬ 1048576 < n by omega)]
  refine hq _ (σ.next + 1 + 1) σ.next (σ.next + 1) ⟨?_, ?_, ?_, SlG.nil, SlG.nil, ?_, ?_, ?_, fun i hi => by simp [idsV] at hi, fun i hi => by simp [idsV] at hi⟩ ((((Keeps.refl σ).push _).push _).push _) ?_
  · exact get_push_eq (by simp only [Store.next_push])
  · refine MapAt.new ?_
    simp -implicitDefEqProofs (maxSteps := 2000000) (disch := first|assumption|omega|rfl|(simp only[RD];done)|(simp only[RD];omega)) only [RN,Int.reduceBEq,Int.reduceBNe,Int.reduceLT,Int.reduceLE,Int.reduceAdd,Int.reduceSub,Int.reduceMul,Nat.reduceAdd,↓bc_flatz,↓bc_flat16,↓agg_bytez]
  · refine MapAt.new ?_
    simp -implicitDefEqProofs (maxSteps := 2000000) (disch := first|assumption|omega|rfl|(simp only[RD];done)|(simp only[RD];omega)) only [RN,Int.reduceBEq,Int.reduceBNe,Int.reduceLT,Int.reduceLE,Int.reduceAdd,Int.reduceSub,Int.reduceMul,Nat.reduceAdd,↓bc_flatz,↓bc_flat16,↓agg_bytez]
  · omega
  · omega
  · omega
  · intro j hj
    simp [ids, idsV] at hj
    omega
theorem waitC_at : ∀ {w : List (Int × List Int)} {k : Nat} {i : Int} {b : List Int}, (∀ p ∈ w, p.2.length = 1024) → w[k]? = some (i, b) → ((waitC w).drop (k * 1025)).take 1025 = .int .i64 i :: bc b
  | [], k, i, b, _, h => by simp at h
  | (j, c) :: w, 0, i, b, hl, h => by
    simp only [List.getElem?_cons_zero, Option.some.injEq, Prod.mk.injEq] at h
    obtain ⟨rfl, rfl⟩ := h
    have hc : (bc c).length = 1024 := by rw [bc_len]; exact hl (j, c) List.mem_cons_self
    simp only [waitC, Nat.zero_mul, List.drop_zero, List.take_succ_cons]
    rw [List.take_append_of_le_length (by omega), List.take_of_length_le (by omega)]
  | (j, c) :: w, k + 1, i, b, hl, h => by
    have hc : (bc c).length = 1024 := by rw [bc_len]; exact hl (j, c) List.mem_cons_self
    have ih := waitC_at (w := w) (k := k) (fun p hp => hl p (List.mem_cons_of_mem _ hp)) (by simpa using h)
    have e : (k + 1) * 1025 = (1024 + k * 1025) + 1 := by omega
    simp only [waitC]
    rw [e, List.drop_succ_cons, ← List.drop_drop, List.drop_left' hc]
    exact ih
def barHeld (f : Int → Option (List Int)) (w : List (Int × List Int)) : Int → Option (List Int) := w.foldl (fun f p => keepF f p.1 p.2) f
theorem barHeld_succ {f : Int → Option (List Int)} {w : List (Int × List Int)} {k : Nat} {i : Int} {b : List Int} (h : w[k]? = some (i, b)) : barHeld f (w.take (k + 1)) = keepF (barHeld f (w.take k)) i b := by
  unfold barHeld
  rw [List.take_add_one, h, List.foldl_append]
  rfl
def DS.barrier (s : DS) : Int × DS :=
  if s.dead then (3, s) else if s.fuse = 0 then (3, s.burnt)
  else (0, { s.burnt with held := barHeld s.held s.wait, wait := [], hist := s.hist ++ [(2, 0, zb)] })
theorem barrier_ (h : DAt σ d s hm lm pv hv) (hok : s.Ok) (hm1 : s.made < 2 ^ 62) (hw : s.wait.length < 2 ^ 30) (hh : s.hist.length < 2 ^ 30)
    (hq : ∀ σ' pv' hv', DAt σ' d s.barrier.2 hm lm pv' hv' → Upd (ids d hm lm pv hv) σ σ' (ids d hm lm pv' hv') → Q (.int .i64 s.barrier.1) σ') : Does Tryz.prog 7 [.pointer (some ⟨d, 0, none⟩)] σ Q := by
  refine d7 ?_
  have hlt := h.lt
  have c1 := h.cells
  have hd1 := hlt d (by simp [ids])
  simp -implicitDefEqProofs (maxSteps := 2000000) (disch := first|assumption|omega|rfl|(simp only[RD];done)|(simp only[RD];omega)) only [RN,Int.reduceBEq,Int.reduceBNe,Int.reduceLT,Int.reduceLE,Int.reduceAdd,Int.reduceSub,Int.reduceMul,Nat.reduceAdd,↓bc_flatz,↓bc_flat16,↓agg_bytez, p7]
  refine check_ c1 hok.n ?_
  cases hd : s.dead
  case true =>
    simp -implicitDefEqProofs (maxSteps := 2000000) (disch := first|assumption|omega|rfl|(simp only[RD];done)|(simp only[RD];omega)) only [RN,Int.reduceBEq,Int.reduceBNe,Int.reduceLT,Int.reduceLE,Int.reduceAdd,Int.reduceSub,Int.reduceMul,Nat.reduceAdd,↓bc_flatz,↓bc_flat16,↓agg_bytez, if_true]
    have e : s.barrier = (3, s) := by unfold DS.barrier; rw [if_pos hd]
    rw [e] at hq
    exact hq _ _ _ h (Upd.refl h.lt)
  case false =>
    simp only [if_false, Bool.false_eq_true]
    simp -implicitDefEqProofs (maxSteps := 2000000) (disch := first|assumption|omega|rfl|(simp only[RD];done)|(simp only[RD];omega)) only [RN,Int.reduceBEq,Int.reduceBNe,Int.reduceLT,Int.reduceLE,Int.reduceAdd,Int.reduceSub,Int.reduceMul,Nat.reduceAdd,↓bc_flatz,↓bc_flat16,↓agg_bytez]
    refine burn_ c1 hok hm1 ?_
    have g2 : DAt (σ.put d (some (.cells (s.burnt.cells hm lm pv hv) none))) d s.burnt hm lm pv hv := h.put (burnt_same s).2.1 (burnt_same s).2.2.1 (burnt_same s).2.2.2.1
    have u2 := upd_put (σ := σ) (d := d) (F := ids d hm lm pv hv) (o := some (.cells (s.burnt.cells hm lm pv hv) none)) (by simp [ids]) hlt
    by_cases h4 : s.fuse = 0
    · have e2 : (s.fuse != 0) = false := by simp [h4]
      rw [e2]
      simp -implicitDefEqProofs (maxSteps := 2000000) (disch := first|assumption|omega|rfl|(simp only[RD];done)|(simp only[RD];omega)) only [RN,Int.reduceBEq,Int.reduceBNe,Int.reduceLT,Int.reduceLE,Int.reduceAdd,Int.reduceSub,Int.reduceMul,Nat.reduceAdd,↓bc_flatz,↓bc_flat16,↓agg_bytez]
      have e : s.barrier = (3, s.burnt) := by unfold DS.barrier; rw [hd]; simp [h4]
      rw [e] at hq
      exact hq _ _ _ g2 u2
    · have e2 : (s.fuse != 0) = true := by simp [h4]
      rw [e2]
      have e : s.barrier = (0, { s.burnt with held := barHeld s.held s.wait, wait := [], hist := s.hist ++ [(2, 0, zb)] }) := by unfold DS.barrier; rw [hd]; simp [h4]
      rw [e] at hq
      generalize hs2 : σ.put d (some (.cells (s.burnt.cells hm lm pv hv) none)) = σ2 at g2 u2 ⊢
      have n2 : σ2.next = σ.next := by rw [← hs2, next_max]; omega
      clear hs2
      have c2 := g2.cells
      have hwn : s.burnt.wait = s.wait := (burnt_same s).2.2.1
      have hhn : s.burnt.held = s.held := (burnt_same s).2.1
      have hpw := g2.wait
      rw [hwn] at hpw
      have hmp := g2.held
      rw [hhn] at hmp
      simp -implicitDefEqProofs (maxSteps := 2000000) (disch := first|assumption|omega|rfl|(simp only[RD];done)|(simp only[RD];omega)) only [RN,Int.reduceBEq,Int.reduceBNe,Int.reduceLT,Int.reduceLE,Int.reduceAdd,Int.reduceSub,Int.reduceMul,Nat.reduceAdd,↓bc_flatz,↓bc_flat16,↓agg_bytez, c2, DS.cells, hpw.len]
      refine lop1 (fun k v st => ∃ i : Nat, k + i = s.wait.length ∧ v = .int .i64 i ∧ σ2.next ≤ st.next ∧ MapAt st hm (fun x => (barHeld s.held (s.wait.take i) x).map bv) ∧ ∀ j, j < σ2.next → j ≠ hm → st.get j = σ2.get j) s.wait.length ⟨0, rfl, rfl, Nat.le_refl _, hmp, fun _ _ _ => rfl⟩ ?_
      rintro k v st next ⟨i, hi, rfl, hn, hmi, hg⟩ hnx
      have hd2 : d < σ2.next := by omega
      have cst : st.get d = some (.cells (s.burnt.cells hm lm pv hv) none) := by rw [hg d hd2 (fun e => h.ne1 e.symm), c2]
      have nhm : hm < σ2.next := g2.lt hm (by simp [ids])
      by_cases h5 : (i : Int) < s.wait.length
      · have h6 : i < s.wait.length := by omega
        obtain ⟨p, hp⟩ : ∃ p, s.wait[i]? = some p := ⟨_, List.getElem?_eq_getElem h6⟩
        obtain ⟨x, b⟩ := p
        have hb : b.length = 1024 := hok.wait (x, b) (List.mem_of_getElem? hp)
        have hps : SlR st 1025 pv s.wait.length (waitC s.wait) := (hpw.same (σ' := st) fun y hy => hg y (g2.lt y (by simp [ids, hy])) ((h.ne4 y hy).2.1)).r
        obtain ⟨a, o, q1, q2, q3, q4⟩ := hps.at (by omega) h6
        rw [waitC_at hok.wait hp] at q3
        simp -implicitDefEqProofs (maxSteps := 2000000) (disch := first|assumption|omega|rfl|(simp only[RD];done)|(simp only[RD];omega)) only [RN,Int.reduceBEq,Int.reduceBNe,Int.reduceLT,Int.reduceLE,Int.reduceAdd,Int.reduceSub,Int.reduceMul,Nat.reduceAdd,↓bc_flatz,↓bc_flat16,↓agg_bytez, decide_eq_true h5, q1, q3]
        refine keep_ (hm := hm) (c := s.burnt.cells hm lm pv hv) (f := barHeld s.held (s.wait.take i)) (by rw [get_push_ne (by omega), cst]) rfl h.ne1 (hmi.same (by rw [get_push_ne (by omega)])) hb fun σ' z1 z2 z3 => ?_
        rw [Store.next_push] at z1 z3
        refine hnx _ _ (by omega) ⟨i + 1, by omega, by congr 1, by omega, ?_, fun j hj hne => ?_⟩
        · rw [barHeld_succ hp]; exact z2
        · rw [z3 j (by omega) hne, get_push_ne (by omega), hg j hj hne]
      · have e7 : i = s.wait.length := by omega
        subst e7
        rw [List.take_length] at hmi
        have nlm : lm < σ2.next := g2.lt lm (by simp [ids])
        have nhv : ∀ j ∈ idsV hv, j < σ2.next := fun j hj => g2.lt j (by simp [ids, hj])
        have m3 : MapAt (st.put d (some (.cells [.int .i64 s.burnt.n, .map (some hm), .map (some lm), .slice none 0 0, hv, .int .i64 s.burnt.fuse, .bool s.burnt.dead, .int .i64 s.burnt.made, .int .i64 s.burnt.reads, .int .i64 s.burnt.claims, .int .i64 s.burnt.claim] none))) lm fun x => (lastOf s.burnt.wait x).map bv :=
          g2.last.same (by rw [get_put_ne' h.ne2, hg lm nlm (fun e => h.ne3 e.symm)])
        obtain ⟨o, m4, m5⟩ := m3.clr
        simp -implicitDefEqProofs (maxSteps := 2000000) (disch := first|assumption|omega|rfl|(simp only[RD];done)|(simp only[RD];omega)) only [RN,Int.reduceBEq,Int.reduceBNe,Int.reduceLT,Int.reduceLE,Int.reduceAdd,Int.reduceSub,Int.reduceMul,Nat.reduceAdd,↓bc_flatz,↓bc_flat16,↓agg_bytez, decide_eq_false (show ¬ (s.wait.length : Int) < s.wait.length by omega), cst, DS.cells, m4]
        generalize hs5 : Store.put (Store.put st d _) lm (some o) = s5 at m5 ⊢
        have n5 : σ2.next ≤ s5.next := by rw [← hs5]; simp only [next_max]; omega
        have c5 : s5.get d = some (.cells [.int .i64 s.burnt.n, .map (some hm), .map (some lm), .slice none 0 0, hv, .int .i64 s.burnt.fuse, .bool s.burnt.dead, .int .i64 s.burnt.made, .int .i64 s.burnt.reads, .int .i64 s.burnt.claims, .int .i64 s.burnt.claim] none) := by rw [← hs5, get_put_ne' (fun e => h.ne2 e.symm), Store.get_put_same]
        have g5 : ∀ j, j ≠ d → j ≠ lm → s5.get j = st.get j := fun j h1 h2 => by rw [← hs5, get_put_ne' h2, get_put_ne' h1]
        clear hs5
        have h6 : SlG s5 1026 hv s.hist.length (histC s.hist) := by
          have := g2.hist
          rw [(burnt_same s).2.2.2.1] at this
          refine this.same fun x hx => ?_
          rw [g5 x (h.ne5 x hx).1 (h.ne5 x hx).2.2, hg x (nhv x hx) (h.ne5 x hx).2.1]
        obtain ⟨s7, r1, r2, r3, r4⟩ := SlG.app (j := s5.next) (k := 1) (gj := none) (by_ := 1040) (h6.same (σ' := s5.push (.cells (.int .u8 2 :: .int .i64 0 :: bc zb) none)) fun x hx => get_push_ne (by have := nhv x hx; omega)) (Store.get_push_same _ _) (by simp [zb_len]) (by omega) (by omega) (by omega)
        have f6 : s7.get d = s5.get d := by
          rw [r4 d (by rw [Store.next_push]; omega) (fun hx => (h.ne5 d hx).1 rfl), get_push_ne (by omega)]
        rw [c5] at f6
        simp -implicitDefEqProofs (maxSteps := 2000000) (disch := first|assumption|omega|rfl|(simp only[RD];done)|(simp only[RD];omega)) only [RN,Int.reduceBEq,Int.reduceBNe,Int.reduceLT,Int.reduceLE,Int.reduceAdd,Int.reduceSub,Int.reduceMul,Nat.reduceAdd,↓bc_flatz,↓bc_flat16,↓agg_bytez, c5, r1, f6]
        rw [Store.next_push] at r2 r4 r3
        generalize hs8 : s7.put d _ = s8
        have n8 : σ2.next ≤ s8.next := by rw [← hs8, next_max, r3]; omega
        have g8 : ∀ j, j < s5.next → j ≠ d → j ∉ idsV hv → s8.get j = s5.get j := fun j hj hne hp => by
          rw [← hs8, get_put_ne' hne, r4 j (by omega) hp, get_push_ne hj]
        have hhv : idsV (.slice (some ⟨s5.next + 1, 0, some 1026⟩) (s.hist.length + 1) (s.hist.length + 1)) = [s5.next + 1] := rfl
        have hpv : idsV (.slice none 0 0) = [] := rfl
        obtain ⟨S', hS⟩ : ∃ S' : DS, S' = { s.burnt with held := barHeld s.held s.wait, wait := [], hist := s.hist ++ [(2, 0, zb)] } := ⟨_, rfl⟩
        rw [← hS] at hq
        have p1 : S'.held = barHeld s.held s.wait := by rw [hS]
        have p2 : S'.wait = [] := by rw [hS]
        have p3 : S'.hist = s.hist ++ [(2, 0, zb)] := by rw [hS]
        have p4 : S'.cells hm lm (.slice none 0 0) (.slice (some ⟨s5.next + 1, 0, some 1026⟩) (s.hist.length + 1) (s.hist.length + 1)) = [.int .i64 s.burnt.n, .map (some hm), .map (some lm), .slice none 0 0, .slice (some ⟨s5.next + 1, 0, some 1026⟩) (s.hist.length + 1) (s.hist.length + 1), .int .i64 s.burnt.fuse, .bool s.burnt.dead, .int .i64 s.burnt.made, .int .i64 s.burnt.reads, .int .i64 s.burnt.claims, .int .i64 s.burnt.claim] := by rw [hS]; rfl
        clear hS
        have d8 : DAt s8 d S' hm lm (.slice none 0 0) (.slice (some ⟨s5.next + 1, 0, some 1026⟩) (s.hist.length + 1) (s.hist.length + 1)) := by
          refine ⟨?_, ?_, ?_, ?_, ?_, h.ne1, h.ne2, h.ne3, ?_, ?_⟩
          · rw [← hs8, Store.get_put_same, p4]
          · rw [p1]
            refine hmi.same ?_
            rw [g8 hm (by omega) h.ne1 (fun hx => (h.ne5 hm hx).2.1 rfl), g5 hm h.ne1 h.ne3]
          · rw [p2]
            exact m5.same (g8 lm (by omega) h.ne2 (fun hx => (h.ne5 lm hx).2.2 rfl))
          · rw [p2]; exact SlG.nil
          · rw [p3, histC_app, List.length_append, List.length_singleton]
            refine r2.same fun x hx => ?_
            rw [hhv] at hx
            have hx : x = s5.next + 1 := by simpa using hx
            rw [← hs8, get_put_ne' (by omega)]
          · intro x hx
            rw [hpv] at hx; cases hx
          · intro x hx
            rw [hhv] at hx
            have hx : x = s5.next + 1 := by simpa using hx
            omega
        refine hq s8 _ _ d8 ⟨by omega, fun j hj => ⟨d8.lt j hj, ?_⟩, fun j hj hne => ?_⟩
        · simp only [ids, hpv, hhv, List.mem_cons, List.mem_append, List.not_mem_nil, or_false, false_or] at hj ⊢
          rcases hj with h9 | h9 | h9 | h9
          · exact .inl (.inl h9)
          · exact .inl (.inr (.inl h9))
          · exact .inl (.inr (.inr (.inl h9)))
          · right; omega
        · simp only [ids, List.mem_cons, List.mem_append, not_or] at hne
          obtain ⟨q1, q2, q3, q4, q5⟩ := hne
          rw [g8 j (by omega) q1 q5, g5 j q1 q3, hg j (by omega) q2, u2.same j hj (by simp [ids, q1, q2, q3, q4, q5])]
/-- What a block reads as. -/
def DS.at (s : DS) (i : Int) : List Int := match lastOf s.wait i with | some b => b | none => (s.held i).getD zb
theorem DAt.later {σ' : Store} (h : DAt σ d s hm lm pv hv) (k : Keeps σ σ') : DAt σ' d s hm lm pv hv := h.keeps fun j hj => k.2 j (h.lt j hj)
theorem lastOf_mem {w : List (Int × List Int)} {x : Int} {b : List Int} (h : lastOf w x = some b) : ∃ p ∈ w, p.2 = b := by
  induction w with
  | nil => cases h
  | cons p w ih =>
    obtain ⟨j, c⟩ := p
    simp only [lastOf] at h
    cases hl : lastOf w x with
    | some b' =>
      rw [hl] at h
      obtain ⟨p, hp, e⟩ := ih (by rw [hl]; exact h)
      exact ⟨p, List.mem_cons_of_mem _ hp, e⟩
    | none =>
      rw [hl] at h
      simp only [Option.none_or] at h
      split at h
      · cases h; exact ⟨_, List.mem_cons_self, rfl⟩
      · cases h
/-- The power goes and comes: nothing of what waits is kept. -/
def DS.gone (s : DS) : DS := { s with wait := [], hist := [], dead := false, fuse := -1, claim := 0 }
end Go.Proofs.YthojojlgmaoecaaGreat
