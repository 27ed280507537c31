/- What is no log, and no disk. -/
import Derived.Test.YtndjgidglnofbaaRRRL8c
set_option linter.all false
set_option maxRecDepth 100000
set_option maxHeartbeats 400000
namespace Go.Proofs.YtndjgidglnofbaaRRR
open Go.Am
variable {σ σ' : Store} {Q : Value → Store → Prop} {v : Value} {l : List Int}
/-- No log. -/
def NL (σ : Store) (v : Value) : Prop := v = .pointer none ∨ ∃ i cs, v = .pointer (some ⟨i, 0, none⟩) ∧ σ.get i = some (.cells cs none) ∧ cs[2]? = some (.pointer none)
/-- No disk. -/
def ND (σ : Store) (v : Value) : Prop := v = .pointer none ∨ ∃ i cs, v = .pointer (some ⟨i, 0, none⟩) ∧ σ.get i = some (.cells cs none) ∧ cs[0]? = some (.int .i64 0)
theorem NL.keeps (h : NL σ v) (k : Keeps σ σ') : NL σ' v := by
  rcases h with h | ⟨i, cs, h1, h2, h3⟩
  · exact .inl h
  · exact .inr ⟨i, cs, h1, k.get h2, h3⟩
theorem ND.keeps (h : ND σ v) (k : Keeps σ σ') : ND σ' v := by
  rcases h with h | ⟨i, cs, h1, h2, h3⟩
  · exact .inl h
  · exact .inr ⟨i, cs, h1, k.get h2, h3⟩
theorem nd_is (h : ND σ v) (hq : Q (.bool false) σ) : Does Try.prog 35 [v] σ Q := by
  refine d35 ?_
  rcases h with rfl | ⟨i, cs, rfl, h2, h3⟩
  · simp -implicitDefEqProofs (maxSteps := 2000000) (disch := first|assumption|omega|rfl|(simp only[RD];done)|(simp only[RD];omega)) only [RN,Int.reduceBEq,Int.reduceBNe,Int.reduceLT,Int.reduceLE,Int.reduceAdd,Int.reduceSub,Int.reduceMul,Nat.reduceAdd,↓bc_flatz,↓bc_flat16,↓agg_bytez, p35]
    exact hq
  · simp -implicitDefEqProofs (maxSteps := 2000000) (disch := first|assumption|omega|rfl|(simp only[RD];done)|(simp only[RD];omega)) only [RN,Int.reduceBEq,Int.reduceBNe,Int.reduceLT,Int.reduceLE,Int.reduceAdd,Int.reduceSub,Int.reduceMul,Nat.reduceAdd,↓bc_flatz,↓bc_flat16,↓agg_bytez, p35, h2, h3]
    exact hq
theorem nd_len (h : ND σ v) (hq : Q (.int .i64 0) σ) : Does Try.prog 61 [v] σ Q := by
  refine d61 ?_
  simp -implicitDefEqProofs (maxSteps := 2000000) (disch := first|assumption|omega|rfl|(simp only[RD];done)|(simp only[RD];omega)) only [RN,Int.reduceBEq,Int.reduceBNe,Int.reduceLT,Int.reduceLE,Int.reduceAdd,Int.reduceSub,Int.reduceMul,Nat.reduceAdd,↓bc_flatz,↓bc_flat16,↓agg_bytez, p61]
  refine nd_is h ?_
  simp -implicitDefEqProofs (maxSteps := 2000000) (disch := first|assumption|omega|rfl|(simp only[RD];done)|(simp only[RD];omega)) only [RN,Int.reduceBEq,Int.reduceBNe,Int.reduceLT,Int.reduceLE,Int.reduceAdd,Int.reduceSub,Int.reduceMul,Nat.reduceAdd,↓bc_flatz,↓bc_flat16,↓agg_bytez]
  exact hq
theorem nd_made (h : ND σ v) (hq : Q (.bool false) σ) : Does Try.prog 60 [v] σ Q := by
  refine d60 ?_
  simp -implicitDefEqProofs (maxSteps := 2000000) (disch := first|assumption|omega|rfl|(simp only[RD];done)|(simp only[RD];omega)) only [RN,Int.reduceBEq,Int.reduceBNe,Int.reduceLT,Int.reduceLE,Int.reduceAdd,Int.reduceSub,Int.reduceMul,Nat.reduceAdd,↓bc_flatz,↓bc_flat16,↓agg_bytez, p60]
  refine nd_len h ?_
  simp -implicitDefEqProofs (maxSteps := 2000000) (disch := first|assumption|omega|rfl|(simp only[RD];done)|(simp only[RD];omega)) only [RN,Int.reduceBEq,Int.reduceBNe,Int.reduceLT,Int.reduceLE,Int.reduceAdd,Int.reduceSub,Int.reduceMul,Nat.reduceAdd,↓bc_flatz,↓bc_flat16,↓agg_bytez]
  exact hq
theorem nd_header (h : ND σ v) (hl : l.length = 9) (hq : ∀ σ', Keeps σ σ' → Q (.tuple #[.agg ⟨[.slice none 0 0]⟩, .int .i64 1]) σ') : Does Try.prog 44 [v, .agg ⟨ic l⟩] σ Q := by
  refine d44 ?_
  have l9 : (ic l).length = 9 := by rw [ic_len, hl]
  have z1 : unrle [(1, Value.slice none 0 0)] = [.slice none 0 0] := rfl
  have k : Keeps σ ((σ.push (.cells (ic l) none)).push (.cells [.slice none 0 0] none)) := ((Keeps.refl _).push _).push _
  have c : ((σ.push (.cells (ic l) none)).push (.cells [.slice none 0 0] none)).get (σ.next + 1) = some (.cells [.slice none 0 0] none) := by simp -implicitDefEqProofs (maxSteps := 2000000) (disch := first|assumption|omega|rfl|(simp only[RD];done)|(simp only[RD];omega)) only [RN,Int.reduceBEq,Int.reduceBNe,Int.reduceLT,Int.reduceLE,Int.reduceAdd,Int.reduceSub,Int.reduceMul,Nat.reduceAdd,↓bc_flatz,↓bc_flat16,↓agg_bytez]
  simp -implicitDefEqProofs (maxSteps := 2000000) (disch := first|assumption|omega|rfl|(simp only[RD];done)|(simp only[RD];omega)) only [RN,Int.reduceBEq,Int.reduceBNe,Int.reduceLT,Int.reduceLE,Int.reduceAdd,Int.reduceSub,Int.reduceMul,Nat.reduceAdd,↓bc_flatz,↓bc_flat16,↓agg_bytez, p44, l9, z1]
  generalize (σ.push (.cells (ic l) none)).push (.cells [.slice none 0 0] none) = s1 at k c ⊢
  simp -implicitDefEqProofs (maxSteps := 2000000) (disch := first|assumption|omega|rfl|(simp only[RD];done)|(simp only[RD];omega)) only [RN,Int.reduceBEq,Int.reduceBNe,Int.reduceLT,Int.reduceLE,Int.reduceAdd,Int.reduceSub,Int.reduceMul,Nat.reduceAdd,↓bc_flatz,↓bc_flat16,↓agg_bytez, p44_4]
  refine nd_made (h.keeps k) ?_
  simp -implicitDefEqProofs (maxSteps := 2000000) (disch := first|assumption|omega|rfl|(simp only[RD];done)|(simp only[RD];omega)) only [RN,Int.reduceBEq,Int.reduceBNe,Int.reduceLT,Int.reduceLE,Int.reduceAdd,Int.reduceSub,Int.reduceMul,Nat.reduceAdd,↓bc_flatz,↓bc_flat16,↓agg_bytez, z1, c]
  exact hq _ (k.put _ (by omega))
theorem nd_new (h : ND σ v) (hl : l.length = 9) (hq : ∀ σ', Keeps σ σ' → Q (.tuple #[.pointer none, .int .i64 1]) σ') : Does Try.prog 27 [v, .agg ⟨ic l⟩] σ Q := by
  refine d27 ?_
  have l9 : (ic l).length = 9 := by rw [ic_len, hl]
  have z1 : unrle [(1, Value.slice none 0 0)] = [.slice none 0 0] := rfl
  have k : Keeps σ (σ.push (.cells (ic l) none)) := (Keeps.refl _).push _
  simp -implicitDefEqProofs (maxSteps := 2000000) (disch := first|assumption|omega|rfl|(simp only[RD];done)|(simp only[RD];omega)) only [RN,Int.reduceBEq,Int.reduceBNe,Int.reduceLT,Int.reduceLE,Int.reduceAdd,Int.reduceSub,Int.reduceMul,Nat.reduceAdd,↓bc_flatz,↓bc_flat16,↓agg_bytez, p27, l9]
  generalize σ.push (.cells (ic l) none) = s1 at k ⊢
  refine nd_header (h.keeps k) hl fun s2 k2 => ?_
  simp -implicitDefEqProofs (maxSteps := 2000000) (disch := first|assumption|omega|rfl|(simp only[RD];done)|(simp only[RD];omega)) only [RN,Int.reduceBEq,Int.reduceBNe,Int.reduceLT,Int.reduceLE,Int.reduceAdd,Int.reduceSub,Int.reduceMul,Nat.reduceAdd,↓bc_flatz,↓bc_flat16,↓agg_bytez, z1]
  exact hq _ ((k.trans k2).push _)
theorem nd_recover (h : ND σ v) (hl : l.length = 9) (hq : ∀ σ', Keeps σ σ' → Q (.tuple #[.int .i64 0, .int .i64 1]) σ') : Does Try.prog 29 [v, .agg ⟨ic l⟩] σ Q := by
  refine d29 ?_
  have l9 : (ic l).length = 9 := by rw [ic_len, hl]
  have z1 : unrle [(1, Value.slice none 0 0)] = [.slice none 0 0] := rfl
  have k : Keeps σ (σ.push (.cells (ic l) none)) := (Keeps.refl _).push _
  simp -implicitDefEqProofs (maxSteps := 2000000) (disch := first|assumption|omega|rfl|(simp only[RD];done)|(simp only[RD];omega)) only [RN,Int.reduceBEq,Int.reduceBNe,Int.reduceLT,Int.reduceLE,Int.reduceAdd,Int.reduceSub,Int.reduceMul,Nat.reduceAdd,↓bc_flatz,↓bc_flat16,↓agg_bytez, p29, l9]
  generalize σ.push (.cells (ic l) none) = s1 at k ⊢
  refine nd_header (h.keeps k) hl fun s2 k2 => ?_
  simp -implicitDefEqProofs (maxSteps := 2000000) (disch := first|assumption|omega|rfl|(simp only[RD];done)|(simp only[RD];omega)) only [RN,Int.reduceBEq,Int.reduceBNe,Int.reduceLT,Int.reduceLE,Int.reduceAdd,Int.reduceSub,Int.reduceMul,Nat.reduceAdd,↓bc_flatz,↓bc_flat16,↓agg_bytez, z1, p29_4]
  exact hq _ ((k.trans k2).push _)
theorem nl_check (h : NL σ v) (hq : Q (.int .i64 1) σ) : Does Try.prog 33 [v] σ Q := by
  refine d33 ?_
  rcases h with rfl | ⟨i, cs, rfl, h2, h3⟩
  · simp -implicitDefEqProofs (maxSteps := 2000000) (disch := first|assumption|omega|rfl|(simp only[RD];done)|(simp only[RD];omega)) only [RN,Int.reduceBEq,Int.reduceBNe,Int.reduceLT,Int.reduceLE,Int.reduceAdd,Int.reduceSub,Int.reduceMul,Nat.reduceAdd,↓bc_flatz,↓bc_flat16,↓agg_bytez, p33]
    exact hq
  · simp -implicitDefEqProofs (maxSteps := 2000000) (disch := first|assumption|omega|rfl|(simp only[RD];done)|(simp only[RD];omega)) only [RN,Int.reduceBEq,Int.reduceBNe,Int.reduceLT,Int.reduceLE,Int.reduceAdd,Int.reduceSub,Int.reduceMul,Nat.reduceAdd,↓bc_flatz,↓bc_flat16,↓agg_bytez, p33, h2, h3]
    exact hq
theorem nl_begin (h : NL σ v) (x : Int) (hq : Q (.int .i64 1) σ) : Does Try.prog 10 [v, .int .i64 x] σ Q := by
  refine d10 ?_
  simp -implicitDefEqProofs (maxSteps := 2000000) (disch := first|assumption|omega|rfl|(simp only[RD];done)|(simp only[RD];omega)) only [RN,Int.reduceBEq,Int.reduceBNe,Int.reduceLT,Int.reduceLE,Int.reduceAdd,Int.reduceSub,Int.reduceMul,Nat.reduceAdd,↓bc_flatz,↓bc_flat16,↓agg_bytez, p10]
  refine nl_check h ?_
  simp -implicitDefEqProofs (maxSteps := 2000000) (disch := first|assumption|omega|rfl|(simp only[RD];done)|(simp only[RD];omega)) only [RN,Int.reduceBEq,Int.reduceBNe,Int.reduceLT,Int.reduceLE,Int.reduceAdd,Int.reduceSub,Int.reduceMul,Nat.reduceAdd,↓bc_flatz,↓bc_flat16,↓agg_bytez]
  exact hq
theorem nl_end (h : NL σ v) (hq : Q (.int .i64 1) σ) : Does Try.prog 19 [v] σ Q := by
  refine d19 ?_
  simp -implicitDefEqProofs (maxSteps := 2000000) (disch := first|assumption|omega|rfl|(simp only[RD];done)|(simp only[RD];omega)) only [RN,Int.reduceBEq,Int.reduceBNe,Int.reduceLT,Int.reduceLE,Int.reduceAdd,Int.reduceSub,Int.reduceMul,Nat.reduceAdd,↓bc_flatz,↓bc_flat16,↓agg_bytez, p19]
  refine nl_check h ?_
  simp -implicitDefEqProofs (maxSteps := 2000000) (disch := first|assumption|omega|rfl|(simp only[RD];done)|(simp only[RD];omega)) only [RN,Int.reduceBEq,Int.reduceBNe,Int.reduceLT,Int.reduceLE,Int.reduceAdd,Int.reduceSub,Int.reduceMul,Nat.reduceAdd,↓bc_flatz,↓bc_flat16,↓agg_bytez]
  exact hq
theorem nl_sync (h : NL σ v) (hq : Q (.int .i64 1) σ) : Does Try.prog 21 [v] σ Q := by
  refine d21 ?_
  simp -implicitDefEqProofs (maxSteps := 2000000) (disch := first|assumption|omega|rfl|(simp only[RD];done)|(simp only[RD];omega)) only [RN,Int.reduceBEq,Int.reduceBNe,Int.reduceLT,Int.reduceLE,Int.reduceAdd,Int.reduceSub,Int.reduceMul,Nat.reduceAdd,↓bc_flatz,↓bc_flat16,↓agg_bytez, p21]
  refine nl_check h ?_
  simp -implicitDefEqProofs (maxSteps := 2000000) (disch := first|assumption|omega|rfl|(simp only[RD];done)|(simp only[RD];omega)) only [RN,Int.reduceBEq,Int.reduceBNe,Int.reduceLT,Int.reduceLE,Int.reduceAdd,Int.reduceSub,Int.reduceMul,Nat.reduceAdd,↓bc_flatz,↓bc_flat16,↓agg_bytez]
  exact hq
theorem nl_close (h : NL σ v) (hq : Q (.int .i64 1) σ) : Does Try.prog 49 [v] σ Q := by
  refine d49 ?_
  simp -implicitDefEqProofs (maxSteps := 2000000) (disch := first|assumption|omega|rfl|(simp only[RD];done)|(simp only[RD];omega)) only [RN,Int.reduceBEq,Int.reduceBNe,Int.reduceLT,Int.reduceLE,Int.reduceAdd,Int.reduceSub,Int.reduceMul,Nat.reduceAdd,↓bc_flatz,↓bc_flat16,↓agg_bytez, p49]
  refine nl_sync h ?_
  simp -implicitDefEqProofs (maxSteps := 2000000) (disch := first|assumption|omega|rfl|(simp only[RD];done)|(simp only[RD];omega)) only [RN,Int.reduceBEq,Int.reduceBNe,Int.reduceLT,Int.reduceLE,Int.reduceAdd,Int.reduceSub,Int.reduceMul,Nat.reduceAdd,↓bc_flatz,↓bc_flat16,↓agg_bytez]
  exact hq
theorem nl_used (h : NL σ v) (hq : Q (.int .i64 0) σ) : Does Try.prog 13 [v] σ Q := by
  refine d13 ?_
  simp -implicitDefEqProofs (maxSteps := 2000000) (disch := first|assumption|omega|rfl|(simp only[RD];done)|(simp only[RD];omega)) only [RN,Int.reduceBEq,Int.reduceBNe,Int.reduceLT,Int.reduceLE,Int.reduceAdd,Int.reduceSub,Int.reduceMul,Nat.reduceAdd,↓bc_flatz,↓bc_flat16,↓agg_bytez, p13]
  refine nl_check h ?_
  simp -implicitDefEqProofs (maxSteps := 2000000) (disch := first|assumption|omega|rfl|(simp only[RD];done)|(simp only[RD];omega)) only [RN,Int.reduceBEq,Int.reduceBNe,Int.reduceLT,Int.reduceLE,Int.reduceAdd,Int.reduceSub,Int.reduceMul,Nat.reduceAdd,↓bc_flatz,↓bc_flat16,↓agg_bytez]
  exact hq
theorem nl_open (h : NL σ v) (hq : Q (.bool false) σ) : Does Try.prog 14 [v] σ Q := by
  refine d14 ?_
  simp -implicitDefEqProofs (maxSteps := 2000000) (disch := first|assumption|omega|rfl|(simp only[RD];done)|(simp only[RD];omega)) only [RN,Int.reduceBEq,Int.reduceBNe,Int.reduceLT,Int.reduceLE,Int.reduceAdd,Int.reduceSub,Int.reduceMul,Nat.reduceAdd,↓bc_flatz,↓bc_flat16,↓agg_bytez, p14]
  refine nl_check h ?_
  simp -implicitDefEqProofs (maxSteps := 2000000) (disch := first|assumption|omega|rfl|(simp only[RD];done)|(simp only[RD];omega)) only [RN,Int.reduceBEq,Int.reduceBNe,Int.reduceLT,Int.reduceLE,Int.reduceAdd,Int.reduceSub,Int.reduceMul,Nat.reduceAdd,↓bc_flatz,↓bc_flat16,↓agg_bytez]
  exact hq
theorem nl_commits (h : NL σ v) (hq : Q (.int .i64 0) σ) : Does Try.prog 12 [v] σ Q := by
  refine d12 ?_
  simp -implicitDefEqProofs (maxSteps := 2000000) (disch := first|assumption|omega|rfl|(simp only[RD];done)|(simp only[RD];omega)) only [RN,Int.reduceBEq,Int.reduceBNe,Int.reduceLT,Int.reduceLE,Int.reduceAdd,Int.reduceSub,Int.reduceMul,Nat.reduceAdd,↓bc_flatz,↓bc_flat16,↓agg_bytez, p12]
  refine nl_check h ?_
  simp -implicitDefEqProofs (maxSteps := 2000000) (disch := first|assumption|omega|rfl|(simp only[RD];done)|(simp only[RD];omega)) only [RN,Int.reduceBEq,Int.reduceBNe,Int.reduceLT,Int.reduceLE,Int.reduceAdd,Int.reduceSub,Int.reduceMul,Nat.reduceAdd,↓bc_flatz,↓bc_flat16,↓agg_bytez]
  exact hq
theorem nl_steps (h : NL σ v) (hq : Q (.int .i64 0) σ) : Does Try.prog 20 [v] σ Q := by
  refine d20 ?_
  simp -implicitDefEqProofs (maxSteps := 2000000) (disch := first|assumption|omega|rfl|(simp only[RD];done)|(simp only[RD];omega)) only [RN,Int.reduceBEq,Int.reduceBNe,Int.reduceLT,Int.reduceLE,Int.reduceAdd,Int.reduceSub,Int.reduceMul,Nat.reduceAdd,↓bc_flatz,↓bc_flat16,↓agg_bytez, p20]
  refine nl_check h ?_
  simp -implicitDefEqProofs (maxSteps := 2000000) (disch := first|assumption|omega|rfl|(simp only[RD];done)|(simp only[RD];omega)) only [RN,Int.reduceBEq,Int.reduceBNe,Int.reduceLT,Int.reduceLE,Int.reduceAdd,Int.reduceSub,Int.reduceMul,Nat.reduceAdd,↓bc_flatz,↓bc_flat16,↓agg_bytez]
  exact hq
def zlay : List Int := List.replicate 9 0
theorem nl_layout (h : NL σ v) (hq : ∀ σ', Keeps σ σ' → Q (.agg ⟨ic zlay⟩) σ') : Does Try.prog 50 [v] σ Q := by
  refine d50 ?_
  have u9 : unrle [(9, Value.int .i64 0)] = ic zlay := rfl
  have u3 : unrle [(3, Value.int .i64 0)] = ic [0, 0, 0] := rfl
  have lz : (ic zlay).length = 9 := rfl
  have l3 : (ic [0, 0, 0]).length = 3 := rfl
  have ef : ic [0, 0, 0] ++ [Value.int .i64 0, .int .i64 0, .int .i64 0, .int .i64 0, .int .i64 0, .int .i64 0] = ic zlay := rfl
  have k : Keeps σ (σ.push (.cells (ic zlay) none)) := (Keeps.refl _).push _
  simp -implicitDefEqProofs (maxSteps := 2000000) (disch := first|assumption|omega|rfl|(simp only[RD];done)|(simp only[RD];omega)) only [RN,Int.reduceBEq,Int.reduceBNe,Int.reduceLT,Int.reduceLE,Int.reduceAdd,Int.reduceSub,Int.reduceMul,Nat.reduceAdd,↓bc_flatz,↓bc_flat16,↓agg_bytez, p50, u9]
  refine nl_check (h.keeps k) ?_
  simp -implicitDefEqProofs (maxSteps := 2000000) (disch := first|assumption|omega|rfl|(simp only[RD];done)|(simp only[RD];omega)) only [RN,Int.reduceBEq,Int.reduceBNe,Int.reduceLT,Int.reduceLE,Int.reduceAdd,Int.reduceSub,Int.reduceMul,Nat.reduceAdd,↓bc_flatz,↓bc_flat16,↓agg_bytez, u3, ef, lz]
  exact hq _ k
theorem nl_write (h : NL σ v) (x : Int) {b : List Int} (hb : b.length = 1024) (hq : ∀ σ', Keeps σ σ' → Q (.int .i64 1) σ') : Does Try.prog 16 [v, .int .i64 x, .agg ⟨bc b⟩] σ Q := by
  refine d16 ?_
  have k : Keeps σ (σ.push (.cells (bc b) none)) := (Keeps.refl _).push _
  simp -implicitDefEqProofs (maxSteps := 2000000) (disch := first|assumption|omega|rfl|(simp only[RD];done)|(simp only[RD];omega)) only [RN,Int.reduceBEq,Int.reduceBNe,Int.reduceLT,Int.reduceLE,Int.reduceAdd,Int.reduceSub,Int.reduceMul,Nat.reduceAdd,↓bc_flatz,↓bc_flat16,↓agg_bytez, p16]
  refine nl_check (h.keeps k) ?_
  simp -implicitDefEqProofs (maxSteps := 2000000) (disch := first|assumption|omega|rfl|(simp only[RD];done)|(simp only[RD];omega)) only [RN,Int.reduceBEq,Int.reduceBNe,Int.reduceLT,Int.reduceLE,Int.reduceAdd,Int.reduceSub,Int.reduceMul,Nat.reduceAdd,↓bc_flatz,↓bc_flat16,↓agg_bytez]
  exact hq _ k
theorem nl_read (h : NL σ v) (x : Int) (hq : ∀ σ', Keeps σ σ' → Q (.tuple #[.agg ⟨bc zb⟩, .int .i64 1]) σ') : Does Try.prog 25 [v, .int .i64 x] σ Q := by
  refine d25 ?_
  have k : Keeps σ (σ.push (.cells (bc zb) none)) := (Keeps.refl _).push _
  simp -implicitDefEqProofs (maxSteps := 2000000) (disch := first|assumption|omega|rfl|(simp only[RD];done)|(simp only[RD];omega)) only [RN,Int.reduceBEq,Int.reduceBNe,Int.reduceLT,Int.reduceLE,Int.reduceAdd,Int.reduceSub,Int.reduceMul,Nat.reduceAdd,↓bc_flatz,↓bc_flat16,↓agg_bytez, p25]
  refine nl_check (h.keeps k) ?_
  simp -implicitDefEqProofs (maxSteps := 2000000) (disch := first|assumption|omega|rfl|(simp only[RD];done)|(simp only[RD];omega)) only [RN,Int.reduceBEq,Int.reduceBNe,Int.reduceLT,Int.reduceLE,Int.reduceAdd,Int.reduceSub,Int.reduceMul,Nat.reduceAdd,↓bc_flatz,↓bc_flat16,↓agg_bytez]
  exact hq _ k
theorem empty_ (h : NL σ v) (x : Int) {b : List Int} (hb : b.length = 1024) (hq : ∀ σ', Keeps σ σ' → Q (.bool true) σ') : Does Try.prog 30 [v, .int .i64 x, .agg ⟨bc b⟩] σ Q := by
  refine d30 ?_
  have k : Keeps σ (σ.push (.cells (bc b) none)) := (Keeps.refl _).push _
  have c : (σ.push (.cells (bc b) none)).get σ.next = some (.cells (bc b) none) := Store.get_push_same _ _
  simp -implicitDefEqProofs (maxSteps := 2000000) (disch := first|assumption|omega|rfl|(simp only[RD];done)|(simp only[RD];omega)) only [RN,Int.reduceBEq,Int.reduceBNe,Int.reduceLT,Int.reduceLE,Int.reduceAdd,Int.reduceSub,Int.reduceMul,Nat.reduceAdd,↓bc_flatz,↓bc_flat16,↓agg_bytez, p30]
  generalize σ.push (.cells (bc b) none) = s1 at k c ⊢
  refine nl_read (h.keeps k) x fun s2 k2 => ?_
  have c2 := k2.get c
  have h2 := (h.keeps k).keeps k2
  have k3 : Keeps s2 (s2.push (.cells (bc zb) none)) := (Keeps.refl _).push _
  have c3 : (s2.push (.cells (bc zb) none)).get s2.next = some (.cells (bc zb) none) := Store.get_push_same _ _
  have c4 := k3.get c2
  have h3 := h2.keeps k3
  have K3 := (k.trans k2).trans k3
  obtain ⟨s3, hs3⟩ : ∃ s3, s3 = s2.push (.cells (bc zb) none) := ⟨_, rfl⟩
  rw [← hs3] at k3 c3 c4 h3 K3
  have e2 := eqA_bc (n := 1024) false zb_len zb_len
  simp -implicitDefEqProofs (maxSteps := 2000000) (disch := first|assumption|omega|rfl|(simp only[RD];done)|(simp only[RD];omega)) only [RN,Int.reduceBEq,Int.reduceBNe,Int.reduceLT,Int.reduceLE,Int.reduceAdd,Int.reduceSub,Int.reduceMul,Nat.reduceAdd,↓bc_flatz,↓bc_flat16,↓agg_bytez]
  rw [← hs3]
  simp -implicitDefEqProofs (maxSteps := 2000000) (disch := first|assumption|omega|rfl|(simp only[RD];done)|(simp only[RD];omega)) only [RN,Int.reduceBEq,Int.reduceBNe,Int.reduceLT,Int.reduceLE,Int.reduceAdd,Int.reduceSub,Int.reduceMul,Nat.reduceAdd,↓bc_flatz,↓bc_flat16,↓agg_bytez, p30_4, c3, c4, e2, decide_eq_true (rfl : zb = zb), hb]
  refine nl_write h3 x hb fun s4 k4 => ?_
  have h4 := h3.keeps k4
  simp -implicitDefEqProofs (maxSteps := 2000000) (disch := first|assumption|omega|rfl|(simp only[RD];done)|(simp only[RD];omega)) only [RN,Int.reduceBEq,Int.reduceBNe,Int.reduceLT,Int.reduceLE,Int.reduceAdd,Int.reduceSub,Int.reduceMul,Nat.reduceAdd,↓bc_flatz,↓bc_flat16,↓agg_bytez]
  refine nl_begin h4 x ?_
  simp -implicitDefEqProofs (maxSteps := 2000000) (disch := first|assumption|omega|rfl|(simp only[RD];done)|(simp only[RD];omega)) only [RN,Int.reduceBEq,Int.reduceBNe,Int.reduceLT,Int.reduceLE,Int.reduceAdd,Int.reduceSub,Int.reduceMul,Nat.reduceAdd,↓bc_flatz,↓bc_flat16,↓agg_bytez, p30_3]
  refine nl_end h4 ?_
  simp -implicitDefEqProofs (maxSteps := 2000000) (disch := first|assumption|omega|rfl|(simp only[RD];done)|(simp only[RD];omega)) only [RN,Int.reduceBEq,Int.reduceBNe,Int.reduceLT,Int.reduceLE,Int.reduceAdd,Int.reduceSub,Int.reduceMul,Nat.reduceAdd,↓bc_flatz,↓bc_flat16,↓agg_bytez]
  refine nl_sync h4 ?_
  simp -implicitDefEqProofs (maxSteps := 2000000) (disch := first|assumption|omega|rfl|(simp only[RD];done)|(simp only[RD];omega)) only [RN,Int.reduceBEq,Int.reduceBNe,Int.reduceLT,Int.reduceLE,Int.reduceAdd,Int.reduceSub,Int.reduceMul,Nat.reduceAdd,↓bc_flatz,↓bc_flat16,↓agg_bytez]
  refine nl_close h4 ?_
  simp -implicitDefEqProofs (maxSteps := 2000000) (disch := first|assumption|omega|rfl|(simp only[RD];done)|(simp only[RD];omega)) only [RN,Int.reduceBEq,Int.reduceBNe,Int.reduceLT,Int.reduceLE,Int.reduceAdd,Int.reduceSub,Int.reduceMul,Nat.reduceAdd,↓bc_flatz,↓bc_flat16,↓agg_bytez, p30_2]
  refine nl_check h4 ?_
  simp -implicitDefEqProofs (maxSteps := 2000000) (disch := first|assumption|omega|rfl|(simp only[RD];done)|(simp only[RD];omega)) only [RN,Int.reduceBEq,Int.reduceBNe,Int.reduceLT,Int.reduceLE,Int.reduceAdd,Int.reduceSub,Int.reduceMul,Nat.reduceAdd,↓bc_flatz,↓bc_flat16,↓agg_bytez]
  refine nl_layout h4 fun s5 k5 => ?_
  have h5 := h4.keeps k5
  have u3 : unrle [(3, Value.int .i64 0)] = ic [0, 0, 0] := rfl
  have l3 : (ic [0, 0, 0]).length = 3 := rfl
  have ef : ic [0, 0, 0] ++ [Value.int .i64 0, .int .i64 0, .int .i64 0, .int .i64 0, .int .i64 0, .int .i64 0] = ic zlay := rfl
  have e6 : eqA layD false (.agg ⟨ic zlay⟩) (.agg ⟨ic zlay⟩) = some (.bool true) := by
    simp [eqA, layD, eqD, eqDs, ic, zlay, eqLeaf, eq1, List.replicate]
  unfold layD at e6
  simp -implicitDefEqProofs (maxSteps := 2000000) (disch := first|assumption|omega|rfl|(simp only[RD];done)|(simp only[RD];omega)) only [RN,Int.reduceBEq,Int.reduceBNe,Int.reduceLT,Int.reduceLE,Int.reduceAdd,Int.reduceSub,Int.reduceMul,Nat.reduceAdd,↓bc_flatz,↓bc_flat16,↓agg_bytez, u3, ef, e6]
  refine nl_used h5 ?_
  simp -implicitDefEqProofs (maxSteps := 2000000) (disch := first|assumption|omega|rfl|(simp only[RD];done)|(simp only[RD];omega)) only [RN,Int.reduceBEq,Int.reduceBNe,Int.reduceLT,Int.reduceLE,Int.reduceAdd,Int.reduceSub,Int.reduceMul,Nat.reduceAdd,↓bc_flatz,↓bc_flat16,↓agg_bytez, p30_1]
  refine nl_open h5 ?_
  simp -implicitDefEqProofs (maxSteps := 2000000) (disch := first|assumption|omega|rfl|(simp only[RD];done)|(simp only[RD];omega)) only [RN,Int.reduceBEq,Int.reduceBNe,Int.reduceLT,Int.reduceLE,Int.reduceAdd,Int.reduceSub,Int.reduceMul,Nat.reduceAdd,↓bc_flatz,↓bc_flat16,↓agg_bytez]
  refine nl_commits h5 ?_
  simp -implicitDefEqProofs (maxSteps := 2000000) (disch := first|assumption|omega|rfl|(simp only[RD];done)|(simp only[RD];omega)) only [RN,Int.reduceBEq,Int.reduceBNe,Int.reduceLT,Int.reduceLE,Int.reduceAdd,Int.reduceSub,Int.reduceMul,Nat.reduceAdd,↓bc_flatz,↓bc_flat16,↓agg_bytez]
  refine nl_steps h5 ?_
  simp -implicitDefEqProofs (maxSteps := 2000000) (disch := first|assumption|omega|rfl|(simp only[RD];done)|(simp only[RD];omega)) only [RN,Int.reduceBEq,Int.reduceBNe,Int.reduceLT,Int.reduceLE,Int.reduceAdd,Int.reduceSub,Int.reduceMul,Nat.reduceAdd,↓bc_flatz,↓bc_flat16,↓agg_bytez]
  exact hq _ ((K3.trans k4).trans k5)
theorem walnil_ (x : Int) {b : List Int} (hb : b.length = 1024) (g : Geo) (hq : ∀ σ', Keeps σ σ' → Q (.bool true) σ') : Does Try.prog 6 [.int .i64 x, .agg ⟨bc b⟩, .agg ⟨ic g.cells⟩] σ Q := by
  refine d6 ?_
  have l3 : (ic g.cells).length = 3 := rfl
  have hof : g.of.length = 9 := by unfold Geo.of; split <;> rfl
  obtain ⟨s1, hs1⟩ : ∃ s1, s1 = (σ.push (.cells (bc b) none)).push (.cells (ic g.cells) none) := ⟨_, rfl⟩
  have k1 : Keeps σ s1 := by rw [hs1]; exact ((Keeps.refl _).push _).push _
  have c1 : s1.get σ.next = some (.cells (bc b) none) := by rw [hs1]; simp -implicitDefEqProofs (maxSteps := 2000000) (disch := first|assumption|omega|rfl|(simp only[RD];done)|(simp only[RD];omega)) only [RN,Int.reduceBEq,Int.reduceBNe,Int.reduceLT,Int.reduceLE,Int.reduceAdd,Int.reduceSub,Int.reduceMul,Nat.reduceAdd,↓bc_flatz,↓bc_flat16,↓agg_bytez]
  have c2 : s1.get (σ.next + 1) = some (.cells (ic g.cells) none) := by rw [hs1]; simp -implicitDefEqProofs (maxSteps := 2000000) (disch := first|assumption|omega|rfl|(simp only[RD];done)|(simp only[RD];omega)) only [RN,Int.reduceBEq,Int.reduceBNe,Int.reduceLT,Int.reduceLE,Int.reduceAdd,Int.reduceSub,Int.reduceMul,Nat.reduceAdd,↓bc_flatz,↓bc_flat16,↓agg_bytez]
  simp -implicitDefEqProofs (maxSteps := 2000000) (disch := first|assumption|omega|rfl|(simp only[RD];done)|(simp only[RD];omega)) only [RN,Int.reduceBEq,Int.reduceBNe,Int.reduceLT,Int.reduceLE,Int.reduceAdd,Int.reduceSub,Int.reduceMul,Nat.reduceAdd,↓bc_flatz,↓bc_flat16,↓agg_bytez, p6, l3]
  rw [← hs1]
  clear hs1
  refine where_ ?_
  refine nd_new (.inl rfl) hof fun s2 k2 => ?_
  have c3 := k2.get c2
  simp -implicitDefEqProofs (maxSteps := 2000000) (disch := first|assumption|omega|rfl|(simp only[RD];done)|(simp only[RD];omega)) only [RN,Int.reduceBEq,Int.reduceBNe,Int.reduceLT,Int.reduceLE,Int.reduceAdd,Int.reduceSub,Int.reduceMul,Nat.reduceAdd,↓bc_flatz,↓bc_flat16,↓agg_bytez, c3, l3]
  refine where_ ?_
  refine nd_recover (.inl rfl) hof fun s3 k3 => ?_
  have c4 := k3.get c3
  have zd : ∀ st : Store, Keeps st (st.push (.cells [.int .i64 0, .map none, .map none, .slice none 0 0, .slice none 0 0, .int .i64 0, .bool false, .int .i64 0, .int .i64 0, .int .i64 0, .int .i64 0] none)) := fun st => (Keeps.refl _).push _
  have u1 : unrle [(1, Value.map none)] = [.map none] := rfl
  have u2 : unrle [(1, Value.slice none 0 0)] = [.slice none 0 0] := rfl
  have c5 := (zd s3).get c4
  have nd5 : ND (s3.push (.cells [.int .i64 0, .map none, .map none, .slice none 0 0, .slice none 0 0, .int .i64 0, .bool false, .int .i64 0, .int .i64 0, .int .i64 0, .int .i64 0] none)) (.pointer (some ⟨s3.next, 0, none⟩)) := .inr ⟨_, _, rfl, Store.get_push_same _ _, rfl⟩
  have K4 := ((k1.trans k2).trans k3).trans (zd s3)
  have d5 := (zd s3).get (k3.get (k2.get c1))
  obtain ⟨s4, hs4⟩ : ∃ s4, s4 = s3.push (.cells [.int .i64 0, .map none, .map none, .slice none 0 0, .slice none 0 0, .int .i64 0, .bool false, .int .i64 0, .int .i64 0, .int .i64 0, .int .i64 0] none) := ⟨_, rfl⟩
  rw [← hs4] at c5 nd5 K4 d5
  simp -implicitDefEqProofs (maxSteps := 2000000) (disch := first|assumption|omega|rfl|(simp only[RD];done)|(simp only[RD];omega)) only [RN,Int.reduceBEq,Int.reduceBNe,Int.reduceLT,Int.reduceLE,Int.reduceAdd,Int.reduceSub,Int.reduceMul,Nat.reduceAdd,↓bc_flatz,↓bc_flat16,↓agg_bytez, p6_3, u1, u2, c4]
  rw [← hs4]
  clear hs4
  simp -implicitDefEqProofs (maxSteps := 2000000) (disch := first|assumption|omega|rfl|(simp only[RD];done)|(simp only[RD];omega)) only [RN,Int.reduceBEq,Int.reduceBNe,Int.reduceLT,Int.reduceLE,Int.reduceAdd,Int.reduceSub,Int.reduceMul,Nat.reduceAdd,↓bc_flatz,↓bc_flat16,↓agg_bytez, c5, l3]
  refine where_ ?_
  refine nd_new nd5 hof fun s5 k5 => ?_
  have c6 := k5.get c5
  have c7 := (zd s5).get c6
  have nd7 : ND (s5.push (.cells [.int .i64 0, .map none, .map none, .slice none 0 0, .slice none 0 0, .int .i64 0, .bool false, .int .i64 0, .int .i64 0, .int .i64 0, .int .i64 0] none)) (.pointer (some ⟨s5.next, 0, none⟩)) := .inr ⟨_, _, rfl, Store.get_push_same _ _, rfl⟩
  have K6 := (K4.trans k5).trans (zd s5)
  have d7 := (zd s5).get (k5.get d5)
  obtain ⟨s6, hs6⟩ : ∃ s6, s6 = s5.push (.cells [.int .i64 0, .map none, .map none, .slice none 0 0, .slice none 0 0, .int .i64 0, .bool false, .int .i64 0, .int .i64 0, .int .i64 0, .int .i64 0] none) := ⟨_, rfl⟩
  rw [← hs6] at c7 nd7 K6 d7
  simp -implicitDefEqProofs (maxSteps := 2000000) (disch := first|assumption|omega|rfl|(simp only[RD];done)|(simp only[RD];omega)) only [RN,Int.reduceBEq,Int.reduceBNe,Int.reduceLT,Int.reduceLE,Int.reduceAdd,Int.reduceSub,Int.reduceMul,Nat.reduceAdd,↓bc_flatz,↓bc_flat16,↓agg_bytez, u1, u2, c6]
  rw [← hs6]
  clear hs6
  simp -implicitDefEqProofs (maxSteps := 2000000) (disch := first|assumption|omega|rfl|(simp only[RD];done)|(simp only[RD];omega)) only [RN,Int.reduceBEq,Int.reduceBNe,Int.reduceLT,Int.reduceLE,Int.reduceAdd,Int.reduceSub,Int.reduceMul,Nat.reduceAdd,↓bc_flatz,↓bc_flat16,↓agg_bytez, c7, l3]
  refine where_ ?_
  refine nd_recover nd7 hof fun s7 k7 => ?_
  simp -implicitDefEqProofs (maxSteps := 2000000) (disch := first|assumption|omega|rfl|(simp only[RD];done)|(simp only[RD];omega)) only [RN,Int.reduceBEq,Int.reduceBNe,Int.reduceLT,Int.reduceLE,Int.reduceAdd,Int.reduceSub,Int.reduceMul,Nat.reduceAdd,↓bc_flatz,↓bc_flat16,↓agg_bytez, p6_2]
  refine lives_ fun s8 k8 => ?_
  have K8 := (K6.trans k7).trans k8
  have c8 : s8.get σ.next = some (.cells (bc b) none) := k8.get (k7.get d7)
  simp -implicitDefEqProofs (maxSteps := 2000000) (disch := first|assumption|omega|rfl|(simp only[RD];done)|(simp only[RD];omega)) only [RN,Int.reduceBEq,Int.reduceBNe,Int.reduceLT,Int.reduceLE,Int.reduceAdd,Int.reduceSub,Int.reduceMul,Nat.reduceAdd,↓bc_flatz,↓bc_flat16,↓agg_bytez, p6_1, c8, hb]
  refine empty_ (.inl rfl) x hb fun s9 k9 => ?_
  have c9 := k9.get c8
  have u3 : unrle [(1, Value.slice none 0 0), (1, .map none)] = [.slice none 0 0, .map none] := rfl
  have u4 : unrle [(1, Value.pointer none)] = [.pointer none] := rfl
  have zl : ∀ (st : Store) (tl : List Value), Keeps st (st.push (.cells (Value.slice none 0 0 :: .map none :: .pointer none :: .pointer none :: tl) none)) := fun st tl => (Keeps.refl _).push _
  simp -implicitDefEqProofs (maxSteps := 2000000) (disch := first|assumption|omega|rfl|(simp only[RD];done)|(simp only[RD];omega)) only [RN,Int.reduceBEq,Int.reduceBNe,Int.reduceLT,Int.reduceLE,Int.reduceAdd,Int.reduceSub,Int.reduceMul,Nat.reduceAdd,↓bc_flatz,↓bc_flat16,↓agg_bytez, u1, u3, u4]
  have cA := (zl s9 (unrle [(9, Value.int .i64 0)] ++ [.int .i64 0, .bool false, .int .i64 0, .map none, .int .i64 0, .int .i64 0])).get c9
  have nlA : NL (s9.push (.cells (Value.slice none 0 0 :: .map none :: .pointer none :: .pointer none :: (unrle [(9, Value.int .i64 0)] ++ [.int .i64 0, .bool false, .int .i64 0, .map none, .int .i64 0, .int .i64 0])) none)) (.pointer (some ⟨s9.next, 0, none⟩)) := .inr ⟨_, _, rfl, Store.get_push_same _ _, rfl⟩
  have KA := (K8.trans k9).trans (zl s9 (unrle [(9, Value.int .i64 0)] ++ [.int .i64 0, .bool false, .int .i64 0, .map none, .int .i64 0, .int .i64 0]))
  generalize s9.push (.cells (Value.slice none 0 0 :: .map none :: .pointer none :: .pointer none :: (unrle [(9, Value.int .i64 0)] ++ [.int .i64 0, .bool false, .int .i64 0, .map none, .int .i64 0, .int .i64 0])) none) = sA at cA nlA KA ⊢
  simp -implicitDefEqProofs (maxSteps := 2000000) (disch := first|assumption|omega|rfl|(simp only[RD];done)|(simp only[RD];omega)) only [RN,Int.reduceBEq,Int.reduceBNe,Int.reduceLT,Int.reduceLE,Int.reduceAdd,Int.reduceSub,Int.reduceMul,Nat.reduceAdd,↓bc_flatz,↓bc_flat16,↓agg_bytez, cA, hb]
  refine empty_ nlA x hb fun sB kB => ?_
  exact hq _ (KA.trans kB)
end Go.Proofs.YtndjgidglnofbaaRRR
