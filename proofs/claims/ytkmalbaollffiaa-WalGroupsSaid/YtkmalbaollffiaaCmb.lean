/- WalCommit: a step whose blocks are noted in the order of the first changes. -/
import Derived.Test.YtkmalbaollffiaaCma
import Derived.Test.YtkmalbaollffiaaChg
set_option linter.all false
set_option maxRecDepth 100000
set_option maxHeartbeats 400000
namespace Go.Proofs.Ytkmalbaollffiaa
open Go.Am
variable {σ : Store} {Q : Value → Store → Prop} {g : Geo} {s : DS} {w : WS} {m : Nat} {l d nid : Nat} {F G B X : List Nat} {st sB : Store}
theorem commit_in (hW : WOk w) (hn : w.g.blocks ≤ s.n) : ∀ i b, DOp.w i b ∈ commitOps w.grp → 0 ≤ i ∧ i < s.n := fun i b hb => by
  have hg := hW.g
  unfold Geo.ok at hg
  have hm := hW.many
  have hd : w.g.dataAt = 1 + w.g.log + w.g.nodeBlocks + w.g.bitsBlocks := rfl
  have hnb : w.g.nodeBlocks = (w.g.inodes + 16) / 16 := rfl
  have hbb : w.g.bitsBlocks = (w.g.blocks + 8191) / 8192 := rfl
  simp only [commitOps, preOps, List.mem_append, List.mem_singleton] at hb
  rcases hb with (((((((hb | hb) | hb) | hb)) | hb) | hb) | hb) | hb
  · have := logOps_in _ i b hb; omega
  · cases hb
  · cases hb; omega
  · cases hb
  · have := putOps_in (a := 0) (z := s.n) (fun p hp => by have := hW.dom p hp; omega) _ (Nat.le_refl _) i b hb; exact this
  · cases hb
  · cases hb; omega
  · cases hb
theorem ex_mut {s4 : Store} {B' : List Nat} (L : Log st l d w s F) (D : Disk st d s G) (A : Apart F G) (AB : Apart (F ++ G) B) (U : Upd X sB st ((F ++ G) ++ B)) (nx : st.next ≤ s4.next) (hs : ∀ j, j < st.next → j ∉ B → s4.get j = st.get j) (hB : ∀ j ∈ B', (j ∈ B ∨ st.next ≤ j) ∧ j < s4.next) :
    ∃ F G, Log s4 l d w s F ∧ Disk s4 d s G ∧ Apart F G ∧ Apart (F ++ G) B' ∧ Upd X sB s4 ((F ++ G) ++ B') := by
  have hne : ∀ j ∈ F ++ G, j ∉ B := fun j hj e => AB j hj e
  have hlt : ∀ j ∈ F ++ G, j < st.next := fun j hj => by
    rcases List.mem_append.1 hj with h | h
    · exact L.lt j h
    · exact D.lt j h
  have e1 : ∀ j ∈ F ++ G, s4.get j = st.get j := fun j hj => hs j (hlt j hj) (hne j hj)
  refine ⟨F, G, L.same nx fun j hj => e1 j (List.mem_append_left _ hj), D.same fun j hj => e1 j (List.mem_append_right _ hj), A, fun j hj hb => ?_, Nat.le_trans U.next nx, fun j hj => ?_, fun j hj hx => ?_⟩
  · rcases (hB j hb).1 with h | h
    · exact AB j hj h
    · have := hlt j hj; omega
  · rcases List.mem_append.1 hj with h | h
    · have := U.ids j (List.mem_append_left _ h); exact ⟨by omega, this.2⟩
    · have h2 := hB j h
      refine ⟨h2.2, ?_⟩
      rcases h2.1 with h | h
      · exact (U.ids j (List.mem_append_right _ h)).2
      · exact .inr (Nat.le_trans U.next h)
  · rw [hs j (Nat.lt_of_lt_of_le hj U.next) fun hb => ?_, U.same j hj hx]
    rcases (U.ids j (List.mem_append_right _ hb)).2 with h | h
    · exact hx h
    · omega
/-- The size of a play of one step. -/
theorem lfits1_ {sv a : Value} {p : Option Addr} {n k : Nat} (ha : a = .slice p n k) (hv : SlR σ 1 sv 1 [a]) (hq : Q (.bool (decide (g.ok ∧ g.blocks ≤ 300 ∧ n ≤ 31))) σ) :
    Does Try.prog 7 [.agg ⟨playC g sv⟩] σ Q := by
  refine Does.pureT (r := .bool (decide (g.ok ∧ g.blocks ≤ 300 ∧ n ≤ 31))) ?_ rfl hq
  refine d7 ?_
  have hpl : playC g sv = [.int .i64 g.blocks, .int .i64 g.log, .int .i64 g.inodes, sv, .slice none 0 0, .int .i64 0, .slice none 0 0, .int .i64 0, .slice none 0 0] := rfl
  rw [hpl]
  have l9 : (ic g.of).length = 9 := by unfold Geo.of; split <;> rfl
  have u9 : (unrle [(9, .int .i64 0)]).length = 9 := rfl
  simp -implicitDefEqProofs (maxSteps := 2000000) (disch := first|assumption|omega|rfl|(simp only[RD];done)|(simp only[RD];omega)) only [RN,Int.reduceBEq,Int.reduceBNe,Int.reduceLT,Int.reduceLE,Int.reduceAdd,Int.reduceSub,Int.reduceMul,Nat.reduceAdd,↓bc_flatz,↓bc_flat16,↓agg_bytez, p7]
  obtain ⟨s1, hs1⟩ : ∃ s1, s1 = σ.push (.cells [.int .i64 g.blocks, .int .i64 g.log, .int .i64 g.inodes, sv, .slice none 0 0, .int .i64 0, .slice none 0 0, .int .i64 0, .slice none 0 0] none) := ⟨_, rfl⟩
  have k1 : Keeps σ s1 := by rw [hs1]; exact (Keeps.refl _).push _
  have c1 : s1.get σ.next = some (.cells [.int .i64 g.blocks, .int .i64 g.log, .int .i64 g.inodes, sv, .slice none 0 0, .int .i64 0, .slice none 0 0, .int .i64 0, .slice none 0 0] none) := by rw [hs1]; exact Store.get_push_same _ _
  rw [← hs1]
  have r3 : rdPart (some (.cells [.int .i64 g.blocks, .int .i64 g.log, .int .i64 g.inodes, sv, .slice none 0 0, .int .i64 0, .slice none 0 0, .int .i64 0, .slice none 0 0] none)) 0 3 = some (.agg ⟨ic g.cells⟩) := rfl
  simp -implicitDefEqProofs (maxSteps := 2000000) (disch := first|assumption|omega|rfl|(simp only[RD];done)|(simp only[RD];omega)) only [RN,Int.reduceBEq,Int.reduceBNe,Int.reduceLT,Int.reduceLE,Int.reduceAdd,Int.reduceSub,Int.reduceMul,Nat.reduceAdd,↓bc_flatz,↓bc_flat16,↓agg_bytez, c1, r3]
  refine rof_ ?_
  have hlt := Store.lt_of_get c1
  simp -implicitDefEqProofs (maxSteps := 2000000) (disch := first|assumption|omega|rfl|(simp only[RD];done)|(simp only[RD];omega)) only [RN,Int.reduceBEq,Int.reduceBNe,Int.reduceLT,Int.reduceLE,Int.reduceAdd,Int.reduceSub,Int.reduceMul,Nat.reduceAdd,↓bc_flatz,↓bc_flat16,↓agg_bytez, u9, l9]
  obtain ⟨s2, hs2⟩ : ∃ s2, s2 = s1.push (.cells (ic g.of) none) := ⟨_, rfl⟩
  have k2 : Keeps s1 s2 := by rw [hs2]; exact (Keeps.refl _).push _
  have c2 : s2.get σ.next = some (.cells [.int .i64 g.blocks, .int .i64 g.log, .int .i64 g.inodes, sv, .slice none 0 0, .int .i64 0, .slice none 0 0, .int .i64 0, .slice none 0 0] none) := k2.get c1
  rw [← hs2]
  have hv2 : SlR s2 1 sv 1 [a] := hv.keeps fun i o h => k2.get (k1.get h)
  by_cases hok : g.ok
  · have he : (g.err != 0) = false := by rw [show g.err = 0 from if_pos hok]; rfl
    by_cases h3 : 300 < g.blocks
    · simp -implicitDefEqProofs (maxSteps := 2000000) (disch := first|assumption|omega|rfl|(simp only[RD];done)|(simp only[RD];omega)) only [RN,Int.reduceBEq,Int.reduceBNe,Int.reduceLT,Int.reduceLE,Int.reduceAdd,Int.reduceSub,Int.reduceMul,Nat.reduceAdd,↓bc_flatz,↓bc_flat16,↓agg_bytez, he, c2, decide_eq_true h3]
      exact ⟨by rw [decide_eq_false (fun h => by omega)], k1.trans k2⟩
    · simp -implicitDefEqProofs (maxSteps := 2000000) (disch := first|assumption|omega|rfl|(simp only[RD];done)|(simp only[RD];omega)) only [RN,Int.reduceBEq,Int.reduceBNe,Int.reduceLT,Int.reduceLE,Int.reduceAdd,Int.reduceSub,Int.reduceMul,Nat.reduceAdd,↓bc_flatz,↓bc_flat16,↓agg_bytez, he, c2, decide_eq_false h3, hv2.len, decide_eq_false (show ¬ (40 : Int) < ((1 : Nat) : Int) by omega)]
      refine lop1 (fun k x st => ∃ i : Nat, k + i = 1 ∧ x = .int .i64 i ∧ st = s2 ∧ (i = 1 → n ≤ 31)) 1 ⟨0, rfl, rfl, rfl, fun h => by omega⟩ ?_
      rintro k' x st next ⟨i, hi, rfl, rfl, h31⟩ hnx
      by_cases h5 : (i : Int) < ((1 : Nat) : Int)
      · have h6 : i = 0 := by omega
        subst h6
        obtain ⟨a', o, q1, q2, q3, q4⟩ := hv2.at (by decide) (j := 0) (by decide)
        have q1' := q1 .i64
        have q4' : rdOne (st.get a') o = some (.slice p n k) := by rw [q4, ha]; rfl
        by_cases h7 : (31 : Int) < (n : Nat)
        · simp -implicitDefEqProofs (maxSteps := 2000000) (disch := first|assumption|omega|rfl|(simp only[RD];done)|(simp only[RD];omega)) only [RN,Int.reduceBEq,Int.reduceBNe,Int.reduceLT,Int.reduceLE,Int.reduceAdd,Int.reduceSub,Int.reduceMul,Nat.reduceAdd,↓bc_flatz,↓bc_flat16,↓agg_bytez, c2, hv2.len, decide_eq_true h5, q1', q4', decide_eq_true h7]
          exact ⟨by rw [decide_eq_false (fun h => by omega)], k1.trans k2⟩
        · simp -implicitDefEqProofs (maxSteps := 2000000) (disch := first|assumption|omega|rfl|(simp only[RD];done)|(simp only[RD];omega)) only [RN,Int.reduceBEq,Int.reduceBNe,Int.reduceLT,Int.reduceLE,Int.reduceAdd,Int.reduceSub,Int.reduceMul,Nat.reduceAdd,↓bc_flatz,↓bc_flat16,↓agg_bytez, c2, hv2.len, decide_eq_true h5, q1', q4', decide_eq_false h7]
          exact hnx _ _ (by omega) ⟨1, by omega, rfl, rfl, fun _ => by omega⟩
      · have h6 : i = 1 := by omega
        simp -implicitDefEqProofs (maxSteps := 2000000) (disch := first|assumption|omega|rfl|(simp only[RD];done)|(simp only[RD];omega)) only [RN,Int.reduceBEq,Int.reduceBNe,Int.reduceLT,Int.reduceLE,Int.reduceAdd,Int.reduceSub,Int.reduceMul,Nat.reduceAdd,↓bc_flatz,↓bc_flat16,↓agg_bytez, c2, hv2.len, decide_eq_false h5]
        exact ⟨by rw [decide_eq_true (show g.ok ∧ g.blocks ≤ 300 ∧ n ≤ 31 from ⟨hok, by omega, h31 h6⟩)], k1.trans k2⟩
  · have he : (g.err != 0) = true := by rw [show g.err = 2 from if_neg hok]; rfl
    simp -implicitDefEqProofs (maxSteps := 2000000) (disch := first|assumption|omega|rfl|(simp only[RD];done)|(simp only[RD];omega)) only [RN,Int.reduceBEq,Int.reduceBNe,Int.reduceLT,Int.reduceLE,Int.reduceAdd,Int.reduceSub,Int.reduceMul,Nat.reduceAdd,↓bc_flatz,↓bc_flat16,↓agg_bytez, he]
    exact ⟨by rw [decide_eq_false (fun h => hok h.1)], k1.trans k2⟩
/-- A step of a fresh log, as far as it is written; its blocks in the order of the first changes. -/
structure Sc (l d : Nat) (g : Geo) (r : Int) (A0 : List Nat) (sB : Store) (w : WS) (ov dv : Value) (st : Store) : Prop where
  ex : ∃ F G, Log st l d w (fresh0 g) F ∧ Disk st d (fresh0 g) G ∧ Apart F G ∧ Apart (F ++ G) (idsV ov ++ idsV dv) ∧ Upd A0 sB st ((F ++ G) ++ (idsV ov ++ idsV dv))
  so : SlG st 1 ov (ordL w.grp).length (ic (ordL w.grp))
  sd : SlG st 1024 dv (ordL w.grp).length (bc (dataF w.grp))
  ne : ∀ j ∈ idsV ov, j ∉ idsV dv
  wg : w.g = g
  wo : w.opn = true
  wr : w.room = r
  wm : w.mine = 1
  ord : ordL w.grp = w.wrote
  cnt : w.commits = 0 ∧ w.steps = 0
theorem Sc.ok {r : Int} {A0 : List Nat} {ov dv : Value} (h : Sc l d g r A0 sB w ov dv st) : WOk w := by
  obtain ⟨F, G, h1, _⟩ := h.ex
  exact h1.ok
end Go.Proofs.Ytkmalbaollffiaa
