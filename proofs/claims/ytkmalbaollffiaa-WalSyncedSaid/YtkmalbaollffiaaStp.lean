/- What the statements of chapter 08 on steps lean on: live disks, sizes, arrays of blocks. -/
import Derived.Test.YtkmalbaollffiaaL8c
set_option linter.all false
set_option maxRecDepth 100000
set_option maxHeartbeats 400000
namespace Go.Proofs.Ytkmalbaollffiaa
open Go.Am
variable {σ : Store} {Q : Value → Store → Prop} {g : Geo} {s : DS} {w : WS} {m : Nat}
/-- A disk that does not stop. -/
def DS.live (s : DS) : Prop := s.dead = false ∧ s.fuse < 0
theorem live_write (h : s.live) {i : Int} {b : List Int} (h0 : 0 ≤ i) (h1 : i < s.n) : (s.write i b).1 = 0 ∧ (s.write i b).2.live := by
  obtain ⟨hd, hf⟩ := h
  unfold DS.write
  rw [hd, if_neg (by simp), if_neg (by omega), if_neg (by omega)]
  refine ⟨rfl, ?_, ?_⟩
  · show s.burnt.dead = false
    unfold DS.burnt; rw [if_neg (by omega)]; exact hd
  · show s.burnt.fuse < 0
    unfold DS.burnt; rw [if_neg (by omega)]
    show (if 0 < s.fuse then s.fuse - 1 else s.fuse) < 0
    rw [if_neg (by omega)]; exact hf
theorem live_barrier (h : s.live) : s.barrier.1 = 0 ∧ s.barrier.2.live := by
  obtain ⟨hd, hf⟩ := h
  unfold DS.barrier
  rw [hd, if_neg (by simp), if_neg (by omega)]
  refine ⟨rfl, ?_, ?_⟩
  · show s.burnt.dead = false
    unfold DS.burnt; rw [if_neg (by omega)]; exact hd
  · show s.burnt.fuse < 0
    unfold DS.burnt; rw [if_neg (by omega)]
    show (if 0 < s.fuse then s.fuse - 1 else s.fuse) < 0
    rw [if_neg (by omega)]; exact hf
theorem live_run : ∀ {l : List DOp} {s : DS}, s.live → (∀ i b, DOp.w i b ∈ l → 0 ≤ i ∧ i < s.n) → (s.run l).1 = 0 ∧ (s.run l).2.live
  | [], s, h, _ => ⟨rfl, h⟩
  | o :: l, s, h, hl => by
    have ho : (s.op o).1 = 0 ∧ (s.op o).2.live := by
      cases o with
      | w i b => exact live_write h (hl i b (List.mem_cons_self ..)).1 (hl i b (List.mem_cons_self ..)).2
      | bar => exact live_barrier h
    rw [run_cons, if_pos ho.1]
    exact live_run ho.2 fun i b hb => by rw [op_n]; exact hl i b (List.mem_cons_of_mem _ hb)
theorem logOps_in {o : List (Int × List Int)} : ∀ n, ∀ i b, DOp.w i b ∈ logOps o n → 2 ≤ i ∧ i < 2 + n
  | 0, i, b, hb => by cases hb
  | n + 1, i, b, hb => by
    rcases List.mem_append.1 hb with hb | hb
    · have := logOps_in n i b hb; omega
    · have : i = 2 + n := by
        have h := List.mem_singleton.1 hb
        cases h; rfl
      omega
theorem putOps_in {o : List (Int × List Int)} {a z : Int} (h : ∀ p ∈ o, a ≤ p.1 ∧ p.1 < z) : ∀ n, n ≤ o.length → ∀ i b, DOp.w i b ∈ putOps o n → a ≤ i ∧ i < z
  | 0, _, i, b, hb => by cases hb
  | n + 1, hn, i, b, hb => by
    rcases List.mem_append.1 hb with hb | hb
    · exact putOps_in h n (by omega) i b hb
    · have e : o.getD n (0, []) = o[n] := by rw [List.getD_eq_getElem?_getD, List.getElem?_eq_getElem (show n < o.length by omega)]; rfl
      rw [e] at hb
      have hh := List.mem_singleton.1 hb
      cases hh
      exact h _ (List.getElem_mem _)
theorem commit_live (h : s.live) (hW : WOk w) (hn : w.g.blocks ≤ s.n) : (s.run (commitOps w.grp)).1 = 0 ∧ (s.run (commitOps w.grp)).2.live := by
  have hg := hW.g
  unfold Geo.ok at hg
  have hm := hW.many
  have hd : w.g.dataAt = 1 + w.g.log + w.g.nodeBlocks + w.g.bitsBlocks := rfl
  have hnb : w.g.nodeBlocks = (w.g.inodes + 16) / 16 := rfl
  have hbb : w.g.bitsBlocks = (w.g.blocks + 8191) / 8192 := rfl
  refine live_run h fun i b hb => ?_
  simp only [commitOps, preOps, List.mem_append, List.mem_singleton] at hb
  rcases hb with (((((((hb | hb) | hb) | hb)) | hb) | hb) | hb) | hb
  · have := logOps_in _ i b hb; omega
  · cases hb
  · cases hb; omega
  · cases hb
  · have := putOps_in (a := 0) (z := s.n) (fun p hp => by have := hW.dom p hp; omega) _ (Nat.le_refl _) i b hb; exact this
  · cases hb
  · cases hb; omega
  · cases hb
theorem commit_C' (h : s.C m) (hW : WOk w) : (s.run (commitOps w.grp)).2.C (m + 600) := by
  have := run_C h (commitOps_ok hW.len)
  rw [commitOps_len] at this
  have hm := hW.many
  have hg := hW.g
  unfold Geo.ok at hg
  exact this.le (by omega)
theorem fresh0_live {g : Geo} : (fresh0 g).live := ⟨rfl, by show (-1 : Int) < 0; decide⟩
/-- The size of a play. -/
def playC (g : Geo) (sv : Value) : List Value := ic g.cells ++ [sv, .slice none 0 0, .int .i64 0, .slice none 0 0, .int .i64 0, .slice none 0 0]
theorem lfits_ {sv : Value} {ls : List Value} (hv : SlR σ 1 sv ls.length ls) (hls : ∀ x ∈ ls, ∃ a n k, x = .slice a n k ∧ n ≤ 31) (h40 : ls.length ≤ 40) (hq : Q (.bool (decide (g.ok ∧ g.blocks ≤ 300))) σ) :
    Does Try.prog 7 [.agg ⟨playC g sv⟩] σ Q := by
  refine Does.pureT (r := .bool (decide (g.ok ∧ g.blocks ≤ 300))) ?_ rfl hq
  refine d7 ?_
  have hpl : playC g sv = [.int .i64 g.blocks, .int .i64 g.log, .int .i64 g.inodes, sv, .slice none 0 0, .int .i64 0, .slice none 0 0, .int .i64 0, .slice none 0 0] := rfl
  rw [hpl]
  have l9 : (ic g.of).length = 9 := by unfold Geo.of; split <;> rfl
  have u9 : (unrle [(9, .int .i64 0)]).length = 9 := rfl
  simp -implicitDefEqProofs (maxSteps := 2000000) (disch := first|assumption|omega|rfl|(simp only[RD];done)|(simp only[RD];omega)) only [RN,Int.reduceBEq,Int.reduceBNe,Int.reduceLT,Int.reduceLE,Int.reduceAdd,Int.reduceSub,Int.reduceMul,Nat.reduceAdd,↓bc_flatz,↓bc_flat16,↓agg_bytez, p7]
  obtain ⟨s1, hs1⟩ : ∃ s1, s1 = σ.push (.cells [.int .i64 g.blocks, .int .i64 g.log, .int .i64 g.inodes, sv, .slice none 0 0, .int .i64 0, .slice none 0 0, .int .i64 0, .slice none 0 0] none) := ⟨_, rfl⟩
  have k1 : Keeps σ s1 := by rw [hs1]; exact (Keeps.refl _).push _
  have c1 : s1.get σ.next = some (.cells [.int .i64 g.blocks, .int .i64 g.log, .int .i64 g.inodes, sv, .slice none 0 0, .int .i64 0, .slice none 0 0, .int .i64 0, .slice none 0 0] none) := by rw [hs1]; exact Store.get_push_same _ _
  rw [← hs1]
  have r3 : rdPart (some (.cells [.int .i64 g.blocks, .int .i64 g.log, .int .i64 g.inodes, sv, .slice none 0 0, .int .i64 0, .slice none 0 0, .int .i64 0, .slice none 0 0] none)) 0 3 = some (.agg ⟨ic g.cells⟩) := rfl
  simp -implicitDefEqProofs (maxSteps := 2000000) (disch := first|assumption|omega|rfl|(simp only[RD];done)|(simp only[RD];omega)) only [RN,Int.reduceBEq,Int.reduceBNe,Int.reduceLT,Int.reduceLE,Int.reduceAdd,Int.reduceSub,Int.reduceMul,Nat.reduceAdd,↓bc_flatz,↓bc_flat16,↓agg_bytez, c1, r3]
  refine rof_ ?_
  have hlt := Store.lt_of_get c1
  simp -implicitDefEqProofs (maxSteps := 2000000) (disch := first|assumption|omega|rfl|(simp only[RD];done)|(simp only[RD];omega)) only [RN,Int.reduceBEq,Int.reduceBNe,Int.reduceLT,Int.reduceLE,Int.reduceAdd,Int.reduceSub,Int.reduceMul,Nat.reduceAdd,↓bc_flatz,↓bc_flat16,↓agg_bytez, u9, l9]
  obtain ⟨s2, hs2⟩ : ∃ s2, s2 = s1.push (.cells (ic g.of) none) := ⟨_, rfl⟩
  have k2 : Keeps s1 s2 := by rw [hs2]; exact (Keeps.refl _).push _
  have c2 : s2.get σ.next = some (.cells [.int .i64 g.blocks, .int .i64 g.log, .int .i64 g.inodes, sv, .slice none 0 0, .int .i64 0, .slice none 0 0, .int .i64 0, .slice none 0 0] none) := k2.get c1
  rw [← hs2]
  have hv2 : SlR s2 1 sv ls.length ls := hv.keeps fun i o h => k2.get (k1.get h)
  by_cases hok : g.ok
  · have he : (g.err != 0) = false := by rw [show g.err = 0 from if_pos hok]; rfl
    by_cases h3 : 300 < g.blocks
    · simp -implicitDefEqProofs (maxSteps := 2000000) (disch := first|assumption|omega|rfl|(simp only[RD];done)|(simp only[RD];omega)) only [RN,Int.reduceBEq,Int.reduceBNe,Int.reduceLT,Int.reduceLE,Int.reduceAdd,Int.reduceSub,Int.reduceMul,Nat.reduceAdd,↓bc_flatz,↓bc_flat16,↓agg_bytez, he, c2, decide_eq_true h3]
      exact ⟨by rw [decide_eq_false (fun h => by omega)], k1.trans k2⟩
    · simp -implicitDefEqProofs (maxSteps := 2000000) (disch := first|assumption|omega|rfl|(simp only[RD];done)|(simp only[RD];omega)) only [RN,Int.reduceBEq,Int.reduceBNe,Int.reduceLT,Int.reduceLE,Int.reduceAdd,Int.reduceSub,Int.reduceMul,Nat.reduceAdd,↓bc_flatz,↓bc_flat16,↓agg_bytez, he, c2, decide_eq_false h3, hv2.len, decide_eq_false (show ¬ (40 : Int) < (ls.length : Nat) by omega)]
      refine lop1 (fun k x st => ∃ i : Nat, k + i = ls.length ∧ x = .int .i64 i ∧ st = s2) ls.length ⟨0, rfl, rfl, rfl⟩ ?_
      rintro k x st next ⟨i, hi, rfl, rfl⟩ hnx
      by_cases h5 : (i : Int) < ls.length
      · have h6 : i < ls.length := by omega
        obtain ⟨a, o, q1, q2, q3, q4⟩ := hv2.at (by decide) h6
        obtain ⟨b, n, k', hx, hn⟩ := hls ls[i] (List.getElem_mem _)
        rw [Nat.mul_one, List.getElem?_eq_getElem h6, hx] at q4
        have q1' := q1 .i64
        have h7 : ¬ (31 : Int) < (n : Nat) := by omega
        simp -implicitDefEqProofs (maxSteps := 2000000) (disch := first|assumption|omega|rfl|(simp only[RD];done)|(simp only[RD];omega)) only [RN,Int.reduceBEq,Int.reduceBNe,Int.reduceLT,Int.reduceLE,Int.reduceAdd,Int.reduceSub,Int.reduceMul,Nat.reduceAdd,↓bc_flatz,↓bc_flat16,↓agg_bytez, c2, hv2.len, decide_eq_true h5, q1', q4, decide_eq_false h7]
        exact hnx _ _ (by omega) ⟨i + 1, by omega, by congr 1, rfl⟩
      · simp -implicitDefEqProofs (maxSteps := 2000000) (disch := first|assumption|omega|rfl|(simp only[RD];done)|(simp only[RD];omega)) only [RN,Int.reduceBEq,Int.reduceBNe,Int.reduceLT,Int.reduceLE,Int.reduceAdd,Int.reduceSub,Int.reduceMul,Nat.reduceAdd,↓bc_flatz,↓bc_flat16,↓agg_bytez, c2, hv2.len, decide_eq_false h5]
        exact ⟨by rw [decide_eq_true (show g.ok ∧ g.blocks ≤ 300 from ⟨hok, by omega⟩)], k1.trans k2⟩
  · have he : (g.err != 0) = true := by rw [show g.err = 2 from if_neg hok]; rfl
    simp -implicitDefEqProofs (maxSteps := 2000000) (disch := first|assumption|omega|rfl|(simp only[RD];done)|(simp only[RD];omega)) only [RN,Int.reduceBEq,Int.reduceBNe,Int.reduceLT,Int.reduceLE,Int.reduceAdd,Int.reduceSub,Int.reduceMul,Nat.reduceAdd,↓bc_flatz,↓bc_flat16,↓agg_bytez, he]
    exact ⟨by rw [decide_eq_false (fun h => hok h.1)], k1.trans k2⟩
