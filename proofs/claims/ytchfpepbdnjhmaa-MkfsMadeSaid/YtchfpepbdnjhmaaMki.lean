/- Contract of mkfs.inodes. -/
import Derived.Test.YtchfpepbdnjhmaaMk
set_option linter.all false
set_option maxRecDepth 100000
set_option maxHeartbeats 400000
namespace Go.Proofs.Ytchfpepbdnjhmaa
open Go.Am
variable {σ : Store} {Q : Value → Store → Prop}
def rootN (g : Geo) : Nd := ⟨2, 2, 32, 1, IntKind.u32.wrap g.dataAt :: List.replicate 9 0, 0, 0⟩
/-- The bytes of the inodes' blocks. -/
def inoL (g : Geo) (n : Nat) : List Int := layB (List.replicate (n * 1024) 0) 64 (rootN g).bytes
theorem inoL_len {g : Geo} {n : Nat} (hn : 1 ≤ n) : (inoL g n).length = n * 1024 := by
  unfold inoL
  rw [layB_len (by rw [Nd.bytes_len, List.length_replicate]; omega), List.length_replicate]
theorem layB_step {t : List Int} {j : Nat} (ht : t.length = 1024) (hj : j < 16) : layB (t.take (64 * j) ++ zb.drop (64 * j)) (64 * j) ((t.drop (64 * j)).take 64) = t.take (64 * (j + 1)) ++ zb.drop (64 * (j + 1)) := by
  have hz := zb_len
  have e1 : ((t.drop (64 * j)).take 64).length = 64 := by rw [List.length_take, List.length_drop]; omega
  have e2 : (t.take (64 * j)).length = 64 * j := by rw [List.length_take]; omega
  unfold layB
  rw [e1, List.take_left' e2, List.drop_append, List.drop_drop, e2]
  have e3 : (t.take (64 * j)).drop (64 * j + 64) = [] := List.drop_of_length_le (by omega)
  rw [e3, List.nil_append]
  have e4 : 64 * (j + 1) = 64 * j + 64 := by omega
  rw [e4, List.take_add]
  congr 2
  omega
theorem splice_bc (b l : List Int) (o : Nat) : splice (bc b) o (bc l) = bc (layB b o l) := by
  unfold splice layB
  cases o with
  | zero => simp [bc_drop, bc_app]
  | succ o => simp [bc_drop, bc_app, bc_take]
theorem store_bytes {i o n : Nat} {b l : List Int} {g : Option Nat} {σ : Store} (h : σ.get i = some (.cells (bc b) g)) (hl : l.length = n) (hb : o + n ≤ b.length) : storeV n (.pointer (some ⟨i, o, none⟩)) (.agg ⟨bc l⟩) σ = some (junk, σ.put i (some (.cells (bc (layB b o l)) g))) := by
  rw [store_cells h (vs := bc l) (by simp [asCells, cellsL, hl]) (by rw [bc_len]; exact hb), splice_bc]
theorem inodes_ {g : Geo} (hg : g.ok) (hq : ∀ σ' w, Keeps σ σ' → SlR σ' 1024 w g.nodeBlocks.toNat (blksC (chunk g.nodeBlocks.toNat (inoL g g.nodeBlocks.toNat))) → (∀ i ∈ idsV w, σ.next ≤ i ∧ i < σ'.next) → Q (.agg ⟨[.int .i64 (1 + g.log), w]⟩) σ') : Does Try.prog 27 [.agg ⟨ic g.lay⟩] σ Q := by
  refine d27 ?_
  have hg' := hg
  unfold Geo.ok at hg'
  have hnb : g.nodeBlocks = (g.inodes + 16) / 16 := rfl
  obtain ⟨nb, hnb'⟩ : ∃ nb : Nat, g.nodeBlocks = nb := ⟨g.nodeBlocks.toNat, by omega⟩
  have hnb2 : nb ≤ 5000 := by omega
  have hnb1 : 1 ≤ nb := by omega
  have e1 : ic g.lay = [.int .i64 g.blocks, .int .i64 g.log, .int .i64 g.inodes, .int .i64 1, .int .i64 (1 + g.log), .int .i64 (nb : Nat), .int .i64 g.bitsAt, .int .i64 g.bitsBlocks, .int .i64 g.dataAt] := by rw [← hnb']; rfl
  have u2 : (unrle [(1, .int .i64 0), (1, .slice none 0 0)]) = [.int .i64 0, .slice none 0 0] := rfl
  rw [hnb', Int.toNat_natCast] at hq
  rw [e1]
  have mk := make_blocks (n := nb) (k := .i64) (by omega)
  have u16 : (unrle [(2, Value.int IntKind.u16 0), (14, Value.int IntKind.u32 0)]).length = 16 := rfl
  have u10 : unrle [(10, Value.int IntKind.u32 0)] = [.int .u32 0, .int .u32 0, .int .u32 0, .int .u32 0, .int .u32 0, .int .u32 0, .int .u32 0, .int .u32 0, .int .u32 0, .int .u32 0] := rfl
  have nc : (rootN g).cells = [.int .u16 2, .int .u16 2, .int .u32 32, .int .u32 1, .int .u32 (IntKind.u32.wrap g.dataAt), .int .u32 0, .int .u32 0, .int .u32 0, .int .u32 0, .int .u32 0, .int .u32 0, .int .u32 0, .int .u32 0, .int .u32 0, .int .u32 0, .int .u32 0] := rfl
  simp -implicitDefEqProofs (maxSteps := 2000000) (disch := first|assumption|omega|rfl|(simp only[RD];done)|(simp only[RD];omega)) only [RN,Int.reduceBEq,Int.reduceBNe,Int.reduceLT,Int.reduceLE,Int.reduceAdd,Int.reduceSub,Int.reduceMul,Nat.reduceAdd,↓bc_flatz,↓bc_flat16,↓agg_bytez, p27]
  simp -implicitDefEqProofs (maxSteps := 2000000) (disch := first|assumption|omega|rfl|(simp only[RD];done)|(simp only[RD];omega)) only [RN,Int.reduceBEq,Int.reduceBNe,Int.reduceLT,Int.reduceLE,Int.reduceAdd,Int.reduceSub,Int.reduceMul,Nat.reduceAdd,↓bc_flatz,↓bc_flat16,↓agg_bytez, p27_4, u2, mk, u10, u16, Int.toNat_zero, Nat.zero_mul]
  have l16 : (rootN g).cells.length = 16 := rfl
  simp -implicitDefEqProofs (maxSteps := 2000000) (disch := first|assumption|omega|rfl|(simp only[RD];done)|(simp only[RD];omega)) only [RN,Int.reduceBEq,Int.reduceBNe,Int.reduceLT,Int.reduceLE,Int.reduceAdd,Int.reduceSub,Int.reduceMul,Nat.reduceAdd,↓bc_flatz,↓bc_flat16,↓agg_bytez, p27_3, ← nc, Int.toNat_zero, Int.toNat_one, Nat.zero_mul, Nat.one_mul, l16]
  refine node_ (n := rootN g) rfl ?_
  have bl : (rootN g).bytes.length = 64 := Nd.bytes_len _
  have b0 : (bitI nb 0).length = nb * 1024 := bitI_len nb 0
  rw [store_bytes (b := bitI nb 0) (l := (rootN g).bytes) (g := none) (by simp -implicitDefEqProofs (maxSteps := 2000000) (disch := first|assumption|omega|rfl|(simp only[RD];done)|(simp only[RD];omega)) only [RN,Int.reduceBEq,Int.reduceBNe,Int.reduceLT,Int.reduceLE,Int.reduceAdd,Int.reduceSub,Int.reduceMul,Nat.reduceAdd,↓bc_flatz,↓bc_flat16,↓agg_bytez]) bl (by omega)]
  have eL : layB (bitI nb 0) 64 (rootN g).bytes = inoL g nb := rfl
  rw [eL]
  have hL := inoL_len (g := g) hnb1
  simp -implicitDefEqProofs (maxSteps := 2000000) (disch := first|assumption|omega|rfl|(simp only[RD];done)|(simp only[RD];omega)) only [RN,Int.reduceBEq,Int.reduceBNe,Int.reduceLT,Int.reduceLE,Int.reduceAdd,Int.reduceSub,Int.reduceMul,Nat.reduceAdd,↓bc_flatz,↓bc_flat16,↓agg_bytez, u2]
  refine lop1 (fun k v st => ∃ (i : Nat) (w : Value), k + i = nb ∧ v = .int .i64 i ∧ Keeps σ st ∧ st.get (σ.next + 1) = some (.cells [.int .i64 0, .slice none 0 0] none) ∧ st.get (σ.next + 1 + 1) = some (.cells (bc (inoL g nb)) none) ∧ st.get (σ.next + 1 + 1 + 1 + 1) = some (.cells [.int .i64 (1 + g.log), w] none) ∧ SlG st 1024 w i (bc ((inoL g nb).take (i * 1024))) ∧ (∀ x ∈ idsV w, σ.next + 5 ≤ x) ∧ σ.next + 5 ≤ st.next) nb ⟨0, .slice none 0 0, rfl, rfl, ?_, ?_, ?_, ?_, ?_, ?_, ?_⟩ ?_
  · exact (((((Keeps.refl σ).push _).push _).push _).push _).push _
  · simp -implicitDefEqProofs (maxSteps := 2000000) (disch := first|assumption|omega|rfl|(simp only[RD];done)|(simp only[RD];omega)) only [RN,Int.reduceBEq,Int.reduceBNe,Int.reduceLT,Int.reduceLE,Int.reduceAdd,Int.reduceSub,Int.reduceMul,Nat.reduceAdd,↓bc_flatz,↓bc_flat16,↓agg_bytez]
  · simp -implicitDefEqProofs (maxSteps := 2000000) (disch := first|assumption|omega|rfl|(simp only[RD];done)|(simp only[RD];omega)) only [RN,Int.reduceBEq,Int.reduceBNe,Int.reduceLT,Int.reduceLE,Int.reduceAdd,Int.reduceSub,Int.reduceMul,Nat.reduceAdd,↓bc_flatz,↓bc_flat16,↓agg_bytez]
  · simp -implicitDefEqProofs (maxSteps := 2000000) (disch := first|assumption|omega|rfl|(simp only[RD];done)|(simp only[RD];omega)) only [RN,Int.reduceBEq,Int.reduceBNe,Int.reduceLT,Int.reduceLE,Int.reduceAdd,Int.reduceSub,Int.reduceMul,Nat.reduceAdd,↓bc_flatz,↓bc_flat16,↓agg_bytez]
  · rw [Nat.zero_mul, List.take_zero]; exact SlG.nil
  · intro x hx; simp [idsV] at hx
  · simp only [Store.next_push]; omega
  rintro k v st next ⟨i, w, hi, rfl, hk, h1, h2, h3, hw, hwi, hn⟩ hnx
  by_cases h5 : i < nb
  · have hbk : (((bc (inoL g nb)).drop (i * 1024)).take 1024) = bc (((inoL g nb).drop (i * 1024)).take 1024) := by rw [bc_drop, bc_take]
    obtain ⟨t, ht⟩ : ∃ t, t = ((inoL g nb).drop (i * 1024)).take 1024 := ⟨_, rfl⟩
    have hi2 : i * 1024 + 1024 ≤ (inoL g nb).length := by omega
    have htl : t.length = 1024 := by rw [ht, List.length_take, List.length_drop]; omega
    have hrd : rdPart (some (.cells (bc (inoL g nb)) none)) (i * 1024) 1024 = some (.agg ⟨bc t⟩) := by rw [rdPart_bc hi2, ht]
    simp -implicitDefEqProofs (maxSteps := 2000000) (disch := first|assumption|omega|rfl|(simp only[RD];done)|(simp only[RD];omega)) only [RN,Int.reduceBEq,Int.reduceBNe,Int.reduceLT,Int.reduceLE,Int.reduceAdd,Int.reduceSub,Int.reduceMul,Nat.reduceAdd,↓bc_flatz,↓bc_flat16,↓agg_bytez, decide_eq_true (show ((i : Nat) : Int) < (nb : Nat) by omega), h2]
    simp -implicitDefEqProofs (maxSteps := 2000000) (disch := first|assumption|omega|rfl|(simp only[RD];done)|(simp only[RD];omega)) only [RN,Int.reduceBEq,Int.reduceBNe,Int.reduceLT,Int.reduceLE,Int.reduceAdd,Int.reduceSub,Int.reduceMul,Nat.reduceAdd,↓bc_flatz,↓bc_flat16,↓agg_bytez, p27_2, h2, Int.toNat_natCast, hrd, htl]
    refine lop1 (fun k2 v2 st2 => ∃ (j : Nat), k2 + j = 16 ∧ v2 = .int .i64 j ∧ Keeps st st2 ∧ st2.get (st.next + 1) = some (.cells (bc (t.take (64 * j) ++ zb.drop (64 * j))) none) ∧ st.next + 2 ≤ st2.next) 16 ⟨0, rfl, rfl, ?_, ?_, ?_⟩ ?_
    · exact ((Keeps.refl st).push _).push _
    · simp -implicitDefEqProofs (maxSteps := 2000000) (disch := first|assumption|omega|rfl|(simp only[RD];done)|(simp only[RD];omega)) only [RN,Int.reduceBEq,Int.reduceBNe,Int.reduceLT,Int.reduceLE,Int.reduceAdd,Int.reduceSub,Int.reduceMul,Nat.reduceAdd,↓bc_flatz,↓bc_flat16,↓agg_bytez]
      simp
    · simp only [Store.next_push]; omega
    rintro k2 v2 st2 next2 ⟨j, hj, rfl, hk2, g1, gn⟩ hnx2
    by_cases h7 : j < 16
    · have x1 : indexA true 64 16 (.agg ⟨bc t⟩) (.int .i64 (j : Nat)) = some (.agg ⟨bc ((t.drop (64 * j)).take 64)⟩) := by
        rw [indexN h7 (by rw [bc_len, htl]; omega), bc_drop, bc_take, Nat.mul_comm]
      have bl2 : ((t.drop (64 * j)).take 64).length = 64 := by rw [List.length_take, List.length_drop]; omega
      have hjj : ((j : Nat) : Int) * 64 = ((64 * j : Nat) : Int) := by omega
      have s1 : sliceAr 1024 1 (.pointer (some ⟨st.next + 1, 0, none⟩)) (some (.int .i64 ((64 * j : Nat) : Int))) none = some (.slice (some ⟨st.next + 1, 64 * j, none⟩) (1024 - 64 * j) (1024 - 64 * j)) := by
        have := slice_from (n := 1024) (m := 64 * j) (b := st.next + 1) (o := 0) (by omega)
        rw [Nat.zero_add] at this
        exact this
      have s2 : sliceAr 64 1 (.pointer (some ⟨st2.next, 0, none⟩)) none none = some (.slice (some ⟨st2.next, 0, none⟩) 64 64) := slice_all (by omega)
      have tl : (t.take (64 * j) ++ zb.drop (64 * j)).length = 1024 := by rw [List.length_append, List.length_take, List.length_drop, zb_len]; omega
      have s3 := copy_bytes (i := st.next + 1) (j := st2.next) (o := 64 * j) (nd := 1024 - 64 * j) (cd := 1024 - 64 * j) (ns := 64) (cs' := 64) (b := t.take (64 * j) ++ zb.drop (64 * j)) (l := (t.drop (64 * j)).take 64) (g := none) (σ := st2.push (.cells (bc ((t.drop (64 * j)).take 64)) none)) (by simp -implicitDefEqProofs (maxSteps := 2000000) (disch := first|assumption|omega|rfl|(simp only[RD];done)|(simp only[RD];omega)) only [RN,Int.reduceBEq,Int.reduceBNe,Int.reduceLT,Int.reduceLE,Int.reduceAdd,Int.reduceSub,Int.reduceMul,Nat.reduceAdd,↓bc_flatz,↓bc_flat16,↓agg_bytez, g1]) (by simp -implicitDefEqProofs (maxSteps := 2000000) (disch := first|assumption|omega|rfl|(simp only[RD];done)|(simp only[RD];omega)) only [RN,Int.reduceBEq,Int.reduceBNe,Int.reduceLT,Int.reduceLE,Int.reduceAdd,Int.reduceSub,Int.reduceMul,Nat.reduceAdd,↓bc_flatz,↓bc_flat16,↓agg_bytez]) bl2.symm (by omega) (by omega)
      rw [layB_step htl h7] at s3
      simp -implicitDefEqProofs (maxSteps := 2000000) (disch := first|assumption|omega|rfl|(simp only[RD];done)|(simp only[RD];omega)) only [RN,Int.reduceBEq,Int.reduceBNe,Int.reduceLT,Int.reduceLE,Int.reduceAdd,Int.reduceSub,Int.reduceMul,Nat.reduceAdd,↓bc_flatz,↓bc_flat16,↓agg_bytez, decide_eq_true (show ((j : Nat) : Int) < 16 by omega)]
      simp -implicitDefEqProofs (maxSteps := 2000000) (disch := first|assumption|omega|rfl|(simp only[RD];done)|(simp only[RD];omega)) only [RN,Int.reduceBEq,Int.reduceBNe,Int.reduceLT,Int.reduceLE,Int.reduceAdd,Int.reduceSub,Int.reduceMul,Nat.reduceAdd,↓bc_flatz,↓bc_flat16,↓agg_bytez, p27_1, x1, bl2, hjj, s1, s2, s3]
      refine hnx2 _ _ (by omega) ⟨j + 1, by omega, by congr 1, (hk2.put _ (by omega)).push _, ?_, ?_⟩
      · simp -implicitDefEqProofs (maxSteps := 2000000) (disch := first|assumption|omega|rfl|(simp only[RD];done)|(simp only[RD];omega)) only [RN,Int.reduceBEq,Int.reduceBNe,Int.reduceLT,Int.reduceLE,Int.reduceAdd,Int.reduceSub,Int.reduceMul,Nat.reduceAdd,↓bc_flatz,↓bc_flat16,↓agg_bytez]
      · simp only [Store.next_push, next_max]; omega
    · have e : j = 16 := by omega
      subst e
      have tt : t.take (64 * 16) ++ zb.drop (64 * 16) = t := by
        rw [List.take_of_length_le (by omega), List.drop_of_length_le (by rw [zb_len]; omega), List.append_nil]
      rw [tt] at g1
      have h3' : st2.get (σ.next + 1 + 1 + 1 + 1) = some (.cells [.int .i64 (1 + g.log), w] none) := by rw [hk2.2 _ (by omega), h3]
      have hw2 : SlG st2 1024 w i (bc ((inoL g nb).take (i * 1024))) := hw.same fun x hx => hk2.2 x (hw.lt x hx)
      obtain ⟨s7, r1, r2, r3, r4⟩ := SlG.app (j := st2.next) (k := 1) (gj := none) (by_ := 1024) (hw2.same (σ' := st2.push (.cells (bc t) none)) fun x hx => get_push_ne (hw2.lt x hx)) (Store.get_push_same _ _) (by rw [bc_len, htl]) (by omega) (by omega) (by omega)
      have hwx : ∀ y, y < σ.next + 5 → y ∉ idsV w := fun y hy hx => by have := hwi y hx; omega
      have f6 : s7.get (σ.next + 1 + 1 + 1 + 1) = some (.cells [.int .i64 (1 + g.log), w] none) := by
        rw [r4 _ (by rw [Store.next_push]; omega) (hwx _ (by omega)), get_push_ne (by omega), h3']
      simp -implicitDefEqProofs (maxSteps := 2000000) (disch := first|assumption|omega|rfl|(simp only[RD];done)|(simp only[RD];omega)) only [RN,Int.reduceBEq,Int.reduceBNe,Int.reduceLT,Int.reduceLE,Int.reduceAdd,Int.reduceSub,Int.reduceMul,Nat.reduceAdd,↓bc_flatz,↓bc_flat16,↓agg_bytez, decide_eq_false (show ¬ ((16 : Nat) : Int) < 16 by omega)]
      simp -implicitDefEqProofs (maxSteps := 2000000) (disch := first|assumption|omega|rfl|(simp only[RD];done)|(simp only[RD];omega)) only [RN,Int.reduceBEq,Int.reduceBNe,Int.reduceLT,Int.reduceLE,Int.reduceAdd,Int.reduceSub,Int.reduceMul,Nat.reduceAdd,↓bc_flatz,↓bc_flat16,↓agg_bytez, p27_1, h3', g1, htl, r1, f6]
      rw [Store.next_push] at r2 r3 r4
      have hkk : Keeps σ s7 := ⟨by have := hk.1; have := hk2.1; omega, fun y hy => by rw [r4 y (by have := hk.1; have := hk2.1; omega) (hwx y (by omega)), get_push_ne (by have := hk.1; have := hk2.1; omega), hk2.2 y (by have := hk.1; omega), hk.2 y hy]⟩
      refine hnx _ _ (by omega) ⟨i + 1, .slice (some ⟨st2.next + 1, 0, some 1024⟩) (i + 1) (i + 1), by omega, by congr 1, hkk.put _ (by omega), ?_, ?_, ?_, ?_, ?_, ?_⟩
      · rw [get_put_ne' (by omega), r4 _ (by omega) (hwx _ (by omega)), get_push_ne (by omega), hk2.2 _ (by omega), h1]
      · rw [get_put_ne' (by omega), r4 _ (by omega) (hwx _ (by omega)), get_push_ne (by omega), hk2.2 _ (by omega), h2]
      · rw [Store.get_put_same]
      · have ec : bc ((inoL g nb).take (i * 1024)) ++ bc t = bc ((inoL g nb).take ((i + 1) * 1024)) := by
          rw [bc_app, ht, Nat.succ_mul, List.take_add]
        rw [← ec]
        refine r2.same fun x hx => ?_
        have : x = st2.next + 1 := by simpa [idsV] using hx
        rw [get_put_ne' (by omega)]
      · intro x hx
        have : x = st2.next + 1 := by simpa [idsV] using hx
        omega
      · simp only [next_max]; omega
  · have e : i = nb := by omega
    subst e
    simp -implicitDefEqProofs (maxSteps := 2000000) (disch := first|assumption|omega|rfl|(simp only[RD];done)|(simp only[RD];omega)) only [RN,Int.reduceBEq,Int.reduceBNe,Int.reduceLT,Int.reduceLE,Int.reduceAdd,Int.reduceSub,Int.reduceMul,Nat.reduceAdd,↓bc_flatz,↓bc_flat16,↓agg_bytez, decide_eq_false (show ¬ ((i : Nat) : Int) < (i : Nat) by omega)]
    simp -implicitDefEqProofs (maxSteps := 2000000) (disch := first|assumption|omega|rfl|(simp only[RD];done)|(simp only[RD];omega)) only [RN,Int.reduceBEq,Int.reduceBNe,Int.reduceLT,Int.reduceLE,Int.reduceAdd,Int.reduceSub,Int.reduceMul,Nat.reduceAdd,↓bc_flatz,↓bc_flat16,↓agg_bytez, p27_2, h3, h1]
    obtain ⟨c1, c2, c3⟩ := chunk_bc i (inoL g i) hL
    have tk : (inoL g i).take (i * 1024) = inoL g i := List.take_of_length_le (by omega)
    rw [tk] at hw
    have hwl := hw.lt
    refine hq _ _ (hk.put _ (by omega)) ?_ fun j hj => ?_
    · rw [c1]
      exact (hw.same fun x hx => get_put_ne' (by have := hwi x hx; omega)).r
    · have := hwi j hj
      have := hwl j hj
      simp only [next_max]; omega
end Go.Proofs.Ytchfpepbdnjhmaa
