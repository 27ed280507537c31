/- Contracts of mkfs: inodes, bitmap, root. -/
import Derived.Test.YtchfpepbdnjhmaaLay
import Derived.Test.YtchfpepbdnjhmaaNod
set_option linter.all false
set_option maxRecDepth 100000
set_option maxHeartbeats 400000
namespace Go.Proofs.Ytchfpepbdnjhmaa
open Go.Am
variable {σ : Store} {Q : Value → Store → Prop}
theorem slice_from {n m b o : Nat} (h : m < n) : sliceAr n 1 (.pointer (some ⟨b, o, none⟩)) (some (.int .i64 (m : Nat))) none = some (.slice (some ⟨b, o + m, none⟩) (n - m) (n - m)) := by
  have h1 : (0 : Int) ≤ (m : Nat) ∧ ((m : Nat) : Int) ≤ n := by omega
  have h2 : (n == m) = false := by simp; omega
  simp [sliceAr, bound, h1, h2]
theorem slice_all {n b o : Nat} (h : 0 < n) : sliceAr n 1 (.pointer (some ⟨b, o, none⟩)) none none = some (.slice (some ⟨b, o, none⟩) n n) := by
  have h2 : (n == 0) = false := by simp; omega
  simp [sliceAr, bound, h2]
theorem copy_bytes {i j o nd cd ns cs' : Nat} {b l : List Int} {g : Option Nat} {σ : Store} (hi : σ.get i = some (.cells (bc b) none)) (hj : σ.get j = some (.cells (bc l) g)) (hn : ns = l.length) (hle : ns ≤ nd) (hb : o + ns ≤ b.length) :
    copyV 1 (.slice (some ⟨i, o, none⟩) nd cd) (.slice (some ⟨j, 0, none⟩) ns cs') σ = some (.int .i64 (ns : Nat), σ.put i (some (.cells (bc (layB b o l)) none))) := by
  subst hn
  have h1 : Nat.min l.length nd = l.length := Nat.min_eq_left hle
  have h2 : (bc l).take l.length = bc l := by rw [bc_take, List.take_length]
  have h3 : Nat.ble (o + l.length) b.length = true := Nat.ble_eq_true_of_le hb
  have h4 : splice (bc b) o (bc l) = bc (layB b o l) := by
    unfold splice layB
    cases o with
    | zero => simp [bc_drop, bc_app]
    | succ o => simp [bc_drop, bc_app, bc_take]
  have h5 : Nat.ble l.length l.length = true := Nat.ble_eq_true_of_le (Nat.le_refl _)
  simp [copyV, lenV, sourceV, cellsAt, hi, hj, h1, h2, h3, h4, h5]
def rootI : Nat → List Int
  | 0 => zb
  | 1 => layB zb 0 (entB 1 ⟨#[46]⟩)
  | _ => layB (layB zb 0 (entB 1 ⟨#[46]⟩)) 16 (entB 1 ⟨#[46, 46]⟩)
theorem entB_len (i : Int) (s : ByteArray) (h : s.size ≤ 14) : (entB i s).length = 16 := by
  unfold entB
  have l2 : (nums s).length = s.size := by simp [nums]
  rw [List.length_take, layB_len (by rw [set16_len, zb_len]; omega), set16_len, zb_len]; rfl
theorem e1_len : (entB 1 ⟨#[46]⟩).length = 16 := entB_len _ _ (by decide)
theorem e2_len : (entB 1 ⟨#[46, 46]⟩).length = 16 := entB_len _ _ (by decide)
theorem rootI_len : ∀ i, (rootI i).length = 1024
  | 0 => zb_len
  | 1 => by rw [rootI, layB_len (by rw [zb_len, e1_len]; omega), zb_len]
  | i + 2 => by
    show (layB (layB zb 0 (entB 1 ⟨#[46]⟩)) 16 (entB 1 ⟨#[46, 46]⟩)).length = 1024
    rw [layB_len (by rw [layB_len (by rw [zb_len, e1_len]; omega), zb_len, e2_len]; omega), layB_len (by rw [zb_len, e1_len]; omega), zb_len]
theorem root_ {g : Geo} (hq : ∀ σ' w, Keeps σ σ' → SlR σ' 1024 w 1 (blksC [rootI 2]) → (∀ i ∈ idsV w, σ.next ≤ i ∧ i < σ'.next) → Q (.agg ⟨[.int .i64 g.dataAt, w]⟩) σ') : Does Try.prog 29 [.agg ⟨ic g.lay⟩] σ Q := by
  refine d29 ?_
  have e1 : ic g.lay = [.int .i64 g.blocks, .int .i64 g.log, .int .i64 g.inodes, .int .i64 1, .int .i64 (1 + g.log), .int .i64 g.nodeBlocks, .int .i64 g.bitsAt, .int .i64 g.bitsBlocks, .int .i64 g.dataAt] := rfl
  have u2 : (unrle [(1, .int .i64 0), (1, .slice none 0 0)]) = [.int .i64 0, .slice none 0 0] := rfl
  rw [e1]
  simp -implicitDefEqProofs (maxSteps := 2000000) (disch := first|assumption|omega|rfl|(simp only[RD];done)|(simp only[RD];omega)) only [RN,Int.reduceBEq,Int.reduceBNe,Int.reduceLT,Int.reduceLE,Int.reduceAdd,Int.reduceSub,Int.reduceMul,Nat.reduceAdd,↓bc_flatz,↓bc_flat16,↓agg_bytez, p29, u2]
  refine lop1 (fun k v st => ∃ i : Nat, k + i = 2 ∧ v = .int .i64 i ∧ Keeps σ st ∧ st.get σ.next = some (.cells [.int .i64 g.blocks, .int .i64 g.log, .int .i64 g.inodes, .int .i64 1, .int .i64 (1 + g.log), .int .i64 g.nodeBlocks, .int .i64 g.bitsAt, .int .i64 g.bitsBlocks, .int .i64 g.dataAt] none) ∧ st.get (σ.next + 1) = some (.cells [.int .i64 0, .slice none 0 0] none) ∧ st.get (σ.next + 1 + 1) = some (.cells (bc (rootI i)) none) ∧ st.get (σ.next + 1 + 1 + 1) = some (.cells [.string ⟨#[46]⟩, .string ⟨#[46, 46]⟩] none) ∧ σ.next + 4 ≤ st.next) 2 ⟨0, rfl, rfl, ?_, ?_, ?_, ?_, ?_, ?_⟩ ?_
  · exact ((((Keeps.refl σ).push _).push _).push _).push _
  · simp -implicitDefEqProofs (maxSteps := 2000000) (disch := first|assumption|omega|rfl|(simp only[RD];done)|(simp only[RD];omega)) only [RN,Int.reduceBEq,Int.reduceBNe,Int.reduceLT,Int.reduceLE,Int.reduceAdd,Int.reduceSub,Int.reduceMul,Nat.reduceAdd,↓bc_flatz,↓bc_flat16,↓agg_bytez]
  · simp -implicitDefEqProofs (maxSteps := 2000000) (disch := first|assumption|omega|rfl|(simp only[RD];done)|(simp only[RD];omega)) only [RN,Int.reduceBEq,Int.reduceBNe,Int.reduceLT,Int.reduceLE,Int.reduceAdd,Int.reduceSub,Int.reduceMul,Nat.reduceAdd,↓bc_flatz,↓bc_flat16,↓agg_bytez]
  · simp -implicitDefEqProofs (maxSteps := 2000000) (disch := first|assumption|omega|rfl|(simp only[RD];done)|(simp only[RD];omega)) only [RN,Int.reduceBEq,Int.reduceBNe,Int.reduceLT,Int.reduceLE,Int.reduceAdd,Int.reduceSub,Int.reduceMul,Nat.reduceAdd,↓bc_flatz,↓bc_flat16,↓agg_bytez]
    rfl
  · simp -implicitDefEqProofs (maxSteps := 2000000) (disch := first|assumption|omega|rfl|(simp only[RD];done)|(simp only[RD];omega)) only [RN,Int.reduceBEq,Int.reduceBNe,Int.reduceLT,Int.reduceLE,Int.reduceAdd,Int.reduceSub,Int.reduceMul,Nat.reduceAdd,↓bc_flatz,↓bc_flat16,↓agg_bytez]
  · simp only [Store.next_push]; omega
  rintro k v st next ⟨i, hi, rfl, hk, h0, h1, h2, h3, hn⟩ hnx
  have hlen := rootI_len i
  by_cases h5 : i < 2
  · have hc : i = 0 ∨ i = 1 := by omega
    rcases hc with rfl | rfl
    · have t0 : ((0 : Nat) : Int) = 0 := rfl
      simp -implicitDefEqProofs (maxSteps := 2000000) (disch := first|assumption|omega|rfl|(simp only[RD];done)|(simp only[RD];omega)) only [RN,Int.reduceBEq,Int.reduceBNe,Int.reduceLT,Int.reduceLE,Int.reduceAdd,Int.reduceSub,Int.reduceMul,Nat.reduceAdd,↓bc_flatz,↓bc_flat16,↓agg_bytez, decide_eq_true (show ((0 : Nat) : Int) < ((2 : Nat) : Int) by omega), h3, t0, Int.toNat_zero, Int.toNat_one, Nat.zero_mul, Nat.mul_one]
      refine entry_ (i := 1) (by omega) name1 (by decide) ?_
      have s1 : sliceAr 1024 1 (.pointer (some ⟨σ.next + 1 + 1, 0, none⟩)) (some (.int .i64 0)) none = some (.slice (some ⟨σ.next + 1 + 1, 0, none⟩) 1024 1024) := by
        have := slice_from (n := 1024) (m := 0) (b := σ.next + 1 + 1) (o := 0) (by omega)
        rw [Nat.zero_add] at this
        exact this
      have s2 : sliceAr 16 1 (.pointer (some ⟨st.next, 0, none⟩)) none none = some (.slice (some ⟨st.next, 0, none⟩) 16 16) := slice_all (by omega)
      have s3 := copy_bytes (i := σ.next + 1 + 1) (j := st.next) (o := 0) (nd := 1024) (cd := 1024) (ns := 16) (cs' := 16) (b := rootI 0) (l := entB 1 ⟨#[46]⟩) (g := none) (σ := st.push (.cells (bc (entB 1 ⟨#[46]⟩)) none)) (by simp -implicitDefEqProofs (maxSteps := 2000000) (disch := first|assumption|omega|rfl|(simp only[RD];done)|(simp only[RD];omega)) only [RN,Int.reduceBEq,Int.reduceBNe,Int.reduceLT,Int.reduceLE,Int.reduceAdd,Int.reduceSub,Int.reduceMul,Nat.reduceAdd,↓bc_flatz,↓bc_flat16,↓agg_bytez, h2]) (by simp -implicitDefEqProofs (maxSteps := 2000000) (disch := first|assumption|omega|rfl|(simp only[RD];done)|(simp only[RD];omega)) only [RN,Int.reduceBEq,Int.reduceBNe,Int.reduceLT,Int.reduceLE,Int.reduceAdd,Int.reduceSub,Int.reduceMul,Nat.reduceAdd,↓bc_flatz,↓bc_flat16,↓agg_bytez]) e1_len.symm (by omega) (by rw [hlen]; omega)
      have s4 := e1_len
      simp -implicitDefEqProofs (maxSteps := 2000000) (disch := first|assumption|omega|rfl|(simp only[RD];done)|(simp only[RD];omega)) only [RN,Int.reduceBEq,Int.reduceBNe,Int.reduceLT,Int.reduceLE,Int.reduceAdd,Int.reduceSub,Int.reduceMul,Nat.reduceAdd,↓bc_flatz,↓bc_flat16,↓agg_bytez, s1, s2, s4, s3]
      refine hnx _ _ (by omega) ⟨1, by omega, rfl, ?_, ?_, ?_, ?_, ?_, ?_⟩
      · exact (hk.put _ (by omega)).push _
      · simp -implicitDefEqProofs (maxSteps := 2000000) (disch := first|assumption|omega|rfl|(simp only[RD];done)|(simp only[RD];omega)) only [RN,Int.reduceBEq,Int.reduceBNe,Int.reduceLT,Int.reduceLE,Int.reduceAdd,Int.reduceSub,Int.reduceMul,Nat.reduceAdd,↓bc_flatz,↓bc_flat16,↓agg_bytez, h0]
      · simp -implicitDefEqProofs (maxSteps := 2000000) (disch := first|assumption|omega|rfl|(simp only[RD];done)|(simp only[RD];omega)) only [RN,Int.reduceBEq,Int.reduceBNe,Int.reduceLT,Int.reduceLE,Int.reduceAdd,Int.reduceSub,Int.reduceMul,Nat.reduceAdd,↓bc_flatz,↓bc_flat16,↓agg_bytez, h1]
      · simp -implicitDefEqProofs (maxSteps := 2000000) (disch := first|assumption|omega|rfl|(simp only[RD];done)|(simp only[RD];omega)) only [RN,Int.reduceBEq,Int.reduceBNe,Int.reduceLT,Int.reduceLE,Int.reduceAdd,Int.reduceSub,Int.reduceMul,Nat.reduceAdd,↓bc_flatz,↓bc_flat16,↓agg_bytez]
        rfl
      · simp -implicitDefEqProofs (maxSteps := 2000000) (disch := first|assumption|omega|rfl|(simp only[RD];done)|(simp only[RD];omega)) only [RN,Int.reduceBEq,Int.reduceBNe,Int.reduceLT,Int.reduceLE,Int.reduceAdd,Int.reduceSub,Int.reduceMul,Nat.reduceAdd,↓bc_flatz,↓bc_flat16,↓agg_bytez, h3]
      · simp only [Store.next_push, next_max]; omega
    · have t0 : ((1 : Nat) : Int) = 1 := rfl
      simp -implicitDefEqProofs (maxSteps := 2000000) (disch := first|assumption|omega|rfl|(simp only[RD];done)|(simp only[RD];omega)) only [RN,Int.reduceBEq,Int.reduceBNe,Int.reduceLT,Int.reduceLE,Int.reduceAdd,Int.reduceSub,Int.reduceMul,Nat.reduceAdd,↓bc_flatz,↓bc_flat16,↓agg_bytez, decide_eq_true (show ((1 : Nat) : Int) < ((2 : Nat) : Int) by omega), h3, t0, Int.toNat_zero, Int.toNat_one, Nat.zero_mul, Nat.mul_one]
      refine entry_ (i := 1) (by omega) name2 (by decide) ?_
      have s1 : sliceAr 1024 1 (.pointer (some ⟨σ.next + 1 + 1, 0, none⟩)) (some (.int .i64 16)) none = some (.slice (some ⟨σ.next + 1 + 1, 16, none⟩) 1008 1008) := by
        have := slice_from (n := 1024) (m := 16) (b := σ.next + 1 + 1) (o := 0) (by omega)
        rw [Nat.zero_add] at this
        exact this
      have s2 : sliceAr 16 1 (.pointer (some ⟨st.next, 0, none⟩)) none none = some (.slice (some ⟨st.next, 0, none⟩) 16 16) := slice_all (by omega)
      have s3 := copy_bytes (i := σ.next + 1 + 1) (j := st.next) (o := 16) (nd := 1008) (cd := 1008) (ns := 16) (cs' := 16) (b := rootI 1) (l := entB 1 ⟨#[46, 46]⟩) (g := none) (σ := st.push (.cells (bc (entB 1 ⟨#[46, 46]⟩)) none)) (by simp -implicitDefEqProofs (maxSteps := 2000000) (disch := first|assumption|omega|rfl|(simp only[RD];done)|(simp only[RD];omega)) only [RN,Int.reduceBEq,Int.reduceBNe,Int.reduceLT,Int.reduceLE,Int.reduceAdd,Int.reduceSub,Int.reduceMul,Nat.reduceAdd,↓bc_flatz,↓bc_flat16,↓agg_bytez, h2]) (by simp -implicitDefEqProofs (maxSteps := 2000000) (disch := first|assumption|omega|rfl|(simp only[RD];done)|(simp only[RD];omega)) only [RN,Int.reduceBEq,Int.reduceBNe,Int.reduceLT,Int.reduceLE,Int.reduceAdd,Int.reduceSub,Int.reduceMul,Nat.reduceAdd,↓bc_flatz,↓bc_flat16,↓agg_bytez]) e2_len.symm (by omega) (by rw [hlen]; omega)
      have s4 := e2_len
      simp -implicitDefEqProofs (maxSteps := 2000000) (disch := first|assumption|omega|rfl|(simp only[RD];done)|(simp only[RD];omega)) only [RN,Int.reduceBEq,Int.reduceBNe,Int.reduceLT,Int.reduceLE,Int.reduceAdd,Int.reduceSub,Int.reduceMul,Nat.reduceAdd,↓bc_flatz,↓bc_flat16,↓agg_bytez, s1, s2, s4, s3]
      refine hnx _ _ (by omega) ⟨2, by omega, rfl, ?_, ?_, ?_, ?_, ?_, ?_⟩
      · exact (hk.put _ (by omega)).push _
      · simp -implicitDefEqProofs (maxSteps := 2000000) (disch := first|assumption|omega|rfl|(simp only[RD];done)|(simp only[RD];omega)) only [RN,Int.reduceBEq,Int.reduceBNe,Int.reduceLT,Int.reduceLE,Int.reduceAdd,Int.reduceSub,Int.reduceMul,Nat.reduceAdd,↓bc_flatz,↓bc_flat16,↓agg_bytez, h0]
      · simp -implicitDefEqProofs (maxSteps := 2000000) (disch := first|assumption|omega|rfl|(simp only[RD];done)|(simp only[RD];omega)) only [RN,Int.reduceBEq,Int.reduceBNe,Int.reduceLT,Int.reduceLE,Int.reduceAdd,Int.reduceSub,Int.reduceMul,Nat.reduceAdd,↓bc_flatz,↓bc_flat16,↓agg_bytez, h1]
      · simp -implicitDefEqProofs (maxSteps := 2000000) (disch := first|assumption|omega|rfl|(simp only[RD];done)|(simp only[RD];omega)) only [RN,Int.reduceBEq,Int.reduceBNe,Int.reduceLT,Int.reduceLE,Int.reduceAdd,Int.reduceSub,Int.reduceMul,Nat.reduceAdd,↓bc_flatz,↓bc_flat16,↓agg_bytez]
        rfl
      · simp -implicitDefEqProofs (maxSteps := 2000000) (disch := first|assumption|omega|rfl|(simp only[RD];done)|(simp only[RD];omega)) only [RN,Int.reduceBEq,Int.reduceBNe,Int.reduceLT,Int.reduceLE,Int.reduceAdd,Int.reduceSub,Int.reduceMul,Nat.reduceAdd,↓bc_flatz,↓bc_flat16,↓agg_bytez, h3]
      · simp only [Store.next_push, next_max]; omega
  · have e : i = 2 := by omega
    subst e
    simp -implicitDefEqProofs (maxSteps := 2000000) (disch := first|assumption|omega|rfl|(simp only[RD];done)|(simp only[RD];omega)) only [RN,Int.reduceBEq,Int.reduceBNe,Int.reduceLT,Int.reduceLE,Int.reduceAdd,Int.reduceSub,Int.reduceMul,Nat.reduceAdd,↓bc_flatz,↓bc_flat16,↓agg_bytez, decide_eq_false (show ¬ ((2 : Nat) : Int) < ((2 : Nat) : Int) by omega), h0, h1, h2, u2]
    refine hq _ _ ((hk.put _ (by omega)).push _) (SlR.new (.inl rfl) (get_push_eq (by rw [next_max]; omega)) ?_) fun j hj => ?_
    · simp [blksC]
      exact hlen
    · have : j = st.next := by simpa [idsV] using hj
      simp only [Store.next_push, next_max]; omega
/-- Blocks out of bytes. -/
def chunk (n : Nat) (l : List Int) : List (List Int) := match n with | 0 => [] | n + 1 => l.take 1024 :: chunk n (l.drop 1024)
theorem chunk_bc : ∀ (n : Nat) (l : List Int), l.length = n * 1024 → blksC (chunk n l) = bc l ∧ (chunk n l).length = n ∧ ∀ b ∈ chunk n l, b.length = 1024
  | 0, l, h => by
    have : l = [] := List.eq_nil_of_length_eq_zero (by omega)
    subst this
    exact ⟨rfl, rfl, fun b hb => absurd hb List.not_mem_nil⟩
  | n + 1, l, h => by
    obtain ⟨h1, h2, h3⟩ := chunk_bc n (l.drop 1024) (by rw [List.length_drop]; omega)
    refine ⟨?_, by simp [chunk, h2], fun b hb => ?_⟩
    · simp only [chunk, blksC, h1, bc_app, List.take_append_drop]
    · simp only [chunk] at hb
      rcases List.mem_cons.1 hb with rfl | hb
      · rw [List.length_take]; omega
      · exact h3 b hb
/-- The bits up to a number. -/
def bitI (n : Nat) : Nat → List Int
  | 0 => List.replicate (n * 1024) 0
  | k + 1 => (bitI n k).set (k / 8) (orI ((bitI n k).getD (k / 8) 0) (IntKind.u8.wrap (1 * 2 ^ min (k % 8) 8)))
theorem bitI_len (n : Nat) : ∀ k, (bitI n k).length = n * 1024
  | 0 => List.length_replicate
  | k + 1 => by simp only [bitI, List.length_set, bitI_len n k]
theorem make_blocks {n : Nat} {k : IntKind} (h : n ≤ 10000) : makeS (bc zb) 1024 (.int k (n : Nat)) (.int k (n : Nat)) = some (.cells (bc (bitI n 0)) none, fun i => .slice (some ⟨i, 0, none⟩) n n) := by
  have h1 : (0 : Int) ≤ (n : Nat) ∧ ((n : Nat) : Int) = (n : Nat) ∧ ((n : Nat) : Int) ≤ 9223372036854775807 ∧ ((1024 : Nat) : Int) * (n : Nat) ≤ 281474976710656 := by omega
  have h2 : ∀ n : Nat, (List.replicate n (bc zb)).flatten = bc (List.replicate (n * 1024) 0) := fun n => by
    induction n with
    | zero => simp [bc]
    | succ n ih =>
      rw [List.replicate_succ, List.flatten_cons, ih, bc_app]
      congr 1
      unfold zb
      rw [List.replicate_append_replicate]
      congr 1; omega
  unfold makeS
  show (if _ then _ else none) = _
  rw [if_pos h1, Int.toNat_natCast, h2]
  rfl
theorem bitmap_ {g : Geo} (hg : g.ok) (hq : ∀ σ' w, Keeps σ σ' → SlR σ' 1024 w g.bitsBlocks.toNat (blksC (chunk g.bitsBlocks.toNat (bitI g.bitsBlocks.toNat (g.dataAt.toNat + 1)))) → (∀ i ∈ idsV w, σ.next ≤ i ∧ i < σ'.next) → Q (.agg ⟨[.int .i64 g.bitsAt, w]⟩) σ') : Does Try.prog 28 [.agg ⟨ic g.lay⟩] σ Q := by
  refine d28 ?_
  have hg' := hg
  unfold Geo.ok at hg'
  have hda : g.dataAt = 1 + g.log + g.nodeBlocks + g.bitsBlocks := rfl
  have hbb : g.bitsBlocks = (g.blocks + 8191) / 8192 := rfl
  have hnb : g.nodeBlocks = (g.inodes + 16) / 16 := rfl
  obtain ⟨nb, hnb'⟩ : ∃ nb : Nat, g.bitsBlocks = nb := ⟨g.bitsBlocks.toNat, by omega⟩
  obtain ⟨da, hda'⟩ : ∃ da : Nat, g.dataAt = da := ⟨g.dataAt.toNat, by omega⟩
  have hnb2 : nb ≤ 200 := by omega
  have e1 : ic g.lay = [.int .i64 g.blocks, .int .i64 g.log, .int .i64 g.inodes, .int .i64 1, .int .i64 (1 + g.log), .int .i64 g.nodeBlocks, .int .i64 g.bitsAt, .int .i64 (nb : Nat), .int .i64 (da : Nat)] := by rw [← hnb', ← hda']; rfl
  have u2 : (unrle [(1, .int .i64 0), (1, .slice none 0 0)]) = [.int .i64 0, .slice none 0 0] := rfl
  rw [hnb', hda', Int.toNat_natCast, Int.toNat_natCast] at hq
  rw [e1]
  have mk := make_blocks (n := nb) (k := .i64) (by omega)
  simp -implicitDefEqProofs (maxSteps := 2000000) (disch := first|assumption|omega|rfl|(simp only[RD];done)|(simp only[RD];omega)) only [RN,Int.reduceBEq,Int.reduceBNe,Int.reduceLT,Int.reduceLE,Int.reduceAdd,Int.reduceSub,Int.reduceMul,Nat.reduceAdd,↓bc_flatz,↓bc_flat16,↓agg_bytez, p28, u2, mk]
  refine lop1 (fun k v st => ∃ i : Nat, k + i = da + 1 ∧ v = .int .i64 i ∧ Keeps σ st ∧ st.get (σ.next + 1) = some (.cells [.int .i64 0, .slice none 0 0] none) ∧ st.get (σ.next + 1 + 1) = some (.cells (bc (bitI nb i)) none) ∧ st.get (σ.next + 1 + 1 + 1) = some (.cells [.int .i64 g.bitsAt, .slice (some ⟨σ.next + 1 + 1, 0, none⟩) nb nb] none) ∧ σ.next + 4 ≤ st.next) (da + 1) ⟨0, rfl, rfl, ?_, ?_, ?_, ?_, ?_⟩ ?_
  · exact ((((Keeps.refl σ).push _).push _).push _).push _
  · simp -implicitDefEqProofs (maxSteps := 2000000) (disch := first|assumption|omega|rfl|(simp only[RD];done)|(simp only[RD];omega)) only [RN,Int.reduceBEq,Int.reduceBNe,Int.reduceLT,Int.reduceLE,Int.reduceAdd,Int.reduceSub,Int.reduceMul,Nat.reduceAdd,↓bc_flatz,↓bc_flat16,↓agg_bytez]
  · simp -implicitDefEqProofs (maxSteps := 2000000) (disch := first|assumption|omega|rfl|(simp only[RD];done)|(simp only[RD];omega)) only [RN,Int.reduceBEq,Int.reduceBNe,Int.reduceLT,Int.reduceLE,Int.reduceAdd,Int.reduceSub,Int.reduceMul,Nat.reduceAdd,↓bc_flatz,↓bc_flat16,↓agg_bytez]
  · simp -implicitDefEqProofs (maxSteps := 2000000) (disch := first|assumption|omega|rfl|(simp only[RD];done)|(simp only[RD];omega)) only [RN,Int.reduceBEq,Int.reduceBNe,Int.reduceLT,Int.reduceLE,Int.reduceAdd,Int.reduceSub,Int.reduceMul,Nat.reduceAdd,↓bc_flatz,↓bc_flat16,↓agg_bytez]
  · simp only [Store.next_push]; omega
  rintro k v st next ⟨i, hi, rfl, hk, h1, h2, h3, hn⟩ hnx
  have hlen := bitI_len nb i
  by_cases h5 : i < da + 1
  · have d1 : ((i : Nat) : Int).tdiv 8192 = ((i / 8192 : Nat) : Int) := tdiv_nat i 8192
    have d2 : ((i : Nat) : Int).tmod 8192 = ((i % 8192 : Nat) : Int) := tmod_nat i 8192
    have d3 : ((i % 8192 : Nat) : Int).tdiv 8 = ((i % 8192 / 8 : Nat) : Int) := tdiv_nat _ 8
    have d4 : ((i : Nat) : Int).tmod 8 = ((i % 8 : Nat) : Int) := tmod_nat i 8
    have hix : i / 8192 * 1024 + i % 8192 / 8 = i / 8 := by omega
    have hib : i / 8 < nb * 1024 := by omega
    have hrd : (bc (bitI nb i))[i / 8]? = some (.int .u8 ((bitI nb i).getD (i / 8) 0)) := by
      rw [bc_get, List.getElem?_eq_getElem (by omega)]
      simp [List.getD_eq_getElem?_getD, List.getElem?_eq_getElem (show i / 8 < (bitI nb i).length by omega)]
    have hb8 : IntKind.u8.bits = 8 := rfl
    simp -implicitDefEqProofs (maxSteps := 2000000) (disch := first|assumption|omega|rfl|(simp only[RD];done)|(simp only[RD];omega)) only [RN,Int.reduceBEq,Int.reduceBNe,Int.reduceLT,Int.reduceLE,Int.reduceAdd,Int.reduceSub,Int.reduceMul,Nat.reduceAdd,↓bc_flatz,↓bc_flat16,↓agg_bytez, decide_eq_true (show ((i : Nat) : Int) < (da : Nat) + 1 by omega), h3, d1, d2, d3, d4, Int.toNat_natCast, Nat.mul_one, hix, h2, hrd, bc_set, hb8]
    refine hnx _ _ (by omega) ⟨i + 1, by omega, by congr 1, hk.put _ (by omega), ?_, ?_, ?_, ?_⟩
    · simp -implicitDefEqProofs (maxSteps := 2000000) (disch := first|assumption|omega|rfl|(simp only[RD];done)|(simp only[RD];omega)) only [RN,Int.reduceBEq,Int.reduceBNe,Int.reduceLT,Int.reduceLE,Int.reduceAdd,Int.reduceSub,Int.reduceMul,Nat.reduceAdd,↓bc_flatz,↓bc_flat16,↓agg_bytez, h1]
    · simp -implicitDefEqProofs (maxSteps := 2000000) (disch := first|assumption|omega|rfl|(simp only[RD];done)|(simp only[RD];omega)) only [RN,Int.reduceBEq,Int.reduceBNe,Int.reduceLT,Int.reduceLE,Int.reduceAdd,Int.reduceSub,Int.reduceMul,Nat.reduceAdd,↓bc_flatz,↓bc_flat16,↓agg_bytez]
      rfl
    · simp -implicitDefEqProofs (maxSteps := 2000000) (disch := first|assumption|omega|rfl|(simp only[RD];done)|(simp only[RD];omega)) only [RN,Int.reduceBEq,Int.reduceBNe,Int.reduceLT,Int.reduceLE,Int.reduceAdd,Int.reduceSub,Int.reduceMul,Nat.reduceAdd,↓bc_flatz,↓bc_flat16,↓agg_bytez, h3]
    · simp only [next_max]; omega
  · have e : i = da + 1 := by omega
    subst e
    simp -implicitDefEqProofs (maxSteps := 2000000) (disch := first|assumption|omega|rfl|(simp only[RD];done)|(simp only[RD];omega)) only [RN,Int.reduceBEq,Int.reduceBNe,Int.reduceLT,Int.reduceLE,Int.reduceAdd,Int.reduceSub,Int.reduceMul,Nat.reduceAdd,↓bc_flatz,↓bc_flat16,↓agg_bytez, decide_eq_false (show ¬ ((da + 1 : Nat) : Int) < (da : Nat) + 1 by omega), h1, h2, h3, u2]
    obtain ⟨c1, c2, c3⟩ := chunk_bc nb (bitI nb (da + 1)) hlen
    refine hq _ _ (hk.put _ (by omega)) ?_ fun j hj => ?_
    · rw [c1]
      exact SlR.new (.inl rfl) (by rw [get_put_ne' (by omega), h2]) (by rw [bc_len, hlen])
    · have : j = σ.next + 1 + 1 := by simpa [idsV] using hj
      simp only [next_max]; omega
end Go.Proofs.Ytchfpepbdnjhmaa
