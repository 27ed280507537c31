/- Contract of the first examples of chapter 08. -/
import Derived.Test.YtiaonndafhfkmaaL8b
set_option linter.all false
set_option maxRecDepth 100000
set_option maxHeartbeats 400000
namespace Go.Proofs.Ytiaonndafhfkmaa
open Go.Am
variable {σ : Store} {Q : Value → Store → Prop} {g : Geo} {s : DS} {w : WS} {m : Nat}
theorem logOps_ok {o : List (Int × List Int)} (h : ∀ p ∈ o, p.2.length = 1024) : ∀ n, n ≤ o.length → ∀ i b, DOp.w i b ∈ logOps o n → b.length = 1024
  | 0, _, i, b, hb => by cases hb
  | n + 1, hn, i, b, hb => by
    rcases List.mem_append.1 hb with hb | hb
    · exact logOps_ok h n (by omega) i b hb
    · have e : o.getD n (0, []) = o[n] := by rw [List.getD_eq_getElem?_getD, List.getElem?_eq_getElem (show n < o.length by omega)]; rfl
      rw [e] at hb
      have : DOp.w i b = .w (2 + n) o[n].2 := by simpa using hb
      cases this
      exact h _ (List.getElem_mem _)
theorem putOps_ok {o : List (Int × List Int)} (h : ∀ p ∈ o, p.2.length = 1024) : ∀ n, n ≤ o.length → ∀ i b, DOp.w i b ∈ putOps o n → b.length = 1024
  | 0, _, i, b, hb => by cases hb
  | n + 1, hn, i, b, hb => by
    rcases List.mem_append.1 hb with hb | hb
    · exact putOps_ok h n (by omega) i b hb
    · have e : o.getD n (0, []) = o[n] := by rw [List.getD_eq_getElem?_getD, List.getElem?_eq_getElem (show n < o.length by omega)]; rfl
      rw [e] at hb
      have : DOp.w i b = .w o[n].1 o[n].2 := by simpa using hb
      cases this
      exact h _ (List.getElem_mem _)
theorem commitOps_ok {o : List (Int × List Int)} (h : ∀ p ∈ o, p.2.length = 1024) (i : Int) (b : List Int) (hb : DOp.w i b ∈ commitOps o) : b.length = 1024 := by
  simp only [commitOps, preOps, List.mem_append, List.mem_singleton] at hb
  rcases hb with (((((((hb | hb) | hb) | hb)) | hb) | hb) | hb) | hb
  · exact logOps_ok h _ (Nat.le_refl _) i b hb
  · cases hb
  · cases hb; exact headB_len _
  · cases hb
  · exact putOps_ok h _ (Nat.le_refl _) i b hb
  · cases hb
  · cases hb; exact zb_len
  · cases hb
theorem commitOps_len (o : List (Int × List Int)) : (commitOps o).length = 2 * o.length + 6 := by
  simp [commitOps, preOps, logOps_len, putOps_len]; omega
theorem commit_C (h : s.C m) (hW : WOk w) : (s.run (commitOps w.grp)).2.C (m + 70) ∨ 32 < w.grp.length := by
  by_cases hl : 32 < w.grp.length
  · exact .inr hl
  · left
    have := run_C h (commitOps_ok hW.len)
    rw [commitOps_len] at this
    exact this.le (by omega)
theorem run_mine {k : Int} : ∀ {l : List DOp} {s : DS}, (s.run l).1 = 0 → (s.run l).2.mine k = s.mine k
  | [], s, _ => rfl
  | o :: l, s, h => by
    rw [run_cons] at h ⊢
    by_cases h0 : (s.op o).1 = 0
    · rw [if_pos h0] at h ⊢
      rw [run_mine h]
      cases o with
      | w i b => exact write_mine h0
      | bar => exact barrier_mine h0
    · rw [if_neg h0] at h; cases h
theorem upd_left {F F' G : List Nat} {a b : Store} (u : Upd F a b F') (hG : ∀ j ∈ G, j < a.next) : Upd (F ++ G) a b (F' ++ G) :=
  ⟨u.next, fun j hj => by
    rcases List.mem_append.1 hj with hj | hj
    · obtain ⟨h1, h2⟩ := u.ids j hj
      refine ⟨h1, ?_⟩
      rcases h2 with h2 | h2
      · exact .inl (List.mem_append_left _ h2)
      · exact .inr h2
    · exact ⟨Nat.lt_of_lt_of_le (hG j hj) u.next, .inl (List.mem_append_right _ hj)⟩, fun j hj hn => u.same j hj fun h => hn (List.mem_append_left _ h)⟩
theorem upd_right {F G G' : List Nat} {a b : Store} (u : Upd G a b G') (hF : ∀ j ∈ F, j < a.next) : Upd (F ++ G) a b (F ++ G') :=
  ⟨u.next, fun j hj => by
    rcases List.mem_append.1 hj with hj | hj
    · exact ⟨Nat.lt_of_lt_of_le (hF j hj) u.next, .inl (List.mem_append_left _ hj)⟩
    · obtain ⟨h1, h2⟩ := u.ids j hj
      refine ⟨h1, ?_⟩
      rcases h2 with h2 | h2
      · exact .inl (List.mem_append_right _ h2)
      · exact .inr h2, fun j hj hn => u.same j hj fun h => hn (List.mem_append_right _ h)⟩
theorem upd_keeps0 {a b : Store} {F : List Nat} (h : Upd [] a b F) : Keeps a b := ⟨h.next, fun j hj => h.same j hj List.not_mem_nil⟩
def g60 : Geo := ⟨60, 32, 5⟩
theorem g60_ok : g60.ok := by decide
def wA1 : WS := (WS.new g60 1).begin 23
def wA2 : WS := (wA1.write 40 (blk 4)).2
def wA3 : WS := (wA2.write 41 (blk 6)).2
def wA4 : WS := (wA3.write 40 (blk 8)).2
def wA5 : WS := { wA4 with opn := false, steps := wA4.steps + 1 }
def sA1 : DS := ((fresh0 g60).run (commitOps wA5.grp)).2
def wA6 : WS := wA5.done.begin 1
def wA7 : WS := (wA6.write 50 (blk 2)).2
def wA8 : WS := { wA7 with opn := false, steps := wA7.steps + 1 }
theorem wA1_e : (wA1.write 40 (blk 4)).1 = 0 := by decide +kernel
theorem wA2_e : (wA2.write 41 (blk 6)).1 = 0 := by decide +kernel
theorem wA3_e : (wA3.write 40 (blk 8)).1 = 0 := by decide +kernel
theorem wA4_o : wA4.opn = true := by decide +kernel
theorem wA4_s : wA4.steps = 0 := by decide +kernel
theorem wA5_l : wA5.grp.length = 2 := by decide +kernel
theorem wA5_m : wA5.mine = 1 := by decide +kernel
theorem wA5_c : wA5.commits = 0 := by decide +kernel
theorem wA5_s : wA5.steps = 1 := by decide +kernel
theorem wA5_o : wA5.opn = false := by decide +kernel
theorem sA1_e : ((fresh0 g60).run (commitOps wA5.grp)).1 = 0 := by decide +kernel
theorem sA1_made : sA1.made = 10 := by decide +kernel
theorem sA0_made : (fresh0 g60).made = 0 := by decide +kernel
theorem sA1_at : sA1.at 40 = blk 8 := by decide +kernel
theorem sA1_dead : sA1.dead = false := by decide +kernel
theorem sA1_n : sA1.n = 60 := by decide +kernel
theorem wA6_e : (wA6.write 50 (blk 2)).1 = 0 := by decide +kernel
theorem wA7_e : wA7.write 51 (blk 2) = (181, wA7) := by
  unfold WS.write
  rw [if_neg (by decide +kernel), if_neg (by decide +kernel), if_pos (by decide +kernel)]
theorem wA7_o : wA7.opn = true := by decide +kernel
theorem wA8_e : wA8.write 50 (blk 2) = (180, wA8) := by
  unfold WS.write
  rw [if_pos (by decide +kernel)]
theorem lives_ (hq : ∀ σ', Keeps σ σ' → Q (.bool true) σ') : Does Try.prog 7 [] σ Q := by
  refine d7 ?_
  have l3 : (unrle [(1, Value.int .i64 60), (1, .int .i64 32), (1, .int .i64 5)]).length = 3 := rfl
  simp -implicitDefEqProofs (maxSteps := 2000000) (disch := first|assumption|omega|rfl|(simp only[RD];done)|(simp only[RD];omega)) only [RN,Int.reduceBEq,Int.reduceBNe,Int.reduceLT,Int.reduceLE,Int.reduceAdd,Int.reduceSub,Int.reduceMul,Nat.reduceAdd,↓bc_flatz,↓bc_flat16,↓agg_bytez, p7]
  have k0 : Keeps σ (σ.push (.cells [.int .i64 60, .int .i64 32, .int .i64 5] none)) := (Keeps.refl σ).push _
  have c0 : (σ.push (.cells [.int .i64 60, .int .i64 32, .int .i64 5] none)).get σ.next = some (.cells [.int .i64 60, .int .i64 32, .int .i64 5] none) := Store.get_push_same _ _
  generalize σ.push (.cells [.int .i64 60, .int .i64 32, .int .i64 5] none) = σ1 at k0 c0 ⊢
  refine new_o (n := 60) (by decide) (by decide) fun s2 d G dk u2 => ?_
  have c2 : s2.get σ.next = some (.cells [.int .i64 60, .int .i64 32, .int .i64 5] none) := by rw [u2.same _ (Store.lt_of_get c0) List.not_mem_nil, c0]
  simp -implicitDefEqProofs (maxSteps := 2000000) (disch := first|assumption|omega|rfl|(simp only[RD];done)|(simp only[RD];omega)) only [RN,Int.reduceBEq,Int.reduceBNe,Int.reduceLT,Int.reduceLE,Int.reduceAdd,Int.reduceSub,Int.reduceMul,Nat.reduceAdd,↓bc_flatz,↓bc_flat16,↓agg_bytez, p7_8, c2]
  refine where_ (g := g60) ?_
  rw [show g60.of = g60.lay from if_pos g60_ok]
  have hC0 : (DS.new 60).C 0 := new_C (by decide) (by decide)
  refine wnew_ dk hC0 (by decide) g60_ok (Int.le_refl _) zb_bytes (fun h => by cases h) (fun _ h => absurd ⟨dec_zb g60_ok, decL_zb⟩ h) fun _ _ _ s3 l F L3 d3 A3 u3 => ?_
  have L3 : Log s3 l d (WS.new g60 1) (fresh0 g60) F := L3
  have d3 : Disk s3 d (fresh0 g60) G := d3
  have hC3 : (fresh0 g60).C 2 := fresh0_C g60_ok
  simp -implicitDefEqProofs (maxSteps := 2000000) (disch := first|assumption|omega|rfl|(simp only[RD];done)|(simp only[RD];omega)) only [RN,Int.reduceBEq,Int.reduceBNe,Int.reduceLT,Int.reduceLE,Int.reduceAdd,Int.reduceSub,Int.reduceMul,Nat.reduceAdd,↓bc_flatz,↓bc_flat16,↓agg_bytez, p7_7]
  refine begin_ L3 d3 A3 hC3 (by decide) rfl (by decide) (r := 23) (by decide) (fun e he => by rcases he with ⟨h, _⟩ | ⟨_, h, _⟩ <;> first | (cases h; done) | (exact absurd h (by decide))) (fun _ _ _ _ s4 F4 L4 d4 A4 u4 => ?_) (fun _ _ _ h => absurd h (by decide)) (fun _ _ _ h => absurd h (by decide))
  have L4 : Log s4 l d wA1 (fresh0 g60) F4 := L4
  try simp -implicitDefEqProofs (maxSteps := 2000000) (disch := first|assumption|omega|rfl|(simp only[RD];done)|(simp only[RD];omega)) only [RN,Int.reduceBEq,Int.reduceBNe,Int.reduceLT,Int.reduceLE,Int.reduceAdd,Int.reduceSub,Int.reduceMul,Nat.reduceAdd,↓bc_flatz,↓bc_flat16,↓agg_bytez]
  refine block_ (v := 4) (by decide) (by decide) ?_
  try simp -implicitDefEqProofs (maxSteps := 2000000) (disch := first|assumption|omega|rfl|(simp only[RD];done)|(simp only[RD];omega)) only [RN,Int.reduceBEq,Int.reduceBNe,Int.reduceLT,Int.reduceLE,Int.reduceAdd,Int.reduceSub,Int.reduceMul,Nat.reduceAdd,↓bc_flatz,↓bc_flat16,↓agg_bytez]
  refine lwrite_ L4 d4 A4 hC3 rfl (blk_len 4) (x := 40) fun s5 F5 L5 d5 A5 u5 => ?_
  rw [wA1_e]
  have L5 : Log s5 l d wA2 (fresh0 g60) F5 := L5
  simp -implicitDefEqProofs (maxSteps := 2000000) (disch := first|assumption|omega|rfl|(simp only[RD];done)|(simp only[RD];omega)) only [RN,Int.reduceBEq,Int.reduceBNe,Int.reduceLT,Int.reduceLE,Int.reduceAdd,Int.reduceSub,Int.reduceMul,Nat.reduceAdd,↓bc_flatz,↓bc_flat16,↓agg_bytez, p7_6]
  refine block_ (v := 6) (by decide) (by decide) ?_
  try simp -implicitDefEqProofs (maxSteps := 2000000) (disch := first|assumption|omega|rfl|(simp only[RD];done)|(simp only[RD];omega)) only [RN,Int.reduceBEq,Int.reduceBNe,Int.reduceLT,Int.reduceLE,Int.reduceAdd,Int.reduceSub,Int.reduceMul,Nat.reduceAdd,↓bc_flatz,↓bc_flat16,↓agg_bytez]
  refine lwrite_ L5 d5 A5 hC3 rfl (blk_len 6) (x := 41) fun s6 F6 L6 d6 A6 u6 => ?_
  rw [wA2_e]
  have L6 : Log s6 l d wA3 (fresh0 g60) F6 := L6
  try simp -implicitDefEqProofs (maxSteps := 2000000) (disch := first|assumption|omega|rfl|(simp only[RD];done)|(simp only[RD];omega)) only [RN,Int.reduceBEq,Int.reduceBNe,Int.reduceLT,Int.reduceLE,Int.reduceAdd,Int.reduceSub,Int.reduceMul,Nat.reduceAdd,↓bc_flatz,↓bc_flat16,↓agg_bytez]
  refine block_ (v := 8) (by decide) (by decide) ?_
  try simp -implicitDefEqProofs (maxSteps := 2000000) (disch := first|assumption|omega|rfl|(simp only[RD];done)|(simp only[RD];omega)) only [RN,Int.reduceBEq,Int.reduceBNe,Int.reduceLT,Int.reduceLE,Int.reduceAdd,Int.reduceSub,Int.reduceMul,Nat.reduceAdd,↓bc_flatz,↓bc_flat16,↓agg_bytez]
  refine lwrite_ L6 d6 A6 hC3 rfl (blk_len 8) (x := 40) fun s7 F7 L7 d7 A7 u7 => ?_
  rw [wA3_e]
  have L7 : Log s7 l d wA4 (fresh0 g60) F7 := L7
  try simp -implicitDefEqProofs (maxSteps := 2000000) (disch := first|assumption|omega|rfl|(simp only[RD];done)|(simp only[RD];omega)) only [RN,Int.reduceBEq,Int.reduceBNe,Int.reduceLT,Int.reduceLE,Int.reduceAdd,Int.reduceSub,Int.reduceMul,Nat.reduceAdd,↓bc_flatz,↓bc_flat16,↓agg_bytez]
  refine end_ L7 d7 A7 hC3 rfl (by rw [wA4_s]; decide) (fun h => by rw [wA4_o] at h; cases h) fun _ s8 L8 d8 u8 => ?_
  have L8 : Log s8 l d wA5 (fresh0 g60) F7 := L8
  simp -implicitDefEqProofs (maxSteps := 2000000) (disch := first|assumption|omega|rfl|(simp only[RD];done)|(simp only[RD];omega)) only [RN,Int.reduceBEq,Int.reduceBNe,Int.reduceLT,Int.reduceLE,Int.reduceAdd,Int.reduceSub,Int.reduceMul,Nat.reduceAdd,↓bc_flatz,↓bc_flat16,↓agg_bytez, p7_5]
  refine used_ L8 d8 hC3 (by rw [wA5_m]; rfl) ?_
  rw [wA5_l]
  try simp -implicitDefEqProofs (maxSteps := 2000000) (disch := first|assumption|omega|rfl|(simp only[RD];done)|(simp only[RD];omega)) only [RN,Int.reduceBEq,Int.reduceBNe,Int.reduceLT,Int.reduceLE,Int.reduceAdd,Int.reduceSub,Int.reduceMul,Nat.reduceAdd,↓bc_flatz,↓bc_flat16,↓agg_bytez]
  refine steps_ L8 d8 hC3 (by rw [wA5_m]; rfl) ?_
  rw [wA5_s]
  try simp -implicitDefEqProofs (maxSteps := 2000000) (disch := first|assumption|omega|rfl|(simp only[RD];done)|(simp only[RD];omega)) only [RN,Int.reduceBEq,Int.reduceBNe,Int.reduceLT,Int.reduceLE,Int.reduceAdd,Int.reduceSub,Int.reduceMul,Nat.reduceAdd,↓bc_flatz,↓bc_flat16,↓agg_bytez]
  refine made_o d8 hC3 ?_
  rw [sA0_made]
  try simp -implicitDefEqProofs (maxSteps := 2000000) (disch := first|assumption|omega|rfl|(simp only[RD];done)|(simp only[RD];omega)) only [RN,Int.reduceBEq,Int.reduceBNe,Int.reduceLT,Int.reduceLE,Int.reduceAdd,Int.reduceSub,Int.reduceMul,Nat.reduceAdd,↓bc_flatz,↓bc_flat16,↓agg_bytez]
  refine sync_ L8 d8 A7 hC3 (by decide) (by rw [wA5_m]; rfl) (by rw [wA5_c]; decide) (fun h => by rw [wA5_o] at h; cases h) (fun _ h => by rw [← List.length_eq_zero_iff, wA5_l] at h; cases h) (fun _ _ _ s9 F9 G9 L9 d9 A9 u9 => ?_) (fun _ _ h => by rw [sA1_e] at h; cases h)
  have L9 : Log s9 l d wA5.done sA1 F9 := L9
  have d9 : Disk s9 d sA1 G9 := d9
  have hC9 : sA1.C 72 := by
    rcases commit_C hC3 L8.ok with h | h
    · exact h
    · rw [wA5_l] at h; omega
  have hm9 : sA1.mine wA5.done.mine = true := by
    show sA1.mine wA5.mine = true
    rw [show sA1 = ((fresh0 g60).run (commitOps wA5.grp)).2 from rfl, run_mine sA1_e, wA5_m]; rfl
  simp -implicitDefEqProofs (maxSteps := 2000000) (disch := first|assumption|omega|rfl|(simp only[RD];done)|(simp only[RD];omega)) only [RN,Int.reduceBEq,Int.reduceBNe,Int.reduceLT,Int.reduceLE,Int.reduceAdd,Int.reduceSub,Int.reduceMul,Nat.reduceAdd,↓bc_flatz,↓bc_flat16,↓agg_bytez, p7_4]
  refine made_o d9 hC9 ?_
  rw [sA1_made]
  try simp -implicitDefEqProofs (maxSteps := 2000000) (disch := first|assumption|omega|rfl|(simp only[RD];done)|(simp only[RD];omega)) only [RN,Int.reduceBEq,Int.reduceBNe,Int.reduceLT,Int.reduceLE,Int.reduceAdd,Int.reduceSub,Int.reduceMul,Nat.reduceAdd,↓bc_flatz,↓bc_flat16,↓agg_bytez]
  refine commits_ L9 d9 hC9 hm9 ?_
  rw [show wA5.done.commits = 1 by decide +kernel]
  try simp -implicitDefEqProofs (maxSteps := 2000000) (disch := first|assumption|omega|rfl|(simp only[RD];done)|(simp only[RD];omega)) only [RN,Int.reduceBEq,Int.reduceBNe,Int.reduceLT,Int.reduceLE,Int.reduceAdd,Int.reduceSub,Int.reduceMul,Nat.reduceAdd,↓bc_flatz,↓bc_flat16,↓agg_bytez]
  refine used_ L9 d9 hC9 hm9 ?_
  rw [show wA5.done.grp.length = 0 from rfl]
  simp -implicitDefEqProofs (maxSteps := 2000000) (disch := first|assumption|omega|rfl|(simp only[RD];done)|(simp only[RD];omega)) only [RN,Int.reduceBEq,Int.reduceBNe,Int.reduceLT,Int.reduceLE,Int.reduceAdd,Int.reduceSub,Int.reduceMul,Nat.reduceAdd,↓bc_flatz,↓bc_flat16,↓agg_bytez, p7_3]
  refine read_o d9 hC9 (by decide) (i := 40) fun s10 d10 u10 => ?_
  have er : sA1.read 40 = (blk 8, 0, sA1.readed) := by
    unfold DS.read
    rw [sA1_dead, sA1_at, sA1_n]
    rfl
  rw [er] at d10 ⊢
  have d10 : Disk s10 d sA1.readed G9 := d10
  have L10 : Log s10 l d wA5.done sA1.readed F9 := (L9.same u10.next fun j hj => Upd.get u10 A9.symm L9.lt j hj).disk rfl fun _ _ => rfl
  have hC10 : sA1.readed.C 73 := readed_C hC9
  have hm10 : sA1.readed.mine wA5.done.mine = true := hm9
  have hb8 := blk_len 8
  have k10 : Keeps s10 (s10.push (.cells (bc (blk 8)) none)) := (Keeps.refl _).push _
  have c10 : (s10.push (.cells (bc (blk 8)) none)).get s10.next = some (.cells (bc (blk 8)) none) := Store.get_push_same _ _
  obtain ⟨s11, hs11⟩ : ∃ s11, s11 = s10.push (.cells (bc (blk 8)) none) := ⟨_, rfl⟩
  have L11 : Log s11 l d wA5.done sA1.readed F9 := by rw [hs11]; exact L10.same k10.1 fun j hj => k10.2 j (L10.lt j hj)
  have d11 : Disk s11 d sA1.readed G9 := by rw [hs11]; exact d10.later k10
  rw [← hs11] at c10 k10
  simp -implicitDefEqProofs (maxSteps := 2000000) (disch := first|assumption|omega|rfl|(simp only[RD];done)|(simp only[RD];omega)) only [RN,Int.reduceBEq,Int.reduceBNe,Int.reduceLT,Int.reduceLE,Int.reduceAdd,Int.reduceSub,Int.reduceMul,Nat.reduceAdd,↓bc_flatz,↓bc_flat16,↓agg_bytez, hb8]
  rw [← hs11]
  clear hs11
  refine begin_ L11 d11 A9 hC10 (by decide) hm10 (by decide +kernel) (r := 1) (by decide) (fun e he => by rcases he with ⟨h, _⟩ | ⟨_, h, _⟩ <;> first | (exact absurd h (by decide +kernel))) (fun _ _ _ _ s12 F12 L12 d12 A12 u12 => ?_) (fun _ _ _ h => absurd h (by decide +kernel)) (fun _ _ _ h => absurd h (by decide +kernel))
  have L12 : Log s12 l d wA6 sA1.readed F12 := L12
  have hm12 : sA1.readed.mine wA6.mine = true := hm10
  try simp -implicitDefEqProofs (maxSteps := 2000000) (disch := first|assumption|omega|rfl|(simp only[RD];done)|(simp only[RD];omega)) only [RN,Int.reduceBEq,Int.reduceBNe,Int.reduceLT,Int.reduceLE,Int.reduceAdd,Int.reduceSub,Int.reduceMul,Nat.reduceAdd,↓bc_flatz,↓bc_flat16,↓agg_bytez]
  refine block_ (v := 2) (by decide) (by decide) ?_
  try simp -implicitDefEqProofs (maxSteps := 2000000) (disch := first|assumption|omega|rfl|(simp only[RD];done)|(simp only[RD];omega)) only [RN,Int.reduceBEq,Int.reduceBNe,Int.reduceLT,Int.reduceLE,Int.reduceAdd,Int.reduceSub,Int.reduceMul,Nat.reduceAdd,↓bc_flatz,↓bc_flat16,↓agg_bytez]
  refine lwrite_ L12 d12 A12 hC10 hm12 (blk_len 2) (x := 50) fun s13 F13 L13 d13 A13 u13 => ?_
  rw [wA6_e]
  have L13 : Log s13 l d wA7 sA1.readed F13 := L13
  have hm13 : sA1.readed.mine wA7.mine = true := by rw [show wA7.mine = 1 by decide +kernel]; rw [show wA6.mine = 1 by decide +kernel] at hm12; exact hm12
  simp -implicitDefEqProofs (maxSteps := 2000000) (disch := first|assumption|omega|rfl|(simp only[RD];done)|(simp only[RD];omega)) only [RN,Int.reduceBEq,Int.reduceBNe,Int.reduceLT,Int.reduceLE,Int.reduceAdd,Int.reduceSub,Int.reduceMul,Nat.reduceAdd,↓bc_flatz,↓bc_flat16,↓agg_bytez, p7_2]
  refine block_ (v := 2) (by decide) (by decide) ?_
  try simp -implicitDefEqProofs (maxSteps := 2000000) (disch := first|assumption|omega|rfl|(simp only[RD];done)|(simp only[RD];omega)) only [RN,Int.reduceBEq,Int.reduceBNe,Int.reduceLT,Int.reduceLE,Int.reduceAdd,Int.reduceSub,Int.reduceMul,Nat.reduceAdd,↓bc_flatz,↓bc_flat16,↓agg_bytez]
  refine lwrite_ L13 d13 A13 hC10 hm13 (blk_len 2) (x := 51) fun s14 F14 L14 d14 A14 u14 => ?_
  rw [wA7_e] at L14 ⊢
  try simp -implicitDefEqProofs (maxSteps := 2000000) (disch := first|assumption|omega|rfl|(simp only[RD];done)|(simp only[RD];omega)) only [RN,Int.reduceBEq,Int.reduceBNe,Int.reduceLT,Int.reduceLE,Int.reduceAdd,Int.reduceSub,Int.reduceMul,Nat.reduceAdd,↓bc_flatz,↓bc_flat16,↓agg_bytez]
  refine end_ L14 d14 A14 hC10 hm13 (by decide +kernel) (fun h => by rw [wA7_o] at h; cases h) fun _ s15 L15 d15 u15 => ?_
  have L15 : Log s15 l d wA8 sA1.readed F14 := L15
  have hm15 : sA1.readed.mine wA8.mine = true := hm13
  simp -implicitDefEqProofs (maxSteps := 2000000) (disch := first|assumption|omega|rfl|(simp only[RD];done)|(simp only[RD];omega)) only [RN,Int.reduceBEq,Int.reduceBNe,Int.reduceLT,Int.reduceLE,Int.reduceAdd,Int.reduceSub,Int.reduceMul,Nat.reduceAdd,↓bc_flatz,↓bc_flat16,↓agg_bytez, p7_1]
  refine block_ (v := 8) (by decide) (by decide) ?_
  have hloc : ∀ {A A' : List Nat} {a b : Store}, Upd A a b A' → a.get s10.next = some (.cells (bc (blk 8)) none) → s10.next ∉ A → b.get s10.next = some (.cells (bc (blk 8)) none) ∧ s10.next ∉ A' := fun u h hn => by
    obtain ⟨q1, q2⟩ := upd_keep u (Store.lt_of_get h) hn
    exact ⟨by rw [q1, h], q2⟩
  have hn0 : s10.next ∉ F9 ++ G9 := fun hx => by
    rcases List.mem_append.1 hx with hx | hx
    · exact absurd (L10.lt _ hx) (Nat.lt_irrefl _)
    · exact absurd (d10.lt _ hx) (Nat.lt_irrefl _)
  obtain ⟨e12, n12⟩ := hloc u12 c10 hn0
  obtain ⟨e13, n13⟩ := hloc u13 e12 n12
  obtain ⟨e14, n14⟩ := hloc u14 e13 n13
  obtain ⟨e15, n15⟩ := hloc u15 e14 (fun h => n14 (List.mem_append_left _ h))
  have e2 := eqA_bc (n := 1024) false hb8 hb8
  simp -implicitDefEqProofs (maxSteps := 2000000) (disch := first|assumption|omega|rfl|(simp only[RD];done)|(simp only[RD];omega)) only [RN,Int.reduceBEq,Int.reduceBNe,Int.reduceLT,Int.reduceLE,Int.reduceAdd,Int.reduceSub,Int.reduceMul,Nat.reduceAdd,↓bc_flatz,↓bc_flat16,↓agg_bytez, e14, e15, hb8, e2, cond_true, decide_eq_true (rfl : blk 8 = blk 8)]
  refine block_ (v := 2) (by decide) (by decide) ?_
  try simp -implicitDefEqProofs (maxSteps := 2000000) (disch := first|assumption|omega|rfl|(simp only[RD];done)|(simp only[RD];omega)) only [RN,Int.reduceBEq,Int.reduceBNe,Int.reduceLT,Int.reduceLE,Int.reduceAdd,Int.reduceSub,Int.reduceMul,Nat.reduceAdd,↓bc_flatz,↓bc_flat16,↓agg_bytez]
  refine lwrite_ L15 d15 A14 hC10 hm15 (blk_len 2) (x := 50) fun s16 F16 L16 d16 A16 u16 => ?_
  rw [wA8_e]
  try simp -implicitDefEqProofs (maxSteps := 2000000) (disch := first|assumption|omega|rfl|(simp only[RD];done)|(simp only[RD];omega)) only [RN,Int.reduceBEq,Int.reduceBNe,Int.reduceLT,Int.reduceLE,Int.reduceAdd,Int.reduceSub,Int.reduceMul,Nat.reduceAdd,↓bc_flatz,↓bc_flat16,↓agg_bytez]
  have U : Keeps σ1 s16 := by
    have U1 : Upd [] σ1 s7 (F7 ++ G) := ((((((u2.trans u3).trans u4).trans u5).trans u6).trans u7))
    have U2 := (U1.trans (upd_left u8 d7.lt)).trans u9
    have U3 := upd_then (U2.trans (upd_right u10 L9.lt)) k10
    exact upd_keeps0 (((((U3.trans u12).trans u13).trans u14).trans (upd_left u15 d14.lt)).trans u16)
  exact hq s16 (k0.trans U)
end Go.Proofs.Ytiaonndafhfkmaa
