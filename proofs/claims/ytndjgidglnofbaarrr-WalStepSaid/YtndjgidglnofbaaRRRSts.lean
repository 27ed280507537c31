/- What a step of a fresh log has written is read. -/
import Derived.Test.YtndjgidglnofbaaRRRStr
set_option linter.all false
set_option maxRecDepth 100000
set_option maxHeartbeats 400000
namespace Go.Proofs.YtndjgidglnofbaaRRR
open Go.Am
variable {σ : Store} {Q : Value → Store → Prop} {g : Geo} {s : DS} {w : WS} {m : Nat} {l d nid : Nat} {F G B X : List Nat} {st sB : Store}
/-- A fresh disk, read so often. -/
def freshR (g : Geo) (q : Int) : DS := { fresh0 g with reads := q }
theorem freshR_at (g : Geo) (q x : Int) : (freshR g q).at x = zb := rfl
theorem freshR_live (g : Geo) (q : Int) : (freshR g q).live := ⟨rfl, by show (-1 : Int) < 0; decide⟩
theorem freshR_read {q x : Int} (h0 : 0 ≤ x) (h1 : x < g.blocks) : (freshR g q).read x = (zb, 0, freshR g (q + 1)) := by
  unfold DS.read
  rw [show (freshR g q).dead = false from rfl, if_neg (by decide), if_neg (by show ¬ (x < 0 ∨ g.blocks ≤ x); omega)]
  rfl
theorem at_log (hW : WOk w) (hg : w.g = g) {x : Int} (hx : x < 1 + g.log) : w.at (fresh0 g) x = zb := by
  unfold WS.at
  have : getG w.grp x = none := by
    cases h : getG w.grp x with
    | none => rfl
    | some b =>
      have := hW.dom _ ((getG_iff hW.nodup).1 h)
      rw [hg] at this
      have := this.1
      exfalso; simp only at this; omega
  rw [this]; rfl
theorem stw_b {K : Value → Store → Prop} {xv : Value} {b0 n : Nat} {now : List Int} (L : Log st l d w (fresh0 g) F) (D : Disk st d (fresh0 g) G) (A : Apart F G) (AB : Apart (F ++ G) (nid :: idsV xv)) (sl : SlG st 1 xv w.wrote.length (ic w.wrote)) (arr : st.get nid = some (.cells (bc now) none)) (nl : now.length = n * 1024)
    (nv : ∀ x : Nat, x < n → (now.drop (x * 1024)).take 1024 = w.at (fresh0 g) x) (wg : w.g = g) (wo : w.opn = true) (wm : w.mine = 1) (ord : ordL w.grp = w.wrote) (cnt : w.commits = 0 ∧ w.steps = 0) (hn : g.blocks = (n : Nat)) (h3 : n ≤ 300) (c0 : st.get b0 = some (.cells (ic g.cells) none)) (nb : b0 ∉ F ++ G) (hK : ∀ st', K (.bool true) st') :
    p5_9 (.pointer (some ⟨b0, 0, none⟩)) (.pointer (some ⟨l, 0, none⟩)) (.pointer (some ⟨d, 0, none⟩)) K (.slice (some ⟨nid, 0, none⟩) n n) xv st := by
  have hW := L.ok
  have hg := hW.g
  rw [wg] at hg
  have e0 : rdOne (some (.cells (ic g.cells) none)) 0 = some (.int .i64 (n : Nat)) := by rw [← hn]; rfl
  have z1 := zb_len
  simp -implicitDefEqProofs (maxSteps := 2000000) (disch := first|assumption|omega|rfl|(simp only[RD];done)|(simp only[RD];omega)) only [RN,Int.reduceBEq,Int.reduceBNe,Int.reduceLT,Int.reduceLE,Int.reduceAdd,Int.reduceSub,Int.reduceMul,Nat.reduceAdd,↓bc_flatz,↓bc_flat16,↓agg_bytez, p5_9]
  refine lop1 (fun k x st' => ∃ (i : Nat) (q : Int) (F' G' : List Nat), k + i = n ∧ x = .int .i64 i ∧ Log st' l d w (freshR g q) F' ∧ Disk st' d (freshR g q) G' ∧ Apart F' G' ∧ Apart (F' ++ G') (nid :: idsV xv) ∧ SlG st' 1 xv w.wrote.length (ic w.wrote) ∧ st'.get nid = some (.cells (bc now) none) ∧ st'.get b0 = some (.cells (ic g.cells) none) ∧ b0 ∉ F' ++ G' ∧ (freshR g q).C (2 + 2 * i)) n
    ⟨0, (fresh0 g).reads, F, G, rfl, rfl, L, D, A, AB, sl, arr, c0, nb, fresh0_C hg⟩ ?_
  rintro k x st' next ⟨i, q, F', G', hi, rfl, L', D', A', AB', sl', arr', c0', nb', C'⟩ hnx
  have mm : ∀ q, (freshR g q).mine w.mine = true := fun q => by rw [wm]; rfl
  by_cases h5 : (i : Int) < (n : Nat)
  · have h6 : i < n := by omega
    simp -implicitDefEqProofs (maxSteps := 2000000) (disch := first|assumption|omega|rfl|(simp only[RD];done)|(simp only[RD];omega)) only [RN,Int.reduceBEq,Int.reduceBNe,Int.reduceLT,Int.reduceLE,Int.reduceAdd,Int.reduceSub,Int.reduceMul,Nat.reduceAdd,↓bc_flatz,↓bc_flat16,↓agg_bytez, c0', e0, decide_eq_true h5]
    refine lread_ L' D' A' C' (by omega) (mm q) (x := (i : Nat)) fun st1 F1 q1 L1 D1 C1 A1 U1 => ?_
    have L1 : Log st1 l d w (freshR g q1) F1 := L1
    have D1 : Disk st1 d (freshR g q1) G' := D1
    have C1 : (freshR g q1).C (2 + 2 * i + 1) := C1
    have ev : (if ((i : Nat) : Int) < 0 ∨ w.g.blocks ≤ ((i : Nat) : Int) then Value.tuple #[.agg ⟨bc zb⟩, .int .i64 2] else if 1 ≤ ((i : Nat) : Int) ∧ ((i : Nat) : Int) < 1 + w.g.log then .tuple #[.agg ⟨bc ((freshR g q).at (i : Nat))⟩, .int .i64 0] else .tuple #[.agg ⟨bc (w.at (freshR g q) (i : Nat))⟩, .int .i64 0]) = .tuple #[.agg ⟨bc (w.at (fresh0 g) (i : Nat))⟩, .int .i64 0] := by
      rw [wg, if_neg (by omega)]
      by_cases h : 1 ≤ ((i : Nat) : Int) ∧ ((i : Nat) : Int) < 1 + g.log
      · rw [if_pos h, freshR_at, at_log hW wg h.2]
      · rw [if_neg h]; rfl
    rw [ev]
    have hv := nv i h6
    have hvl : (w.at (fresh0 g) (i : Nat)).length = 1024 := by rw [← hv, List.length_take, List.length_drop, nl]; omega
    generalize w.at (fresh0 g) (i : Nat) = b at hv hvl
    have AB1 := AB'.upd U1 (fun j hj => by
      rcases List.mem_cons.1 hj with h | h
      · rw [h]; exact Store.lt_of_get arr'
      · exact sl'.lt j h)
    have hsame : ∀ {a z : Store} {Y Z : List Nat}, Upd Y a z Z → ∀ {j : Nat} {o : SObj}, a.get j = some o → j ∉ Y → z.get j = some o := fun u j o h hn => by rw [u.same j (Store.lt_of_get h) hn, h]
    have hnid : ∀ {Y : List Nat}, Apart Y (nid :: idsV xv) → nid ∉ Y := fun h hn => h _ hn (List.mem_cons_self ..)
    have arr1 := hsame U1 arr' (hnid AB')
    have c01 := hsame U1 c0' nb'
    have nb1 : b0 ∉ F1 ++ G' := (upd_keep U1 (Store.lt_of_get c0') nb').2
    have sl1 : SlG st1 1 xv w.wrote.length (ic w.wrote) := sl'.same fun j hj => Upd.get U1 AB' (fun j hj => by
      rcases List.mem_cons.1 hj with h | h
      · rw [h]; exact Store.lt_of_get arr'
      · exact sl'.lt j h) j (List.mem_cons_of_mem _ hj)
    simp -implicitDefEqProofs (maxSteps := 2000000) (disch := first|assumption|omega|rfl|(simp only[RD];done)|(simp only[RD];omega)) only [RN,Int.reduceBEq,Int.reduceBNe,Int.reduceLT,Int.reduceLE,Int.reduceAdd,Int.reduceSub,Int.reduceMul,Nat.reduceAdd,↓bc_flatz,↓bc_flat16,↓agg_bytez, p5_6, hvl]
    obtain ⟨st2, hs2⟩ : ∃ st2, st2 = st1.push (.cells (bc b) none) := ⟨_, rfl⟩
    have k2 : Keeps st1 st2 := by rw [hs2]; exact (Keeps.refl _).push _
    have c2 : st2.get st1.next = some (.cells (bc b) none) := by rw [hs2]; exact Store.get_push_same _ _
    rw [← hs2]
    have D2 := D1.later k2
    have L2 : Log st2 l d w (freshR g q1) F1 := L1.same k2.1 fun j hj => k2.2 j (L1.lt j hj)
    have hlG : st1.next ∉ F1 ++ G' := fun h => by
      rcases List.mem_append.1 h with h | h
      · exact absurd (L1.lt _ h) (Nat.lt_irrefl _)
      · exact absurd (D1.lt _ h) (Nat.lt_irrefl _)
    refine read_o D2 C1 (by omega) (i := (i : Nat)) fun st3 D3 U3 => ?_
    rw [freshR_read (by omega) (by omega)] at D3 ⊢
    have D3 : Disk st3 d (freshR g (q1 + 1)) G' := D3
    have nG : ∀ {j : Nat}, j ∉ F1 ++ G' → j ∉ G' := fun h hg => h (List.mem_append_right _ hg)
    have c3 := hsame U3 c2 (nG hlG)
    have arr3 := hsame U3 (k2.get arr1) (nG (hnid AB1))
    have c03 := hsame U3 (k2.get c01) (nG nb1)
    have L3 : Log st3 l d w (freshR g (q1 + 1)) F1 := (L2.same U3.next fun j hj => Upd.get U3 A1.symm L2.lt j hj).disk rfl fun _ _ => rfl
    have sl3 : SlG st3 1 xv w.wrote.length (ic w.wrote) := (sl1.same fun j hj => k2.2 j (sl1.lt j hj)).same fun j hj => Upd.get U3 (fun j hj hx => AB1 j (List.mem_append_right _ hj) (List.mem_cons_of_mem _ hx)) (fun j hj => by have := sl1.lt j hj; have := k2.1; omega) j hj
    have C3 : (freshR g (q1 + 1)).C (2 + 2 * i + 1 + 1) := readed_C C1
    try simp -implicitDefEqProofs (maxSteps := 2000000) (disch := first|assumption|omega|rfl|(simp only[RD];done)|(simp only[RD];omega)) only [RN,Int.reduceBEq,Int.reduceBNe,Int.reduceLT,Int.reduceLE,Int.reduceAdd,Int.reduceSub,Int.reduceMul,Nat.reduceAdd,↓bc_flatz,↓bc_flat16,↓agg_bytez]
    obtain ⟨st4, hs4⟩ : ∃ st4, st4 = st3.push (.cells (bc zb) none) := ⟨_, rfl⟩
    have k4 : Keeps st3 st4 := by rw [hs4]; exact (Keeps.refl _).push _
    have c4 : st4.get st3.next = some (.cells (bc zb) none) := by rw [hs4]; exact Store.get_push_same _ _
    have c4' := k4.get c3
    have arr4 := k4.get arr3
    have rp : rdPart (some (.cells (bc now) none)) (i * 1024) 1024 = some (.agg ⟨bc b⟩) := by rw [rdPart_bc (by rw [nl]; omega), hv]
    have q1' := eqA_bc (n := 1024) true hvl hvl
    have q2' := eqA_bc (n := 1024) true z1 z1
    try rw [← hs4]
    simp -implicitDefEqProofs (maxSteps := 2000000) (disch := first|assumption|omega|rfl|(simp only[RD];done)|(simp only[RD];omega)) only [RN,Int.reduceBEq,Int.reduceBNe,Int.reduceLT,Int.reduceLE,Int.reduceAdd,Int.reduceSub,Int.reduceMul,Nat.reduceAdd,↓bc_flatz,↓bc_flat16,↓agg_bytez, p5_5, c4, c4', arr4, rp, hvl, z1, q1', q2', Int.toNat_natCast, decide_eq_true (rfl : b = b), decide_eq_true (rfl : zb = zb)]
    refine hnx _ _ (by omega) ⟨i + 1, q1 + 1, F1, G', by omega, by congr 1, L3.same k4.1 fun j hj => k4.2 j (L3.lt j hj), D3.later k4, A1, AB1, sl3.same fun j hj => k4.2 j (sl3.lt j hj), arr4, k4.get c03, nb1, C3.le (by omega)⟩
  · have h7 : i = n := by omega
    simp -implicitDefEqProofs (maxSteps := 2000000) (disch := first|assumption|omega|rfl|(simp only[RD];done)|(simp only[RD];omega)) only [RN,Int.reduceBEq,Int.reduceBNe,Int.reduceLT,Int.reduceLE,Int.reduceAdd,Int.reduceSub,Int.reduceMul,Nat.reduceAdd,↓bc_flatz,↓bc_flat16,↓agg_bytez, c0', e0, decide_eq_false h5]
    refine end_ L' D' A' C' (mm q) (by rw [cnt.2]; decide) (fun h => by rw [wo] at h; cases h) fun _ st1 L1 D1 U1 => ?_
    try simp -implicitDefEqProofs (maxSteps := 2000000) (disch := first|assumption|omega|rfl|(simp only[RD];done)|(simp only[RD];omega)) only [RN,Int.reduceBEq,Int.reduceBNe,Int.reduceLT,Int.reduceLE,Int.reduceAdd,Int.reduceSub,Int.reduceMul,Nat.reduceAdd,↓bc_flatz,↓bc_flat16,↓agg_bytez]
    refine made_o D1 C' ?_
    rw [show (freshR g q).made = 0 from rfl]
    try simp -implicitDefEqProofs (maxSteps := 2000000) (disch := first|assumption|omega|rfl|(simp only[RD];done)|(simp only[RD];omega)) only [RN,Int.reduceBEq,Int.reduceBNe,Int.reduceLT,Int.reduceLE,Int.reduceAdd,Int.reduceSub,Int.reduceMul,Nat.reduceAdd,↓bc_flatz,↓bc_flat16,↓agg_bytez]
    have AF : Apart F' (idsV xv) := fun j hj hx => AB' j (List.mem_append_left _ hj) (List.mem_cons_of_mem _ hx)
    have hcn := hW.cnt
    refine stw_c (m := 602) L1 D1 A' (C'.le (by omega)) (by omega) (freshR_live g q) (by show (freshR g q).mine w.mine = true; exact mm q) (by show w.commits < 1000; omega) (by show w.steps + 1 < 1000; omega) rfl (sl'.same fun j hj => Upd.get U1 AF sl'.lt j hj) (fun j hj hx => AB' j hj (List.mem_cons_of_mem _ hx)) (fun x hx => ?_) ?_ hK
    · rw [← ord] at hx
      obtain ⟨p, hp, rfl⟩ := List.mem_map.1 hx
      exact hW.dom p hp
    · rw [← ord, ordL_len]
      have := hW.many
      rw [wg] at this
      have hgg := hg
      unfold Geo.ok at hgg
      omega
end Go.Proofs.YtndjgidglnofbaaRRR
