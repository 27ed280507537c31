/- A step of a fresh log, written; steps behind it. -/
import Derived.Test.YtlogocelkpmkbaaStq
set_option linter.all false
set_option maxRecDepth 100000
set_option maxHeartbeats 400000
namespace Go.Proofs.Ytlogocelkpmkbaa
open Go.Am
variable {σ : Store} {Q : Value → Store → Prop} {g : Geo} {s : DS} {w : WS} {m : Nat} {l d nid : Nat} {F G B X : List Nat} {st sB : Store}
theorem write_keeps (w : WS) (x : Int) (b : List Int) : (w.write x b).2.g = w.g ∧ (w.write x b).2.mine = w.mine ∧ (w.write x b).2.opn = w.opn ∧ (w.write x b).2.room = w.room ∧ (w.write x b).2.commits = w.commits ∧ (w.write x b).2.steps = w.steps := by
  unfold WS.write
  (repeat' split) <;> exact ⟨rfl, rfl, rfl, rfl, rfl, rfl⟩
theorem write_no {x : Int} {b : List Int} (h : (w.write x b).1 ≠ 0) : (w.write x b).2 = w := by
  unfold WS.write at h ⊢
  (repeat' split) <;> first | rfl | (exfalso; apply h; simp_all)
theorem write_yes {x : Int} {b : List Int} (h : (w.write x b).1 = 0) : (w.write x b).2.grp = putG w.grp x b ∧ (w.write x b).2.wrote = addL w.wrote x := by
  unfold WS.write at h ⊢
  (repeat' split) <;> first | exact ⟨rfl, rfl⟩ | (exfalso; simp_all)
theorem ex_put (L : Log st l d w s F) (D : Disk st d s G) (A : Apart F G) (AB : Apart (F ++ G) (nid :: B)) (U : Upd X sB st ((F ++ G) ++ (nid :: B))) (hX : nid ∈ X) (hn : nid < st.next) (o : SObj) :
    ∃ F G, Log (st.put nid (some o)) l d w s F ∧ Disk (st.put nid (some o)) d s G ∧ Apart F G ∧ Apart (F ++ G) (nid :: B) ∧ Upd X sB (st.put nid (some o)) ((F ++ G) ++ (nid :: B)) := by
  have hne : ∀ j ∈ F ++ G, j ≠ nid := fun j hj e => AB j hj (by rw [e]; exact List.mem_cons_self ..)
  have nx : (st.put nid (some o)).next = st.next := by rw [next_max]; omega
  refine ⟨F, G, L.same (by omega) fun j hj => get_put_ne' (hne j (List.mem_append_left _ hj)), D.same fun j hj => get_put_ne' (hne j (List.mem_append_right _ hj)), A, AB, by rw [nx]; exact U.next, fun j hj => by rw [nx]; exact U.ids j hj, fun j hj hn => ?_⟩
  rw [get_put_ne' (fun e => hn (by rw [e]; exact hX)), U.same j hj hn]
theorem ex_app {s4 : Store} {B' : List Nat} (L : Log st l d w s F) (D : Disk st d s G) (A : Apart F G) (AB : Apart (F ++ G) (nid :: B)) (U : Upd X sB st ((F ++ G) ++ (nid :: B))) (hn : nid < st.next) (hnB : nid ∉ B) (nx : st.next ≤ s4.next) (hs : ∀ j, j < st.next → j ∉ B → s4.get j = st.get j) (hB : ∀ j ∈ B', st.next ≤ j ∧ j < s4.next) :
    ∃ F G, Log s4 l d w s F ∧ Disk s4 d s G ∧ Apart F G ∧ Apart (F ++ G) (nid :: B') ∧ Upd X sB s4 ((F ++ G) ++ (nid :: B')) := by
  have hne : ∀ j ∈ F ++ G, j ∉ B := fun j hj e => AB j hj (List.mem_cons_of_mem _ e)
  have hlt : ∀ j ∈ F ++ G, j < st.next := fun j hj => by
    rcases List.mem_append.1 hj with h | h
    · exact L.lt j h
    · exact D.lt j h
  have e1 : ∀ j ∈ F ++ G, s4.get j = st.get j := fun j hj => hs j (hlt j hj) (hne j hj)
  refine ⟨F, G, L.same nx fun j hj => e1 j (List.mem_append_left _ hj), D.same fun j hj => e1 j (List.mem_append_right _ hj), A, fun j hj hb => ?_, Nat.le_trans U.next nx, fun j hj => ?_, fun j hj hx => ?_⟩
  · rcases List.mem_cons.1 hb with h | h
    · exact AB j hj (by rw [h]; exact List.mem_cons_self ..)
    · have := hlt j hj; have := (hB j h).1; omega
  · rcases List.mem_append.1 hj with h | h
    · have := U.ids j (List.mem_append_left _ h); exact ⟨by omega, this.2⟩
    · rcases List.mem_cons.1 h with h | h
      · have := U.ids j (List.mem_append_right _ (by rw [h]; exact List.mem_cons_self ..)); exact ⟨by omega, this.2⟩
      · have := hB j h; exact ⟨this.2, .inr (Nat.le_trans U.next this.1)⟩
  · rw [hs j (Nat.lt_of_lt_of_le hj U.next) fun hb => ?_, U.same j hj hx]
    rcases (U.ids j (List.mem_append_right _ (List.mem_cons_of_mem _ hb))).2 with h | h
    · exact hx h
    · omega
/-- A step is begun on a disk that does not stop. -/
theorem begin_live (L : Log st l d w s F) (D : Disk st d s G) (A : Apart F G) (hC : s.C m) (hm0 : m + 2000 < 2 ^ 29) (hl : s.live) (hmn : s.mine w.mine = true) (hcm : w.commits < 2 ^ 61) (ho : w.opn = false) {r : Int} (hr : 1 ≤ r ∧ r ≤ w.g.log - 1)
    (hq : ∀ (st1 : Store) (w1 : WS) (s1 : DS) (F1 G1 : List Nat), Log st1 l d (w1.begin r) s1 F1 → Disk st1 d s1 G1 → Apart F1 G1 → Upd (F ++ G) st st1 (F1 ++ G1) → s1.C (m + 600) → s1.live → w1.g = w.g → w1.mine = w.mine → s1.mine w.mine = true → w1.commits ≤ w.commits + 1 → w1.steps = w.steps → Q (.int .i64 0) st1) :
    Does Try.prog 9 [.pointer (some ⟨l, 0, none⟩), .int .i64 r] st Q := by
  have hW := L.ok
  have hg := hW.g
  unfold Geo.ok at hg
  have hn : w.g.blocks ≤ s.n := by obtain ⟨_, _, _, _, _, _, _, _, _, h, _⟩ := L; exact h
  obtain ⟨e0, lv⟩ := commit_live hl hW hn
  refine begin_ L D A hC (by omega) hmn (by omega) (r := r) (by omega) (fun e he => ?_) (fun _ _ _ _ st1 F1 L1 D1 A1 U1 => ?_) (fun _ _ _ _ _ st1 F1 G1 L1 D1 A1 U1 => ?_) (fun _ _ _ _ h => ?_)
  · rcases he with ⟨h, _⟩ | ⟨_, h, _⟩
    · rw [ho] at h; cases h
    · omega
  · exact hq st1 w s F1 G L1 D1 A1 U1 (hC.le (by omega)) hl rfl rfl hmn (by omega) rfl
  · exact hq st1 w.done _ F1 G1 L1 D1 A1 U1 (commit_C' hC hW) lv rfl rfl (by rw [run_mine e0]; exact hmn) (Int.le_refl _) rfl
  · rw [e0] at h; cases h
/-- Steps of one block each. -/
theorem stw_c {K : Value → Store → Prop} {xv : Value} {wr : List Int} (L : Log st l d w s F) (D : Disk st d s G) (A : Apart F G) (hC : s.C m) (hm0 : m + 700000 < 2 ^ 29) (hl : s.live) (hmn : s.mine w.mine = true) (hcm : w.commits < 1000) (hst : w.steps < 1000) (ho : w.opn = false)
    (sl : SlG st 1 xv wr.length (ic wr)) (AB : Apart (F ++ G) (idsV xv)) (hwr : ∀ x ∈ wr, 1 + w.g.log ≤ x ∧ x < w.g.blocks) (hlen : wr.length ≤ 1000) (hK : ∀ st', K (.bool true) st') :
    p4_8 (.bool false) K st xv (.pointer (some ⟨l, 0, none⟩)) := by
  simp -implicitDefEqProofs (maxSteps := 2000000) (disch := first|assumption|omega|rfl|(simp only[RD];done)|(simp only[RD];omega)) only [RN,Int.reduceBEq,Int.reduceBNe,Int.reduceLT,Int.reduceLE,Int.reduceAdd,Int.reduceSub,Int.reduceMul,Nat.reduceAdd,↓bc_flatz,↓bc_flat16,↓agg_bytez, p4_8]
  refine lop1 (fun k x st' => ∃ (i : Nat) (w' : WS) (s' : DS) (F' G' : List Nat), k + i = wr.length ∧ x = .int .i64 i ∧ Log st' l d w' s' F' ∧ Disk st' d s' G' ∧ Apart F' G' ∧ Apart (F' ++ G') (idsV xv) ∧ SlG st' 1 xv wr.length (ic wr) ∧ s'.C (m + 600 * i) ∧ s'.live ∧ w'.opn = false ∧ w'.g = w.g ∧ s'.mine w'.mine = true ∧ w'.commits ≤ w.commits + i ∧ w'.steps = w.steps + i) wr.length
    ⟨0, w, s, F, G, rfl, rfl, L, D, A, AB, sl, hC, hl, ho, rfl, hmn, by omega, by omega⟩ ?_
  rintro k x st' next ⟨i, w', s', F', G', hi, rfl, L', D', A', AB', sl', C', lv', ho', hg', hmn', hcm', hst'⟩ hnx
  by_cases h5 : (i : Int) < wr.length
  · have h6 : i < wr.length := by omega
    obtain ⟨y, hy⟩ : ∃ y, wr[i]? = some y := ⟨_, List.getElem?_eq_getElem h6⟩
    have hyr := hwr y (List.mem_of_getElem? hy)
    have hgo := L'.ok.g
    unfold Geo.ok at hgo
    simp -implicitDefEqProofs (maxSteps := 2000000) (disch := first|assumption|omega|rfl|(simp only[RD];done)|(simp only[RD];omega)) only [RN,Int.reduceBEq,Int.reduceBNe,Int.reduceLT,Int.reduceLE,Int.reduceAdd,Int.reduceSub,Int.reduceMul,Nat.reduceAdd,↓bc_flatz,↓bc_flat16,↓agg_bytez, sl'.len, decide_eq_true h5]
    refine begin_live L' D' A' C' (by omega) lv' hmn' (by omega) ho' (r := 1) (by omega) fun st1 w1 s1 F1 G1 L1 D1 A1 U1 C1 lv1 g1 m1 mm1 cm1 t1 => ?_
    have sl1 : SlG st1 1 xv wr.length (ic wr) := sl'.same fun j hj => Upd.get U1 AB' sl'.lt j hj
    have AB1 := AB'.upd U1 sl'.lt
    obtain ⟨a, o, q1, q2, q3⟩ := slr_get sl1.r hy
    try simp -implicitDefEqProofs (maxSteps := 2000000) (disch := first|assumption|omega|rfl|(simp only[RD];done)|(simp only[RD];omega)) only [RN,Int.reduceBEq,Int.reduceBNe,Int.reduceLT,Int.reduceLE,Int.reduceAdd,Int.reduceSub,Int.reduceMul,Nat.reduceAdd,↓bc_flatz,↓bc_flat16,↓agg_bytez]
    refine block_ (v := 9) (by decide) (by decide) ?_
    simp -implicitDefEqProofs (maxSteps := 2000000) (disch := first|assumption|omega|rfl|(simp only[RD];done)|(simp only[RD];omega)) only [RN,Int.reduceBEq,Int.reduceBNe,Int.reduceLT,Int.reduceLE,Int.reduceAdd,Int.reduceSub,Int.reduceMul,Nat.reduceAdd,↓bc_flatz,↓bc_flat16,↓agg_bytez, p4_7, q1, q3]
    have mm1' : s1.mine (w1.begin 1).mine = true := by show s1.mine w1.mine = true; rw [m1]; exact mm1
    refine lwrite_ L1 D1 A1 C1 mm1' (blk_len 9) (x := y) fun st2 F2 L2 D2 A2 U2 => ?_
    obtain ⟨f1, f2, f3, f4, f5, f6⟩ := write_keeps (w1.begin 1) y (blk 9)
    have e0 : ((w1.begin 1).write y (blk 9)).1 = 0 := by
      rw [write_want L1.ok rfl]
      have a1 : (w1.begin 1).g = w.g := by show w1.g = w.g; rw [g1, hg']
      have a2 : (w1.begin 1).wrote = [] := rfl
      have a3 : (w1.begin 1).room = 1 := rfl
      rw [a1, a2, a3, if_neg (by omega), if_neg (fun h => by have := h.2; simp at this)]
    rw [e0]
    try simp -implicitDefEqProofs (maxSteps := 2000000) (disch := first|assumption|omega|rfl|(simp only[RD];done)|(simp only[RD];omega)) only [RN,Int.reduceBEq,Int.reduceBNe,Int.reduceLT,Int.reduceLE,Int.reduceAdd,Int.reduceSub,Int.reduceMul,Nat.reduceAdd,↓bc_flatz,↓bc_flat16,↓agg_bytez]
    have b6 : ((w1.begin 1).write y (blk 9)).2.steps = w.steps + i := by rw [f6]; show w1.steps = _; rw [t1, hst']
    have b5 : ((w1.begin 1).write y (blk 9)).2.commits ≤ w.commits + i + 1 := by rw [f5]; show w1.commits ≤ _; omega
    have b2 : ((w1.begin 1).write y (blk 9)).2.mine = w'.mine := by rw [f2]; exact m1
    refine end_ L2 D2 A2 C1 (by rw [b2]; exact mm1) (by rw [b6]; omega) (fun h => by rw [f3] at h; cases h) fun _ st3 L3 D3 U3 => ?_
    try simp -implicitDefEqProofs (maxSteps := 2000000) (disch := first|assumption|omega|rfl|(simp only[RD];done)|(simp only[RD];omega)) only [RN,Int.reduceBEq,Int.reduceBNe,Int.reduceLT,Int.reduceLE,Int.reduceAdd,Int.reduceSub,Int.reduceMul,Nat.reduceAdd,↓bc_flatz,↓bc_flat16,↓agg_bytez]
    have AB2 := AB1.upd U2 sl1.lt
    have sl2 : SlG st2 1 xv wr.length (ic wr) := sl1.same fun j hj => Upd.get U2 AB1 sl1.lt j hj
    have AF : Apart F2 (idsV xv) := fun j hj => AB2 j (List.mem_append_left _ hj)
    have AG : Apart G1 (idsV xv) := fun j hj => AB2 j (List.mem_append_right _ hj)
    have sl3 : SlG st3 1 xv wr.length (ic wr) := sl2.same fun j hj => Upd.get U3 AF sl2.lt j hj
    refine hnx _ _ (by omega) ⟨i + 1, _, s1, F2, G1, by omega, by congr 1, L3, D3, A2, AB2, sl3, C1.le (by omega), lv1, rfl, ?_, ?_, ?_, ?_⟩
    · show ((w1.begin 1).write y (blk 9)).2.g = w.g
      rw [f1]; show w1.g = w.g; rw [g1, hg']
    · show s1.mine ((w1.begin 1).write y (blk 9)).2.mine = true
      rw [b2]; exact mm1
    · show ((w1.begin 1).write y (blk 9)).2.commits ≤ w.commits + ((i + 1 : Nat) : Int)
      omega
    · show ((w1.begin 1).write y (blk 9)).2.steps + 1 = w.steps + ((i + 1 : Nat) : Int)
      omega
  · simp -implicitDefEqProofs (maxSteps := 2000000) (disch := first|assumption|omega|rfl|(simp only[RD];done)|(simp only[RD];omega)) only [RN,Int.reduceBEq,Int.reduceBNe,Int.reduceLT,Int.reduceLE,Int.reduceAdd,Int.reduceSub,Int.reduceMul,Nat.reduceAdd,↓bc_flatz,↓bc_flat16,↓agg_bytez, sl'.len, decide_eq_false h5]
    exact hK _
end Go.Proofs.Ytlogocelkpmkbaa
