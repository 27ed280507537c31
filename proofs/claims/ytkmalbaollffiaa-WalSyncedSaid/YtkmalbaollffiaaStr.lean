/- A step of a fresh log, written; steps behind it. -/
import Derived.Test.YtkmalbaollffiaaStq
set_option linter.all false
set_option maxRecDepth 100000
set_option maxHeartbeats 400000
namespace Go.Proofs.Ytkmalbaollffiaa
open Go.Am
variable {σ : Store} {Q : Value → Store → Prop} {g : Geo} {s : DS} {w : WS} {m : Nat} {l d nid : Nat} {F G B X : List Nat} {st sB : Store}
theorem write_keeps (w : WS) (x : Int) (b : List Int) : (w.write x b).2.g = w.g ∧ (w.write x b).2.mine = w.mine ∧ (w.write x b).2.opn = w.opn ∧ (w.write x b).2.room = w.room ∧ (w.write x b).2.commits = w.commits ∧ (w.write x b).2.steps = w.steps := by
  unfold WS.write
  (repeat' split) <;> exact ⟨rfl, rfl, rfl, rfl, rfl, rfl⟩
theorem write_no {x : Int} {b : List Int} (h : (w.write x b).1 ≠ 0) : (w.write x b).2 = w := by
  unfold WS.write at h ⊢
  (repeat' split) <;> first | rfl | (exfalso; apply h; simp_all)
theorem write_yes {x : Int} {b : List Int} (h : (w.write x b).1 = 0) : (w.write x b).2.grp = putG w.grp x b ∧ (w.write x b).2.wrote = addL w.wrote x := by
  unfold WS.write at h ⊢
  (repeat' split) <;> first | exact ⟨rfl, rfl⟩ | (exfalso; simp_all)
theorem ex_put (L : Log st l d w s F) (D : Disk st d s G) (A : Apart F G) (AB : Apart (F ++ G) (nid :: B)) (U : Upd X sB st ((F ++ G) ++ (nid :: B))) (hX : nid ∈ X) (hn : nid < st.next) (o : SObj) :
    ∃ F G, Log (st.put nid (some o)) l d w s F ∧ Disk (st.put nid (some o)) d s G ∧ Apart F G ∧ Apart (F ++ G) (nid :: B) ∧ Upd X sB (st.put nid (some o)) ((F ++ G) ++ (nid :: B)) := by
  have hne : ∀ j ∈ F ++ G, j ≠ nid := fun j hj e => AB j hj (by rw [e]; exact List.mem_cons_self ..)
  have nx : (st.put nid (some o)).next = st.next := by rw [next_max]; omega
  refine ⟨F, G, L.same (by omega) fun j hj => get_put_ne' (hne j (List.mem_append_left _ hj)), D.same fun j hj => get_put_ne' (hne j (List.mem_append_right _ hj)), A, AB, by rw [nx]; exact U.next, fun j hj => by rw [nx]; exact U.ids j hj, fun j hj hn => ?_⟩
  rw [get_put_ne' (fun e => hn (by rw [e]; exact hX)), U.same j hj hn]
theorem ex_app {s4 : Store} {B' : List Nat} (L : Log st l d w s F) (D : Disk st d s G) (A : Apart F G) (AB : Apart (F ++ G) (nid :: B)) (U : Upd X sB st ((F ++ G) ++ (nid :: B))) (hn : nid < st.next) (hnB : nid ∉ B) (nx : st.next ≤ s4.next) (hs : ∀ j, j < st.next → j ∉ B → s4.get j = st.get j) (hB : ∀ j ∈ B', st.next ≤ j ∧ j < s4.next) :
    ∃ F G, Log s4 l d w s F ∧ Disk s4 d s G ∧ Apart F G ∧ Apart (F ++ G) (nid :: B') ∧ Upd X sB s4 ((F ++ G) ++ (nid :: B')) := by
  have hne : ∀ j ∈ F ++ G, j ∉ B := fun j hj e => AB j hj (List.mem_cons_of_mem _ e)
  have hlt : ∀ j ∈ F ++ G, j < st.next := fun j hj => by
    rcases List.mem_append.1 hj with h | h
    · exact L.lt j h
    · exact D.lt j h
  have e1 : ∀ j ∈ F ++ G, s4.get j = st.get j := fun j hj => hs j (hlt j hj) (hne j hj)
  refine ⟨F, G, L.same nx fun j hj => e1 j (List.mem_append_left _ hj), D.same fun j hj => e1 j (List.mem_append_right _ hj), A, fun j hj hb => ?_, Nat.le_trans U.next nx, fun j hj => ?_, fun j hj hx => ?_⟩
  · rcases List.mem_cons.1 hb with h | h
    · exact AB j hj (by rw [h]; exact List.mem_cons_self ..)
    · have := hlt j hj; have := (hB j h).1; omega
  · rcases List.mem_append.1 hj with h | h
    · have := U.ids j (List.mem_append_left _ h); exact ⟨by omega, this.2⟩
    · rcases List.mem_cons.1 h with h | h
      · have := U.ids j (List.mem_append_right _ (by rw [h]; exact List.mem_cons_self ..)); exact ⟨by omega, this.2⟩
      · have := hB j h; exact ⟨this.2, .inr (Nat.le_trans U.next this.1)⟩
  · rw [hs j (Nat.lt_of_lt_of_le hj U.next) fun hb => ?_, U.same j hj hx]
    rcases (U.ids j (List.mem_append_right _ (List.mem_cons_of_mem _ hb))).2 with h | h
    · exact hx h
    · omega
/-- A step is begun on a disk that does not stop. -/
theorem begin_live (L : Log st l d w s F) (D : Disk st d s G) (A : Apart F G) (hC : s.C m) (hm0 : m + 2000 < 2 ^ 29) (hl : s.live) (hmn : s.mine w.mine = true) (hcm : w.commits < 2 ^ 61) (ho : w.opn = false) {r : Int} (hr : 1 ≤ r ∧ r ≤ w.g.log - 1)
    (hq : ∀ (st1 : Store) (w1 : WS) (s1 : DS) (F1 G1 : List Nat), Log st1 l d (w1.begin r) s1 F1 → Disk st1 d s1 G1 → Apart F1 G1 → Upd (F ++ G) st st1 (F1 ++ G1) → s1.C (m + 600) → s1.live → w1.g = w.g → w1.mine = w.mine → s1.mine w.mine = true → w1.commits ≤ w.commits + 1 → w1.steps = w.steps → Q (.int .i64 0) st1) :
    Does Try.prog 9 [.pointer (some ⟨l, 0, none⟩), .int .i64 r] st Q := by
  have hW := L.ok
  have hg := hW.g
  unfold Geo.ok at hg
  have hn : w.g.blocks ≤ s.n := by obtain ⟨_, _, _, _, _, _, _, _, _, h, _⟩ := L; exact h
  obtain ⟨e0, lv⟩ := commit_live hl hW hn
  refine begin_ L D A hC (by omega) hmn (by omega) (r := r) (by omega) (fun e he => ?_) (fun _ _ _ _ st1 F1 L1 D1 A1 U1 => ?_) (fun _ _ _ _ _ st1 F1 G1 L1 D1 A1 U1 => ?_) (fun _ _ _ _ h => ?_)
  · rcases he with ⟨h, _⟩ | ⟨_, h, _⟩
    · rw [ho] at h; cases h
    · omega
  · exact hq st1 w s F1 G L1 D1 A1 U1 (hC.le (by omega)) hl rfl rfl hmn (by omega) rfl
  · exact hq st1 w.done _ F1 G1 L1 D1 A1 U1 (commit_C' hC hW) lv rfl rfl (by rw [run_mine e0]; exact hmn) (Int.le_refl _) rfl
  · rw [e0] at h; cases h
end Go.Proofs.Ytkmalbaollffiaa
