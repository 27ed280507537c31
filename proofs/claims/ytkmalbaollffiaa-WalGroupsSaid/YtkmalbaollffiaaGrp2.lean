/- WalGroups: a log, its disk, and the law's own list of the group's blocks, in one. -/
import Derived.Test.YtkmalbaollffiaaGrp
import Derived.Test.YtkmalbaollffiaaCmb
set_option linter.all false
set_option maxRecDepth 100000
set_option maxHeartbeats 800000
namespace Go.Proofs.Ytkmalbaollffiaa
open Go.Am
variable {σ : Store} {Q : Value → Store → Prop} {g : Geo} {s : DS} {w : WS} {m : Nat} {l d : Nat} {F G B X : List Nat} {st sB : Store} {o : List Int} {A0 : List Nat} {gv : Value}
structure Sg (l d : Nat) (A0 : List Nat) (sB : Store) (w : WS) (s : DS) (m : Nat) (gv : Value) (o : List Int) (st : Store) : Prop where
  ex : ∃ F G, Log st l d w s F ∧ Disk st d s G ∧ Apart F G ∧ Apart (F ++ G) (idsV gv) ∧ Upd A0 sB st ((F ++ G) ++ idsV gv)
  so : SlG st 1 gv o.length (ic o)
  C : s.C m
  lv : s.live
  mn : s.mine w.mine = true
theorem Sg.ok (h : Sg l d A0 sB w s m gv o st) : WOk w := by
  obtain ⟨F, G, h1, _⟩ := h.ex
  exact h1.ok
theorem Sg.old (h : Sg l d A0 sB w s m gv o st) {j : Nat} (hj : j < sB.next) (hn : j ∉ A0) : st.get j = sB.get j := by
  obtain ⟨_, _, _, _, _, _, u⟩ := h.ex
  exact u.same j hj hn
theorem Sg.step {w' : WS} {s' : DS} {m' : Nat} {F' G' : List Nat} {st' : Store} (so : SlG st 1 gv o.length (ic o)) (AB : Apart (F ++ G) (idsV gv)) (U0 : Upd A0 sB st ((F ++ G) ++ idsV gv)) (L : Log st' l d w' s' F') (D : Disk st' d s' G') (A : Apart F' G') (U : Upd (F ++ G) st st' (F' ++ G')) (C : s'.C m') (lv : s'.live) (mn : s'.mine w'.mine = true) : Sg l d A0 sB w' s' m' gv o st' :=
  ⟨⟨F', G', L, D, A, AB.upd U so.lt, U0.trans (upd_left U so.lt)⟩, so.same fun j hj => Upd.get U AB so.lt j hj, C, lv, mn⟩
theorem sg_write (h : Sg l d A0 sB w s m gv o st) {x : Int} {b : List Int} (hb : b.length = 1024) (hq : ∀ st', Sg l d A0 sB (w.write x b).2 s m gv o st' → Q (.int .i64 (w.write x b).1) st') : Does Try.prog 15 [.pointer (some ⟨l, 0, none⟩), .int .i64 x, .agg ⟨bc b⟩] st Q := by
  obtain ⟨⟨F, G, L, D, A, AB, U0⟩, so, C, lv, M⟩ := h
  refine lwrite_ L D A C M hb fun st' F' L' D' A' U' => hq st' (Sg.step so AB U0 L' D' A' U' C lv (by rw [(write_keeps w x b).2.1]; exact M))
theorem sg_end (h : Sg l d A0 sB w s m gv o st) (ho : w.opn = true) (hs : w.steps < 2 ^ 62) (hq : ∀ st', Sg l d A0 sB { w with opn := false, steps := w.steps + 1 } s m gv o st' → Q (.int .i64 0) st') : Does Try.prog 18 [.pointer (some ⟨l, 0, none⟩)] st Q := by
  obtain ⟨⟨F, G, L, D, A, AB, U0⟩, so, C, lv, M⟩ := h
  refine end_ L D A C M hs (fun h => by rw [ho] at h; cases h) fun _ st' L' D' U' => hq st' (Sg.step so AB U0 L' D' A (upd_left U' D.lt) C lv M)
theorem sg_begin (h : Sg l d A0 sB w s m gv o st) (hm0 : m + 1000 < 2 ^ 29) (ho : w.opn = false) (hcm : w.commits < 2 ^ 62) {r : Int} (hr : 1 ≤ r ∧ r ≤ w.g.log - 1)
    (hq1 : (w.grp.length : Int) + r ≤ w.g.log - 1 → ∀ st', Sg l d A0 sB (w.begin r) s m gv o st' → Q (.int .i64 0) st')
    (hq2 : w.g.log - 1 < (w.grp.length : Int) + r → ∀ st', Sg l d A0 sB (w.done.begin r) (s.run (commitOps w.grp)).2 (m + 600) gv o st' → (s.run (commitOps w.grp)).2.made = s.made + (2 * w.grp.length + 6) → Q (.int .i64 0) st') :
    Does Try.prog 9 [.pointer (some ⟨l, 0, none⟩), .int .i64 r] st Q := by
  obtain ⟨⟨F, G, L, D, A, AB, U0⟩, so, C, lv, M⟩ := h
  have hW := L.ok
  have hg := hW.g
  unfold Geo.ok at hg
  have hn : w.g.blocks ≤ s.n := by obtain ⟨_, _, _, _, _, _, _, _, _, h, _⟩ := L; exact h
  obtain ⟨e0, lv'⟩ := commit_live lv hW hn
  refine begin_ L D A C hm0 M hcm (r := r) (by omega) (fun e he => ?_) (fun _ _ _ h st' F' L' D' A' U' => hq1 h st' (Sg.step so AB U0 L' D' A' U' C lv M)) (fun _ _ _ h _ st' F' G' L' D' A' U' => hq2 h st' (Sg.step so AB U0 L' D' A' U' (commit_C' C hW) lv' (by rw [show (w.done.begin r).mine = w.mine from rfl, run_mine e0]; exact M)) ?_) (fun _ _ _ _ h => by rw [e0] at h; cases h)
  · rcases he with ⟨h, _⟩ | ⟨_, h, _⟩
    · rw [ho] at h; cases h
    · omega
  · rw [live_made lv (commit_in hW hn), commitOps_len]; simp
theorem sg_sync (h : Sg l d A0 sB w s m gv o st) (hm0 : m + 1000 < 2 ^ 29) (ho : w.opn = false) (hcm : w.commits < 2 ^ 62)
    (hq1 : w.grp = [] → Q (.int .i64 0) st)
    (hq2 : w.grp ≠ [] → ∀ st', Sg l d A0 sB w.done (s.run (commitOps w.grp)).2 (m + 600) gv o st' → (s.run (commitOps w.grp)).2.made = s.made + (2 * w.grp.length + 6) → Q (.int .i64 0) st') :
    Does Try.prog 20 [.pointer (some ⟨l, 0, none⟩)] st Q := by
  obtain ⟨⟨F, G, L, D, A, AB, U0⟩, so, C, lv, M⟩ := h
  have hW := L.ok
  have hn : w.g.blocks ≤ s.n := by obtain ⟨_, _, _, _, _, _, _, _, _, h, _⟩ := L; exact h
  obtain ⟨e0, lv'⟩ := commit_live lv hW hn
  refine sync_ L D A C hm0 M hcm (fun h => by rw [ho] at h; cases h) (fun _ h => hq1 h) (fun _ h _ st' F' G' L' D' A' U' => hq2 h st' (Sg.step so AB U0 L' D' A' U' (commit_C' C hW) lv' (by rw [show w.done.mine = w.mine from rfl, run_mine e0]; exact M)) ?_) (fun _ _ h => by rw [e0] at h; cases h)
  rw [live_made lv (commit_in hW hn), commitOps_len]; simp
theorem sg_used (h : Sg l d A0 sB w s m gv o st) (hq : Q (.int .i64 (w.grp.length : Nat)) st) : Does Try.prog 12 [.pointer (some ⟨l, 0, none⟩)] st Q := by
  obtain ⟨⟨F, G, L, D, A, AB, U0⟩, so, C, lv, M⟩ := h
  exact used_ L D C M hq
theorem sg_open (h : Sg l d A0 sB w s m gv o st) (hq : Q (.bool w.opn) st) : Does Try.prog 13 [.pointer (some ⟨l, 0, none⟩)] st Q := by
  obtain ⟨⟨F, G, L, D, A, AB, U0⟩, so, C, lv, M⟩ := h
  exact open_ L D C M hq
theorem sg_commits (h : Sg l d A0 sB w s m gv o st) (hq : Q (.int .i64 w.commits) st) : Does Try.prog 11 [.pointer (some ⟨l, 0, none⟩)] st Q := by
  obtain ⟨⟨F, G, L, D, A, AB, U0⟩, so, C, lv, M⟩ := h
  exact commits_ L D C M hq
theorem sg_steps (h : Sg l d A0 sB w s m gv o st) (hq : Q (.int .i64 w.steps) st) : Does Try.prog 19 [.pointer (some ⟨l, 0, none⟩)] st Q := by
  obtain ⟨⟨F, G, L, D, A, AB, U0⟩, so, C, lv, M⟩ := h
  exact steps_ L D C M hq
theorem sg_made (h : Sg l d A0 sB w s m gv o st) (hq : Q (.int .i64 s.made) st) : Does Try.prog 10 [.pointer (some ⟨d, 0, none⟩)] st Q := by
  obtain ⟨⟨F, G, L, D, A, AB, U0⟩, so, C, lv, M⟩ := h
  exact made_o D C hq
end Go.Proofs.Ytkmalbaollffiaa
