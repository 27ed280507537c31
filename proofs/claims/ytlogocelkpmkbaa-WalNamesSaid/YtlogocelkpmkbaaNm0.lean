/- A log and its disk, step by step, in one; the numbers of WalNames. -/
import Derived.Test.YtlogocelkpmkbaaStr
import Derived.Test.YtlogocelkpmkbaaRec
set_option linter.all false
set_option maxRecDepth 100000
set_option maxHeartbeats 400000
namespace Go.Proofs.Ytlogocelkpmkbaa
open Go.Am
variable {σ : Store} {Q : Value → Store → Prop} {g : Geo} {s : DS} {w : WS} {m : Nat} {l d c : Nat} {F G B X : List Nat} {st sB : Store} {o : SObj}
/-- A log, its disk, and an object beside them. -/
def NS (l d c : Nat) (o : SObj) (w : WS) (s : DS) (m : Nat) (st : Store) : Prop :=
  ∃ F G, Log st l d w s F ∧ Disk st d s G ∧ Apart F G ∧ s.C m ∧ s.mine w.mine = true ∧ st.get c = some o ∧ c ∉ F ++ G
theorem NS.get (h : NS l d c o w s m st) : st.get c = some o := by obtain ⟨_, _, _, _, _, _, _, h, _⟩ := h; exact h
theorem ns_step {st' : Store} {F' G' : List Nat} (hc : st.get c = some o) (hn : c ∉ F ++ G) (U : Upd (F ++ G) st st' (F' ++ G')) : st'.get c = some o ∧ c ∉ F' ++ G' := by
  obtain ⟨h1, h2⟩ := upd_keep U (Store.lt_of_get hc) hn
  exact ⟨by rw [h1, hc], h2⟩
theorem ns_write (h : NS l d c o w s m st) {x : Int} {b : List Int} (hb : b.length = 1024) (hq : ∀ st', NS l d c o (w.write x b).2 s m st' → Q (.int .i64 (w.write x b).1) st') : Does Try.prog 11 [.pointer (some ⟨l, 0, none⟩), .int .i64 x, .agg ⟨bc b⟩] st Q := by
  obtain ⟨F, G, L, D, A, C, M, hc, hn⟩ := h
  refine lwrite_ L D A C M hb fun st' F' L' D' A' U' => ?_
  obtain ⟨h1, h2⟩ := ns_step hc hn U'
  exact hq st' ⟨F', G, L', D', A', C, by rw [(write_keeps w x b).2.1]; exact M, h1, h2⟩
def WS.ended (w : WS) : WS := { w with opn := false, steps := w.steps + 1 }
theorem ns_end (h : NS l d c o w s m st) (ho : w.opn = true) (hs : w.steps < 2 ^ 62) (hq : ∀ st', NS l d c o w.ended s m st' → Q (.int .i64 0) st') : Does Try.prog 13 [.pointer (some ⟨l, 0, none⟩)] st Q := by
  obtain ⟨F, G, L, D, A, C, M, hc, hn⟩ := h
  refine end_ L D A C M hs (fun h => by rw [ho] at h; cases h) fun _ st' L' D' U' => ?_
  obtain ⟨h1, h2⟩ := ns_step hc hn (upd_left U' D.lt)
  exact hq st' ⟨F, G, L', D', A, C, M, h1, h2⟩
theorem ns_endE (h : NS l d c o w s m st) (ho : w.opn = false) (hs : w.steps < 2 ^ 62) (hq : Q (.int .i64 180) st) : Does Try.prog 13 [.pointer (some ⟨l, 0, none⟩)] st Q := by
  obtain ⟨F, G, L, D, A, C, M, hc, hn⟩ := h
  exact end_ L D A C M hs (fun _ => hq) fun h => by rw [ho] at h; cases h
theorem ns_begin (h : NS l d c o w s m st) (hm0 : m + 1000 < 2 ^ 29) (ho : w.opn = false) {r : Int} (hcm : w.commits < 2 ^ 62) (hr : 1 ≤ r ∧ r ≤ 1000) (h2 : r ≤ w.g.log - 1 ∧ (w.grp.length : Int) + r ≤ w.g.log - 1) (hq : ∀ st', NS l d c o (w.begin r) s m st' → Q (.int .i64 0) st') : Does Try.prog 9 [.pointer (some ⟨l, 0, none⟩), .int .i64 r] st Q := by
  obtain ⟨F, G, L, D, A, C, M, hc, hn⟩ := h
  refine begin_ L D A C hm0 M hcm (r := r) (by omega) (fun e he => ?_) (fun _ _ _ _ st' F' L' D' A' U' => ?_) (fun _ _ _ h => by omega) (fun _ _ _ h => by omega)
  · rcases he with ⟨h, _⟩ | ⟨_, h, _⟩
    · rw [ho] at h; cases h
    · omega
  · obtain ⟨h1, h2⟩ := ns_step hc hn U'
    exact hq st' ⟨F', G, L', D', A', C, M, h1, h2⟩
theorem ns_beginE (h : NS l d c o w s m st) (hm0 : m + 1000 < 2 ^ 29) (ho : w.opn = false) {r : Int} (hcm : w.commits < 2 ^ 62) (hr : 1 ≤ r ∧ r ≤ 1000) (h2 : w.g.log - 1 < r) (hq : Q (.int .i64 2) st) : Does Try.prog 9 [.pointer (some ⟨l, 0, none⟩), .int .i64 r] st Q := by
  obtain ⟨F, G, L, D, A, C, M, hc, hn⟩ := h
  refine begin_ L D A C hm0 M hcm (r := r) (by omega) (fun e he => ?_) (fun _ _ h => by omega) (fun _ _ h => by omega) (fun _ _ h => by omega)
  rcases he with ⟨h, _⟩ | ⟨_, _, rfl⟩
  · rw [ho] at h; cases h
  · exact hq
theorem ns_beginC (h : NS l d c o w s m st) (hl : s.live) (hm0 : m + 1000 < 2 ^ 29) (ho : w.opn = false) {r : Int} (hcm : w.commits < 2 ^ 62) (hr : 1 ≤ r ∧ r ≤ 1000) (h2 : r ≤ w.g.log - 1 ∧ w.g.log - 1 < (w.grp.length : Int) + r) (hq : ∀ st', NS l d c o (w.done.begin r) (s.run (commitOps w.grp)).2 (m + 600) st' → (s.run (commitOps w.grp)).2.live → Q (.int .i64 0) st') : Does Try.prog 9 [.pointer (some ⟨l, 0, none⟩), .int .i64 r] st Q := by
  obtain ⟨F, G, L, D, A, C, M, hc, hn⟩ := h
  have hW := L.ok
  have hnn : w.g.blocks ≤ s.n := by obtain ⟨_, _, _, _, _, _, _, _, _, h, _⟩ := L; exact h
  obtain ⟨e0, lv⟩ := commit_live hl hW hnn
  refine begin_ L D A C hm0 M hcm (r := r) (by omega) (fun e he => ?_) (fun _ _ _ h => by omega) (fun _ _ _ _ _ st' F' G' L' D' A' U' => ?_) (fun _ _ _ _ h => by rw [e0] at h; cases h)
  · rcases he with ⟨h, _⟩ | ⟨_, h, _⟩
    · rw [ho] at h; cases h
    · omega
  · obtain ⟨h1, h2⟩ := ns_step hc hn U'
    exact hq st' ⟨F', G', L', D', A', commit_C' C hW, by rw [run_mine e0]; exact M, h1, h2⟩ lv
theorem ns_made (h : NS l d c o w s m st) (hq : Q (.int .i64 s.made) st) : Does Try.prog 15 [.pointer (some ⟨d, 0, none⟩)] st Q := by
  obtain ⟨F, G, L, D, A, C, M, hc, hn⟩ := h
  exact made_o D C hq
theorem ns_commits (h : NS l d c o w s m st) (hq : Q (.int .i64 w.commits) st) : Does Try.prog 23 [.pointer (some ⟨l, 0, none⟩)] st Q := by
  obtain ⟨F, G, L, D, A, C, M, hc, hn⟩ := h
  exact commits_ L D C M hq
theorem ns_fuse (h : NS l d c o w s m st) {x : Int} (hx : x < 2 ^ 62) (hq : ∀ st', NS l d c o w (s.fused x) m st' → Q (.tuple #[]) st') : Does Try.prog 24 [.pointer (some ⟨d, 0, none⟩), .int .i64 x] st Q := by
  obtain ⟨F, G, L, D, A, C, M, hc, hn⟩ := h
  refine fuse_o D C (mine_dead M) x fun st' D' U' => ?_
  obtain ⟨h1, h2⟩ := ns_step hc hn (upd_right U' L.lt)
  exact hq st' ⟨F, G, (L.same U'.next fun j hj => Upd.get U' A.symm L.lt j hj).disk rfl fun _ _ => rfl, D', A, fused_C C hx, M, h1, h2⟩
/-- A disk whose log is no longer of any use, and an object beside them. -/
def NX (l d c : Nat) (o : SObj) (mine : Int) (s : DS) (m : Nat) (st : Store) : Prop :=
  ∃ F G, LogX st l d mine F ∧ Disk st d s G ∧ Apart F G ∧ s.C m ∧ st.get c = some o ∧ c ∉ F ++ G
theorem NX.get {k : Int} (h : NX l d c o k s m st) : st.get c = some o := by obtain ⟨_, _, _, _, _, _, h, _⟩ := h; exact h
theorem ns_syncE (h : NS l d c o w s m st) (hm0 : m + 1000 < 2 ^ 29) (ho : w.opn = false) (hcm : w.commits < 2 ^ 62) (hg : w.grp ≠ []) (h3 : (s.run (commitOps w.grp)).1 = 3) (hq : ∀ st', NX l d c o w.mine (s.run (commitOps w.grp)).2 (m + 600) st' → Q (.int .i64 3) st') : Does Try.prog 16 [.pointer (some ⟨l, 0, none⟩)] st Q := by
  obtain ⟨F, G, L, D, A, C, M, hc, hn⟩ := h
  have hW := L.ok
  refine sync_ L D A C hm0 M hcm (fun h => by rw [ho] at h; cases h) (fun _ h => absurd h hg) (fun _ _ h => by rw [h3] at h; cases h) (fun _ _ _ st' F' G' L' D' A' U' => ?_)
  obtain ⟨h1, h2⟩ := ns_step hc hn U'
  exact hq st' ⟨F', G', L', D', A', commit_C' C hW, h1, h2⟩
theorem nx_step {k : Int} {st' : Store} {G' : List Nat} (L : LogX st l d k F) (A : Apart F G) (U : Upd G st st' G') : LogX st' l d k F ∧ Apart F G' :=
  ⟨L.same U.next fun j hj => Upd.get U A.symm L.2.1 j hj, (A.symm.upd U L.2.1).symm⟩
theorem nx_crash {k : Int} {v : Value} {ks : List Bool} (h : NX l d c o k s m st) (hm0 : m < 2 ^ 29)
    (hv : ∀ {F G : List Nat} st', LogX st l d k F → Disk st d s G → st.next ≤ st'.next → (∀ j, j < st.next → j ∉ G → st'.get j = st.get j) → SlR st' 1 v ks.length (bC ks))
    (hq : ∀ st', NX l d c o k (s.crash ks) m st' → Q (.int .i64 0) st') : Does Try.prog 25 [.pointer (some ⟨d, 0, none⟩), v] st Q := by
  obtain ⟨F, G, L, D, A, C, hc, hn⟩ := h
  refine crash_o D C hm0 (fun st' h1 h2 => hv st' L D h1 h2) fun st' G' D' U' => ?_
  obtain ⟨L', A'⟩ := nx_step L A U'
  obtain ⟨h1, h2⟩ := ns_step hc hn (upd_right U' L.2.1)
  exact hq st' ⟨F, G', L', D', A', crash_C C, h1, h2⟩
theorem nx_check {k : Int} (h : NX l d c o k s m st) (hk : s.mine k = false) (hq : Q (.int .i64 3) st) : Does Try.prog 27 [.pointer (some ⟨l, 0, none⟩)] st Q := by
  obtain ⟨F, G, L, D, A, C, hc, hn⟩ := h
  refine lcheck_ L D C ?_
  rw [hk]; exact hq
theorem nx_used {k : Int} (h : NX l d c o k s m st) (hk : s.mine k = false) (hq : Q (.int .i64 0) st) : Does Try.prog 14 [.pointer (some ⟨l, 0, none⟩)] st Q := by
  obtain ⟨F, G, L, D, A, C, hc, hn⟩ := h
  refine d14 ?_
  simp -implicitDefEqProofs (maxSteps := 2000000) (disch := first|assumption|omega|rfl|(simp only[RD];done)|(simp only[RD];omega)) only [RN,Int.reduceBEq,Int.reduceBNe,Int.reduceLT,Int.reduceLE,Int.reduceAdd,Int.reduceSub,Int.reduceMul,Nat.reduceAdd,↓bc_flatz,↓bc_flat16,↓agg_bytez, p14]
  refine lcheck_ L D C ?_
  rw [hk]
  simp -implicitDefEqProofs (maxSteps := 2000000) (disch := first|assumption|omega|rfl|(simp only[RD];done)|(simp only[RD];omega)) only [RN,Int.reduceBEq,Int.reduceBNe,Int.reduceLT,Int.reduceLE,Int.reduceAdd,Int.reduceSub,Int.reduceMul,Nat.reduceAdd,↓bc_flatz,↓bc_flat16,↓agg_bytez, if_false, Bool.false_eq_true]
  exact hq
theorem nx_recover0 {k : Int} (h : NX l d c o k s m st) (hm0 : m + 1000 < 2 ^ 29) (hg : g.ok) (hb : g.blocks ≤ s.n) (hB : BytesOk (s.at 1)) (hd : s.dead = false) (h1 : DecOk g (s.at 1)) (h2 : decL (s.at 1) = []) (hq : ∀ st', NX l d c o k s.readed (m + 1) st' → Q (.tuple #[.int .i64 0, .int .i64 0]) st') : Does Try.prog 26 [.pointer (some ⟨d, 0, none⟩), .agg ⟨ic g.lay⟩] st Q := by
  obtain ⟨F, G, L, D, A, C, hc, hn⟩ := h
  refine recover_ D C hm0 hg hb hB (fun h => by rw [hd] at h; cases h) (fun _ h => absurd h1 h) (fun _ _ _ st' D' U' => ?_) (fun _ _ h => absurd h2 h) (fun _ _ h => absurd h2 h)
  obtain ⟨L', A'⟩ := nx_step L A U'
  obtain ⟨h1, h2⟩ := ns_step hc hn (upd_right U' L.2.1)
  exact hq st' ⟨F, G, L', D', A', readed_C C, h1, h2⟩
theorem nx_new {k : Int} (h : NX l d c o k s m st) (hm0 : m + 1000 < 2 ^ 29) (hg : g.ok) (hb : g.blocks ≤ s.n) (hB : BytesOk (s.at 1)) (hd : s.dead = false) (h0 : 0 < s.claims + 1) (h1 : DecOk g (s.at 1)) (h2 : decL (s.at 1) = []) (hq : ∀ st' l', NS l' d c o (WS.new g (s.claims + 1)) s.readed.claimed (m + 2) st' → Q (.tuple #[.pointer (some ⟨l', 0, none⟩), .int .i64 0]) st') : Does Try.prog 28 [.pointer (some ⟨d, 0, none⟩), .agg ⟨ic g.lay⟩] st Q := by
  obtain ⟨F, G, L, D, A, C, hc, hn⟩ := h
  refine wnew_ D C (by omega) hg hb hB (fun h => by rw [hd] at h; cases h) (fun _ h => absurd ⟨h1, h2⟩ h) fun _ _ _ st' l' F' L' D' A' U' => ?_
  have hcG : c ∉ G := fun h => hn (List.mem_append_right _ h)
  obtain ⟨h1, h2⟩ := upd_keep U' (Store.lt_of_get hc) hcG
  refine hq st' l' ⟨F', G, L', D', A', claimed_C (readed_C C), ?_, by rw [h1, hc], h2⟩
  unfold DS.mine
  show (!s.dead && decide (0 < s.claims + 1) && decide (s.claims + 1 = s.claims + 1)) = true
  rw [hd, decide_eq_true h0]; simp
theorem nx_newE {k : Int} (h : NX l d c o k s m st) (hm0 : m + 1000 < 2 ^ 29) (hg : g.ok) (hb : g.blocks ≤ s.n) (hB : BytesOk (s.at 1)) (hd : s.dead = false) (h2 : decL (s.at 1) ≠ []) (hq : ∀ st', NX l d c o k s.readed (m + 1) st' → Q (.tuple #[.pointer none, .int .i64 4]) st') : Does Try.prog 28 [.pointer (some ⟨d, 0, none⟩), .agg ⟨ic g.lay⟩] st Q := by
  obtain ⟨F, G, L, D, A, C, hc, hn⟩ := h
  refine wnew_ D C (by omega) hg hb hB (fun h => by rw [hd] at h; cases h) (fun _ _ st' D' U' => ?_) fun _ _ h => absurd h h2
  obtain ⟨L', A'⟩ := nx_step L A U'
  obtain ⟨h1, h2⟩ := ns_step hc hn (upd_right U' L.2.1)
  exact hq st' ⟨F, G, L', D', A', readed_C C, h1, h2⟩
theorem rec1_C (h : s.C m) {i : Nat} {t : Int} : (s.rec1 i t).2.C (m + 2) := by
  unfold DS.rec1
  split
  · exact write_C (read_C h) (read_1024 h _)
  · exact (read_C h).le (by omega)
theorem recI_C (h : s.C m) {l : List Int} : ∀ i, (recI s l i).2.C (m + 2 * i)
  | 0 => h
  | i + 1 => by
    have ih := recI_C h (l := l) i
    unfold recI
    split
    · exact (rec1_C ih).le (by omega)
    · exact ih.le (by omega)
theorem recover_C (h : s.C m) {l : List Int} : (s.recover l).2.C (m + 2 * l.length + 3) := by
  have ih := recI_C h (l := l) l.length
  unfold DS.recover
  split
  · exact run_C ih fun i b hb => by
      simp only [List.mem_cons, List.not_mem_nil, or_false] at hb
      rcases hb with hb | hb | hb
      · cases hb
      · cases hb; exact zb_len
      · cases hb
  · exact ih.le (by omega)
theorem nx_recover {k : Int} (h : NX l d c o k s m st) (hm0 : m + 1000 < 2 ^ 29) (hg : g.ok) (hb : g.blocks ≤ s.n) (hB : BytesOk (s.at 1)) (hd : s.dead = false) (h1 : DecOk g (s.at 1)) (h2 : decL (s.at 1) ≠ []) (h3 : (s.readed.recover (decL (s.at 1))).1 = 0) (hq : ∀ st' G', Disk st' d (s.readed.recover (decL (s.at 1))).2 G' → (s.readed.recover (decL (s.at 1))).2.C (m + 1 + 2 * (decL (s.at 1)).length + 3) → Q (.tuple #[.int .i64 ((decL (s.at 1)).length : Nat), .int .i64 0]) st') : Does Try.prog 26 [.pointer (some ⟨d, 0, none⟩), .agg ⟨ic g.lay⟩] st Q := by
  obtain ⟨F, G, L, D, A, C, hc, hn⟩ := h
  exact recover_ D C hm0 hg hb hB (fun h => by rw [hd] at h; cases h) (fun _ h => absurd h1 h) (fun _ _ h => absurd h h2) (fun _ _ _ _ st' G' D' U' => hq st' G' D' (recover_C (readed_C C))) (fun _ _ _ h => absurd h3 h)
end Go.Proofs.Ytlogocelkpmkbaa
