/- A disk, a log of it, and objects of a law's own beside them. -/
import Derived.Test.YtkmalbaollffiaaSyp
import Derived.Test.YtkmalbaollffiaaCrs
set_option linter.all false
set_option maxRecDepth 100000
set_option maxHeartbeats 400000
namespace Go.Proofs.Ytkmalbaollffiaa
open Go.Am
abbrev LPt := Store → DS → List Nat → Prop
variable {σ st st' : Store} {l d : Nat} {w : WS} {s : DS} {m : Nat} {os : List (Nat × SObj)} {Q : Value → Store → Prop} {F G F' G' : List Nat} {L L' : LPt}
/-- What is said of a log stands as long as its places do. -/
structure LPk (L : LPt) : Prop where
  lt : ∀ {st s F}, L st s F → ∀ j ∈ F, j < st.next
  same : ∀ {st st' s F}, L st s F → st.next ≤ st'.next → (∀ j ∈ F, st'.get j = st.get j) → L st' s F
  rd : ∀ {st s F} (r : Int), L st s F → L st { s with reads := r } F
def RgX (L : LPt) (σ st : Store) (d : Nat) (s : DS) (os : List (Nat × SObj)) (F G : List Nat) : Prop := L st s F ∧ Disk st d s G ∧ Apart F G ∧ (∀ j ∈ F ++ G, σ.next ≤ j) ∧ Keeps σ st ∧ ∀ p ∈ os, p.1 ∉ F ++ G ∧ st.get p.1 = some p.2
structure Rg (L : LPt) (σ st : Store) (d : Nat) (s : DS) (m : Nat) (os : List (Nat × SObj)) : Prop where
  ex : ∃ F G, RgX L σ st d s os F G
  C : s.C m
  k : LPk L
def LW (l d : Nat) (w : WS) : LPt := fun st s F => Log st l d w s F ∧ s.mine w.mine = true
def LX (l d : Nat) (k : Int) : LPt := fun st _ F => LogX st l d k F
theorem lw_ok : LPk (LW l d w) := ⟨fun h => h.1.lt, fun h h1 h2 => ⟨h.1.same h1 h2, h.2⟩, fun r h => ⟨h.1.disk rfl fun _ _ => rfl, h.2⟩⟩
theorem lx_ok {k : Int} : LPk (LX l d k) := ⟨fun h => h.2.1, fun h h1 h2 => LogX.same h h1 h2, fun _ h => h⟩
abbrev Rn (σ st : Store) (l d : Nat) (w : WS) (s : DS) (m : Nat) (os : List (Nat × SObj)) : Prop := Rg (LW l d w) σ st d s m os
theorem RgX.upd {s' : DS} (h : RgX L σ st d s os F G) (l1 : L' st' s' F') (D : Disk st' d s' G') (A : Apart F' G') (U : Upd (F ++ G) st st' (F' ++ G')) : RgX L' σ st' d s' os F' G' := by
  obtain ⟨h1, h2, h3, h4, h5, h6⟩ := h
  refine ⟨l1, D, A, fun j hj => ?_, ⟨Nat.le_trans h5.1 U.next, fun j hj => ?_⟩, fun p hp => ?_⟩
  · rcases (U.ids j hj).2 with h | h
    · exact h4 j h
    · exact Nat.le_trans h5.1 h
  · rw [U.same j (Nat.lt_of_lt_of_le hj h5.1) (fun hf => by have := h4 j hf; omega), h5.2 j hj]
  · obtain ⟨p1, p2⟩ := h6 p hp
    have hlt := Store.lt_of_get p2
    refine ⟨fun hx => ?_, by rw [U.same _ hlt p1, p2]⟩
    rcases (U.ids _ hx).2 with h | h
    · exact p1 h
    · omega
theorem Rg.keeps (h : Rg L σ st d s m os) : Keeps σ st := by
  obtain ⟨_, _, _, _, _, _, h5, _⟩ := h.ex
  exact h5
theorem Rg.get (h : Rg L σ st d s m os) {j : Nat} {o : SObj} (hm : (j, o) ∈ os) : st.get j = some o := by
  obtain ⟨_, _, _, _, _, _, _, h6⟩ := h.ex
  exact (h6 _ hm).2
theorem Rg.ok (h : Rn σ st l d w s m os) : WOk w := by
  obtain ⟨_, _, h1, _⟩ := h.ex
  exact h1.1.ok
theorem Rg.n (h : Rn σ st l d w s m os) : w.g.blocks ≤ s.n := by
  obtain ⟨_, _, ⟨⟨_, _, _, _, _, _, _, _, _, h, _⟩, _⟩, _⟩ := h.ex
  exact h
theorem Rg.mn (h : Rn σ st l d w s m os) : s.mine w.mine = true := by
  obtain ⟨_, _, ⟨_, h⟩, _⟩ := h.ex
  exact h
theorem Rg.le (h : Rg L σ st d s m os) {m' : Nat} (hm : m ≤ m') : Rg L σ st d s m' os := ⟨h.ex, h.C.le hm, h.k⟩
theorem Rg.less (h : Rg L σ st d s m os) {os' : List (Nat × SObj)} (hs : ∀ p ∈ os', p ∈ os) : Rg L σ st d s m os' := by
  obtain ⟨⟨F, G, h1, h2, h3, h4, h5, h6⟩, C, k⟩ := h
  exact ⟨⟨F, G, h1, h2, h3, h4, h5, fun p hp => h6 p (hs p hp)⟩, C, k⟩
/-- A log of which only this is known: whose it is. -/
theorem Rg.x (h : Rn σ st l d w s m os) : Rg (LX l d w.mine) σ st d s m os := by
  obtain ⟨⟨F, G, h1, h2⟩, C, k⟩ := h
  exact ⟨⟨F, G, h1.1.x, h2⟩, C, lx_ok⟩
/-- The law's own things change, or new ones come. -/
theorem Rg.chg (h : Rg L σ st d s m os) {ch : List Nat} {os' : List (Nat × SObj)} (hc : ∀ j ∈ ch, σ.next ≤ j ∧ ∃ o, (j, o) ∈ os) (hn : st.next ≤ st'.next) (hg : ∀ j, j < st.next → j ∉ ch → st'.get j = st.get j) (ho : ∀ p ∈ os', st'.get p.1 = some p.2 ∧ (st.next ≤ p.1 ∨ ∃ o, (p.1, o) ∈ os)) : Rg L σ st' d s m os' := by
  obtain ⟨⟨F, G, h1, h2, h3, h4, h5, h6⟩, C, k⟩ := h
  have hlt : ∀ j ∈ F ++ G, j < st.next := fun j hj => by
    rcases List.mem_append.1 hj with h | h
    · exact k.lt h1 j h
    · exact h2.lt j h
  have hF : ∀ j ∈ F ++ G, st'.get j = st.get j := fun j hj => hg j (hlt j hj) fun hc' => by
    obtain ⟨_, o, hm⟩ := hc j hc'
    exact (h6 _ hm).1 hj
  refine ⟨⟨F, G, k.same h1 hn fun j hj => hF j (List.mem_append_left _ hj), h2.same fun j hj => hF j (List.mem_append_right _ hj), h3, h4, ⟨Nat.le_trans h5.1 hn, fun j hj => ?_⟩, fun p hp => ⟨fun hf => ?_, (ho p hp).1⟩⟩, C, k⟩
  · rw [hg j (by have := h5.1; omega) (fun hc' => by have := (hc j hc').1; omega), h5.2 j hj]
  · rcases (ho p hp).2 with h | ⟨o, hm⟩
    · have := hlt _ hf; omega
    · exact (h6 _ hm).1 hf
theorem Rg.push (h : Rg L σ st d s m os) (o : SObj) : Rg L σ (st.push o) d s m ((st.next, o) :: os) := by
  have k := (Keeps.refl st).push o
  refine h.chg (ch := []) (fun j hj => by cases hj) k.1 (fun j hj _ => k.2 j hj) fun p hp => ?_
  rcases List.mem_cons.1 hp with rfl | hp
  · exact ⟨Store.get_push_same _ _, .inl (Nat.le_refl _)⟩
  · exact ⟨k.get (h.get hp), .inr ⟨_, hp⟩⟩
theorem Rg.later (h : Rg L σ st d s m os) (k : Keeps st st') : Rg L σ st' d s m os :=
  h.chg (ch := []) (fun j hj => by cases hj) k.1 (fun j hj _ => k.2 j hj) fun p hp => ⟨k.get (h.get hp), .inr ⟨_, hp⟩⟩
/-- The disk alone changes. -/
theorem rg_disk {s' : DS} (h : RgX L σ st d s os F G) (k : LPk L) (l2 : ∀ {st'}, L st' s F → L st' s' F) (D : Disk st' d s' G') (U : Upd G st st' G') : RgX L σ st' d s' os F G' := by
  have h1 := h.1
  have A := h.2.2.1
  exact h.upd (l2 (k.same h1 U.next fun j hj => Upd.get U A.symm (k.lt h1) j hj)) D (A.symm.upd U (k.lt h1)).symm (upd_right U (k.lt h1))
theorem rn_write (h : Rn σ st l d w s m os) {x : Int} {b : List Int} (hb : b.length = 1024) (hq : ∀ st', Rn σ st' l d (w.write x b).2 s m os → Q (.int .i64 (w.write x b).1) st') : Does Try.prog 15 [.pointer (some ⟨l, 0, none⟩), .int .i64 x, .agg ⟨bc b⟩] st Q := by
  obtain ⟨⟨F, G, hX⟩, C, k⟩ := h
  exact lwrite_ hX.1.1 hX.2.1 hX.2.2.1 C hX.1.2 hb fun st' F' L' D' A' U' => hq st' ⟨⟨F', G, hX.upd ⟨L', by rw [(write_keeps w x b).2.1]; exact hX.1.2⟩ D' A' U'⟩, C, lw_ok⟩
theorem rn_end (h : Rn σ st l d w s m os) (ho : w.opn = true) (hs : w.steps < 2 ^ 62) (hq : ∀ st', Rn σ st' l d { w with opn := false, steps := w.steps + 1 } s m os → Q (.int .i64 0) st') : Does Try.prog 18 [.pointer (some ⟨l, 0, none⟩)] st Q := by
  obtain ⟨⟨F, G, hX⟩, C, k⟩ := h
  exact end_ hX.1.1 hX.2.1 hX.2.2.1 C hX.1.2 hs (fun h => by rw [ho] at h; cases h) fun _ st' L' D' U' => hq st' ⟨⟨F, G, hX.upd ⟨L', hX.1.2⟩ D' hX.2.2.1 (upd_left U' hX.2.1.lt)⟩, C, lw_ok⟩
theorem rn_begin (h : Rn σ st l d w s m os) (hm0 : m + 1000 < 2 ^ 29) (ho : w.opn = false) (hcm : w.commits < 2 ^ 62) {r : Int} (hr : 1 ≤ r ∧ r ≤ w.g.log - 1)
    (hq1 : ∀ st', Rn σ st' l d (w.begin r) s (m + 600) os → Q (.int .i64 0) st')
    (hq2 : w.grp ≠ [] → (s.run (commitOps w.grp)).1 = 0 → ∀ st', Rn σ st' l d (w.done.begin r) (s.run (commitOps w.grp)).2 (m + 600) os → Q (.int .i64 0) st')
    (hq3 : w.grp ≠ [] → (s.run (commitOps w.grp)).1 = 3 → ∀ st', Rg (LX l d w.mine) σ st' d (s.run (commitOps w.grp)).2 (m + 600) os → Q (.int .i64 3) st') :
    Does Try.prog 9 [.pointer (some ⟨l, 0, none⟩), .int .i64 r] st Q := by
  have hW := h.ok
  obtain ⟨⟨F, G, hX⟩, C, k⟩ := h
  have hg := hW.g
  unfold Geo.ok at hg
  have hne : w.g.log - 1 < (w.grp.length : Int) + r → w.grp ≠ [] := fun h e => by rw [e] at h; simp at h; omega
  refine begin_ hX.1.1 hX.2.1 hX.2.2.1 C hm0 hX.1.2 hcm (r := r) (by omega) (fun e he => ?_) (fun _ _ _ h st' F' L' D' A' U' => hq1 st' ⟨⟨F', G, hX.upd ⟨L', hX.1.2⟩ D' A' U'⟩, C.le (by omega), lw_ok⟩) (fun _ _ _ h e0 st' F' G' L' D' A' U' => hq2 (hne h) e0 st' ⟨⟨F', G', hX.upd ⟨L', by rw [show (w.done.begin r).mine = w.mine from rfl, run_mine e0]; exact hX.1.2⟩ D' A' U'⟩, commit_C' C hW, lw_ok⟩) (fun _ _ _ h e0 st' F' G' L' D' A' U' => hq3 (hne h) e0 st' ⟨⟨F', G', hX.upd L' D' A' U'⟩, commit_C' C hW, lx_ok⟩)
  rcases he with ⟨h, _⟩ | ⟨_, h, _⟩
  · rw [ho] at h; cases h
  · omega
theorem rn_sync (h : Rn σ st l d w s m os) (hm0 : m + 1000 < 2 ^ 29) (ho : w.opn = false) (hcm : w.commits < 2 ^ 62)
    (hq1 : w.grp = [] → Q (.int .i64 0) st)
    (hq2 : w.grp ≠ [] → (s.run (commitOps w.grp)).1 = 0 → ∀ st', Rn σ st' l d w.done (s.run (commitOps w.grp)).2 (m + 600) os → Q (.int .i64 0) st')
    (hq3 : w.grp ≠ [] → (s.run (commitOps w.grp)).1 = 3 → ∀ st', Rg (LX l d w.mine) σ st' d (s.run (commitOps w.grp)).2 (m + 600) os → Q (.int .i64 3) st') :
    Does Try.prog 20 [.pointer (some ⟨l, 0, none⟩)] st Q := by
  have hW := h.ok
  obtain ⟨⟨F, G, hX⟩, C, k⟩ := h
  exact sync_ hX.1.1 hX.2.1 hX.2.2.1 C hm0 hX.1.2 hcm (fun h => by rw [ho] at h; cases h) (fun _ h => hq1 h) (fun _ h e0 st' F' G' L' D' A' U' => hq2 h e0 st' ⟨⟨F', G', hX.upd ⟨L', by rw [show w.done.mine = w.mine from rfl, run_mine e0]; exact hX.1.2⟩ D' A' U'⟩, commit_C' C hW, lw_ok⟩) (fun _ h e0 st' F' G' L' D' A' U' => hq3 h e0 st' ⟨⟨F', G', hX.upd L' D' A' U'⟩, commit_C' C hW, lx_ok⟩)
theorem rn_used (h : Rn σ st l d w s m os) (hq : Q (.int .i64 (w.grp.length : Nat)) st) : Does Try.prog 12 [.pointer (some ⟨l, 0, none⟩)] st Q := by
  obtain ⟨⟨F, G, hX⟩, C, k⟩ := h
  exact used_ hX.1.1 hX.2.1 C hX.1.2 hq
theorem rn_commits (h : Rn σ st l d w s m os) (hq : Q (.int .i64 w.commits) st) : Does Try.prog 11 [.pointer (some ⟨l, 0, none⟩)] st Q := by
  obtain ⟨⟨F, G, hX⟩, C, k⟩ := h
  exact commits_ hX.1.1 hX.2.1 C hX.1.2 hq
theorem rg_made (h : Rg L σ st d s m os) (hq : Q (.int .i64 s.made) st) : Does Try.prog 10 [.pointer (some ⟨d, 0, none⟩)] st Q := by
  obtain ⟨⟨F, G, hX⟩, C, k⟩ := h
  exact made_o hX.2.1 C hq
theorem rn_fuse (h : Rn σ st l d w s m os) {x : Int} (hx : x < 2 ^ 62) (hq : ∀ st', Rn σ st' l d w (s.fused x) m os → Q (.tuple #[]) st') : Does Try.prog 24 [.pointer (some ⟨d, 0, none⟩), .int .i64 x] st Q := by
  obtain ⟨⟨F, G, hX⟩, C, k⟩ := h
  exact fuse_o hX.2.1 C (mine_dead hX.1.2) x fun st' D' U' => hq st' ⟨⟨F, G, rg_disk hX k (fun h => ⟨h.1.disk rfl fun _ _ => rfl, h.2⟩) D' U'⟩, fused_C C (by omega), k⟩
theorem rx_fuse {k : Int} (h : Rg (LX l d k) σ st d s m os) (hd : s.dead = false) {x : Int} (hx : x < 2 ^ 62) (hq : ∀ st', Rg (LX l d k) σ st' d (s.fused x) m os → Q (.tuple #[]) st') : Does Try.prog 24 [.pointer (some ⟨d, 0, none⟩), .int .i64 x] st Q := by
  obtain ⟨⟨F, G, hX⟩, C, k⟩ := h
  exact fuse_o hX.2.1 C hd x fun st' D' U' => hq st' ⟨⟨F, G, rg_disk hX k (fun h => h) D' U'⟩, fused_C C (by omega), k⟩
/-- The disk is read. -/
theorem rg_dread (h : Rg L σ st d s m os) (hd : s.dead = false) (hm : m < 2 ^ 29) {i : Int} (hi : 0 ≤ i ∧ i < s.n) (hq : ∀ st', Rg L σ st' d { s with reads := s.reads + 1 } (m + 1) os → Q (.tuple #[.agg ⟨bc (s.at i)⟩, .int .i64 0]) st') : Does Try.prog 34 [.pointer (some ⟨d, 0, none⟩), .int .i64 i] st Q := by
  obtain ⟨⟨F, G, hX⟩, C, k⟩ := h
  have e : s.read i = (s.at i, 0, { s with reads := s.reads + 1 }) := by
    unfold DS.read
    rw [if_neg (by rw [hd]; decide), if_neg (by omega)]
  have C2 := read_C C (i := i)
  refine read_o hX.2.1 C hm fun st' D U => ?_
  rw [e] at D C2 ⊢
  exact hq st' ⟨⟨F, G, rg_disk hX k (fun h => k.rd _ h) D U⟩, C2, k⟩
theorem rx_crash {k : Int} {v : Value} {ks : List Bool} (h : Rg (LX l d k) σ st d s m os) (hm0 : m < 2 ^ 29) (hv : ∀ st', Keeps σ st' → SlR st' 1 v ks.length (bC ks)) (hq : ∀ st', Rg (LX l d k) σ st' d (s.crash ks) m os → Q (.int .i64 0) st') : Does Try.prog 26 [.pointer (some ⟨d, 0, none⟩), v] st Q := by
  obtain ⟨⟨F, G, hX⟩, C, k⟩ := h
  have h5 := hX.2.2.2.2.1
  refine crash_o hX.2.1 C hm0 (fun st' h1 h2 => hv st' ⟨Nat.le_trans h5.1 h1, fun j hj => ?_⟩) fun st' G' D' U' => hq st' ⟨⟨F, G', rg_disk hX k (fun h => h) D' U'⟩, crash_C C, k⟩
  rw [h2 j (Nat.lt_of_lt_of_le hj h5.1) (fun hx => by have := hX.2.2.2.1 j (List.mem_append_right _ hx); omega), h5.2 j hj]
theorem rx_check {k : Int} (h : Rg (LX l d k) σ st d s m os) (hk : s.mine k = false) (hq : Q (.int .i64 3) st) : Does Try.prog 27 [.pointer (some ⟨l, 0, none⟩)] st Q := by
  obtain ⟨⟨F, G, hX⟩, C, _⟩ := h
  refine lcheck_ hX.1 hX.2.1 C ?_
  rw [hk]; exact hq
theorem rx_used {k : Int} (h : Rg (LX l d k) σ st d s m os) (hk : s.mine k = false) (hq : Q (.int .i64 0) st) : Does Try.prog 12 [.pointer (some ⟨l, 0, none⟩)] st Q := by
  obtain ⟨⟨F, G, hX⟩, C, _⟩ := h
  refine d12 ?_
  simp -implicitDefEqProofs (maxSteps := 2000000) (disch := first|assumption|omega|rfl|(simp only[RD];done)|(simp only[RD];omega)) only [RN,Int.reduceBEq,Int.reduceBNe,Int.reduceLT,Int.reduceLE,Int.reduceAdd,Int.reduceSub,Int.reduceMul,Nat.reduceAdd,↓bc_flatz,↓bc_flat16,↓agg_bytez, p12]
  refine lcheck_ hX.1 hX.2.1 C ?_
  rw [hk]
  simp -implicitDefEqProofs (maxSteps := 2000000) (disch := first|assumption|omega|rfl|(simp only[RD];done)|(simp only[RD];omega)) only [RN,Int.reduceBEq,Int.reduceBNe,Int.reduceLT,Int.reduceLE,Int.reduceAdd,Int.reduceSub,Int.reduceMul,Nat.reduceAdd,↓bc_flatz,↓bc_flat16,↓agg_bytez, if_false, Bool.false_eq_true]
  exact hq
theorem rec1_C (h : s.C m) {i : Nat} {t : Int} : (s.rec1 i t).2.C (m + 2) := by
  unfold DS.rec1
  split
  · exact write_C (read_C h) (read_1024 h _)
  · exact (read_C h).le (by omega)
theorem recI_C (h : s.C m) {l : List Int} : ∀ i, (recI s l i).2.C (m + 2 * i)
  | 0 => h
  | i + 1 => by
    have ih := recI_C h (l := l) i
    unfold recI
    split
    · exact (rec1_C ih).le (by omega)
    · exact ih.le (by omega)
theorem recover_C (h : s.C m) {l : List Int} : (s.recover l).2.C (m + 2 * l.length + 3) := by
  have ih := recI_C h (l := l) l.length
  unfold DS.recover
  split
  · exact run_C ih fun i b hb => by
      simp only [List.mem_cons, List.not_mem_nil, or_false] at hb
      rcases hb with hb | hb | hb
      · cases hb
      · cases hb; exact zb_len
      · cases hb
  · exact ih.le (by omega)
/-- Recover: nothing to do; or what the header says. -/
theorem rx_recover {k : Int} {g : Geo} (h : Rg (LX l d k) σ st d s m os) (hm0 : m + 1000 < 2 ^ 29) (hg : g.ok) (hb : g.blocks ≤ s.n) (hd : s.dead = false) (hB : BytesOk (s.at 1)) (h1 : DecOk g (s.at 1))
    (hq2 : decL (s.at 1) = [] → ∀ st', Rg (LX l d k) σ st' d s.readed (m + 600) os → Q (.tuple #[.int .i64 0, .int .i64 0]) st')
    (hq3 : decL (s.at 1) ≠ [] → (s.readed.recover (decL (s.at 1))).1 = 0 → ∀ st' z, Rg (LX l d k) σ st' d (s.readed.recover (decL (s.at 1))).2 (m + 600) os → Q (.tuple #[.int .i64 z, .int .i64 0]) st')
    (hq4 : decL (s.at 1) ≠ [] → (s.readed.recover (decL (s.at 1))).1 ≠ 0 → ∀ st', Rg (LX l d k) σ st' d (s.readed.recover (decL (s.at 1))).2 (m + 600) os → Q (.tuple #[.int .i64 0, .int .i64 3]) st') : Does Try.prog 28 [.pointer (some ⟨d, 0, none⟩), .agg ⟨ic g.lay⟩] st Q := by
  obtain ⟨⟨F, G, hX⟩, C, k⟩ := h
  have hgg := hg
  unfold Geo.ok at hgg
  have hl : (decL (s.at 1)).length ≤ 255 := by have := h1.1; omega
  have C2 : (s.readed.recover (decL (s.at 1))).2.C (m + 600) := (recover_C (readed_C C)).le (by omega)
  exact recover_ hX.2.1 C hm0 hg hb hB (fun h => by rw [hd] at h; cases h) (fun _ h => absurd h1 h) (fun _ _ e st' D' U' => hq2 e st' ⟨⟨F, G, rg_disk hX k (fun h => h) D' U'⟩, (readed_C C).le (by omega), k⟩) (fun _ _ e e0 st' G' D' U' => hq3 e e0 st' _ ⟨⟨F, G', rg_disk hX k (fun h => h) D' U'⟩, C2, k⟩) (fun _ _ e e0 st' G' D' U' => hq4 e e0 st' ⟨⟨F, G', rg_disk hX k (fun h => h) D' U'⟩, C2, k⟩)
end Go.Proofs.Ytkmalbaollffiaa
