/- The package wal: a commit. -/
import Derived.Test.YtiaonndafhfkmaaWal3
set_option linter.all false
set_option maxRecDepth 100000
set_option maxHeartbeats 400000
namespace Go.Proofs.Ytiaonndafhfkmaa
open Go.Am
variable {σ σ' st st' : Store} {l d c hm m : Nat} {ov wv : Value} {w : WS} {v : View} {fc : Int} {s s' s0 : DS} {F F' FC FG G G' : List Nat} {Q : Value → Store → Prop} {fg : List (Int × List Int)} {ops : List DOp} {E : List (Nat × SObj)}
/-- The two cells that a commit has of its own, and what it has changed so far. -/
structure CB (σ : Store) (FG : List Nat) (E : List (Nat × SObj)) (l : Nat) (F G : List Nat) (st : Store) : Prop where
  upd : Upd FG σ st (F ++ G)
  rid : st.get σ.next = some (.cells [.pointer (some ⟨l, 0, none⟩)] none)
  eid : st.get (σ.next + 1) = some (.cells [.int .i64 0] none)
  nr : σ.next ∉ F ++ G
  ne : σ.next + 1 ∉ F ++ G
  ext : ∀ p ∈ E, st.get p.1 = some p.2 ∧ p.1 ∉ F ++ G
theorem upd_keep {A A' : List Nat} (u : Upd A st st' A') {j : Nat} (hj : j < st.next) (hn : j ∉ A) : st'.get j = st.get j ∧ j ∉ A' :=
  ⟨u.same j hj hn, fun hx => by
    rcases (u.ids j hx).2 with h | h
    · exact hn h
    · omega⟩
theorem CB.step (h : CB σ FG E l F G st) (u : Upd (F ++ G) st st' (F' ++ G')) : CB σ FG E l F' G' st' := by
  have h1 := upd_keep u (Store.lt_of_get h.rid) h.nr
  have h2 := upd_keep u (Store.lt_of_get h.eid) h.ne
  exact ⟨h.upd.trans u, by rw [h1.1, h.rid], by rw [h2.1, h.eid], h1.2, h2.2, fun p hp => by
    obtain ⟨q1, q2⟩ := h.ext p hp
    have h3 := upd_keep u (Store.lt_of_get q1) q2
    exact ⟨by rw [h3.1, q1], h3.2⟩⟩
theorem CB.later (h : CB σ FG E l F G st) (k : Keeps st st') : CB σ FG E l F G st' :=
  ⟨upd_then h.upd k, k.get h.rid, k.get h.eid, h.nr, h.ne, fun p hp => ⟨k.get (h.ext p hp).1, (h.ext p hp).2⟩⟩
/-- So far all went well. -/
def CM (σ : Store) (FG : List Nat) (E : List (Nat × SObj)) (l d : Nat) (w : WS) (c hm : Nat) (ov wv : Value) (s0 : DS) (m : Nat) (ops : List DOp) (fg : List (Int × List Int)) (st : Store) : Prop :=
  (s0.run ops).1 = 0 ∧ (s0.run ops).2.C (m + ops.length) ∧ (s0.run ops).2.mine w.mine = true ∧ ∃ F G, LogI st l d w c hm ov wv fg (s0.run ops).2 F ∧ Disk st d (s0.run ops).2 G ∧ Apart F G ∧ CB σ FG E l F G st
/-- The disk has stopped. -/
def CX (σ : Store) (FG : List Nat) (E : List (Nat × SObj)) (l d : Nat) (w : WS) (s0 : DS) (ops : List DOp) (st : Store) : Prop :=
  (s0.run ops).1 = 3 ∧ ∃ F G, LogX st l d w.mine F ∧ Disk st d (s0.run ops).2 G ∧ Apart F G ∧ CB σ FG E l F G st
theorem CM.later (h : CM σ FG E l d w c hm ov wv s0 m ops fg st) (k : Keeps st st') : CM σ FG E l d w c hm ov wv s0 m ops fg st' := by
  obtain ⟨h1, h2, h3, F, G, h4, h5, h6, h7⟩ := h
  have hl := h4.lt
  exact ⟨h1, h2, h3, F, G, h4.same k.1 fun j hj => k.2 j (hl j hj), h5.later k, h6, h7.later k⟩
theorem CM.local (h : CM σ FG E l d w c hm ov wv s0 m ops fg st) (o : SObj) : CM σ FG ((st.next, o) :: E) l d w c hm ov wv s0 m ops fg (st.push o) := by
  have k : Keeps st (st.push o) := (Keeps.refl st).push _
  obtain ⟨h1, h2, h3, F, G, h4, h5, h6, h7⟩ := h
  have hl := h4.lt
  have h8 := h7.later k
  refine ⟨h1, h2, h3, F, G, h4.same k.1 fun j hj => k.2 j (hl j hj), h5.later k, h6, ⟨h8.upd, h8.rid, h8.eid, h8.nr, h8.ne, fun p hp => ?_⟩⟩
  rcases List.mem_cons.1 hp with rfl | hp
  · refine ⟨Store.get_push_same _ _, fun hx => ?_⟩
    rcases List.mem_append.1 hx with hx | hx
    · have := hl _ hx; exact absurd this (Nat.lt_irrefl _)
    · have := h5.lt _ hx; exact absurd this (Nat.lt_irrefl _)
  · exact h8.ext p hp
theorem CM.ext (h : CM σ FG E l d w c hm ov wv s0 m ops fg st) {p : Nat × SObj} (hp : p ∈ E) : st.get p.1 = some p.2 := by
  obtain ⟨h1, h2, h3, F, G, h4, h5, h6, h7⟩ := h
  exact (h7.ext p hp).1
theorem CM.cells (h : CM σ FG E l d w c hm ov wv s0 m ops fg st) : st.get l = some (.cells (w.cells d c hm ov wv) none) := by
  obtain ⟨h1, h2, h3, F, G, h4, h5, h6, h7⟩ := h
  exact h4.cells
theorem CM.ord (h : CM σ FG E l d w c hm ov wv s0 m ops fg st) : SlG st 1 ov (ordL w.grp).length (ic (ordL w.grp)) := by
  obtain ⟨h1, h2, h3, F, G, h4, h5, h6, h7⟩ := h
  exact h4.ord
theorem CM.rid (h : CM σ FG E l d w c hm ov wv s0 m ops fg st) : st.get σ.next = some (.cells [.pointer (some ⟨l, 0, none⟩)] none) ∧ st.get (σ.next + 1) = some (.cells [.int .i64 0] none) ∧ σ.next + 1 < st.next := by
  obtain ⟨h1, h2, h3, F, G, h4, h5, h6, h7⟩ := h
  exact ⟨h7.rid, h7.eid, Store.lt_of_get h7.eid⟩
theorem CX.rid (h : CX σ FG E l d w s0 ops st) : st.get σ.next = some (.cells [.pointer (some ⟨l, 0, none⟩)] none) ∧ st.get (σ.next + 1) = some (.cells [.int .i64 0] none) ∧ σ.next + 1 < st.next := by
  obtain ⟨h1, F, G, h4, h5, h6, h7⟩ := h
  exact ⟨h7.rid, h7.eid, Store.lt_of_get h7.eid⟩
theorem run_snoc {s0 : DS} {ops : List DOp} {o : DOp} (h : (s0.run ops).1 = 0) : s0.run (ops ++ [o]) = if ((s0.run ops).2.op o).1 = 0 then (0, ((s0.run ops).2.op o).2) else (3, ((s0.run ops).2.op o).2) := by
  rw [run_app, if_pos h, run_cons]; rfl
/-- An operation of the disk alone. -/
theorem cm_op {o : DOp} (h1 : (s0.run ops).1 = 0) (h2 : (s0.run ops).2.C (m + ops.length)) (h3 : (s0.run ops).2.mine w.mine = true) (h4 : LogI st l d w c hm ov wv fg (s0.run ops).2 F) (h6 : Apart F G) (h7 : CB σ FG E l F G st) (u : Upd G st st' G') (h5 : Disk st' d ((s0.run ops).2.op o).2 G')
    (hat : ∀ x, x < 1 ∨ 1 + w.g.log ≤ x → ((s0.run ops).2.op o).2.at x = (s0.run ops).2.at x) (hC : ((s0.run ops).2.op o).2.C (m + ops.length + 1)) (hmn : ((s0.run ops).2.op o).1 = 0 → ((s0.run ops).2.op o).2.mine w.mine = (s0.run ops).2.mine w.mine) :
    (((s0.run ops).2.op o).1 = 0 ∧ CM σ FG E l d w c hm ov wv s0 m (ops ++ [o]) fg st') ∨ (((s0.run ops).2.op o).1 ≠ 0 ∧ CX σ FG E l d w s0 (ops ++ [o]) st') := by
  obtain ⟨a1, a2, a3⟩ := h4.op h6 u hat
  have hr := run_snoc (o := o) h1
  by_cases h0 : ((s0.run ops).2.op o).1 = 0
  · rw [if_pos h0] at hr
    refine .inl ⟨h0, ?_⟩
    unfold CM
    rw [hr]
    exact ⟨rfl, by rw [List.length_append, ← Nat.add_assoc]; exact hC, by rw [hmn h0]; exact h3, F, G', a1, h5, a2, h7.step a3⟩
  · rw [if_neg h0] at hr
    refine .inr ⟨h0, ?_⟩
    unfold CX
    rw [hr]
    exact ⟨rfl, F, G', a1.x, h5, a2, h7.step a3⟩
theorem cm_write (h : CM σ FG E l d w c hm ov wv s0 m ops fg st) (hm0 : m + ops.length < 2 ^ 29) {i : Int} {b : List Int} (hb : b.length = 1024) (hi : 1 ≤ i ∧ i < 1 + w.g.log) (hin : i < s0.n)
    (hq : ∀ st' r, (r = 0 ∧ CM σ FG E l d w c hm ov wv s0 m (ops ++ [.w i b]) fg st') ∨ (r = 3 ∧ CX σ FG E l d w s0 (ops ++ [.w i b]) st') → Q (.int .i64 r) st') :
    Does Try.prog 49 [.pointer (some ⟨d, 0, none⟩), .int .i64 i, .agg ⟨bc b⟩] st Q := by
  obtain ⟨h1, h2, h3, F, G, h4, h5, h6, h7⟩ := h
  refine write_o h5 h2 hm0 hb fun st' G' d' u' => ?_
  have hn : (s0.run ops).2.n = s0.n := run_n _ _
  have he := write_err (s := (s0.run ops).2) (b := b) (show 0 ≤ i by omega) (by omega)
  refine hq st' _ ?_
  rcases cm_op (o := .w i b) h1 h2 h3 h4 h6 h7 u' d' (fun x hx => by
    show ((s0.run ops).2.write i b).2.at x = _
    rw [write_at, if_neg (fun h => by omega)]) (write_C h2 hb) (fun h => write_mine h) with ⟨a, b⟩ | ⟨a, b⟩
  · exact .inl ⟨a, b⟩
  · refine .inr ⟨?_, b⟩
    rcases he with e | e
    · exact absurd e a
    · exact e.1
theorem cm_bar (h : CM σ FG E l d w c hm ov wv s0 m ops fg st) (hm0 : m + ops.length < 2 ^ 29)
    (hq : ∀ st' r, (r = 0 ∧ CM σ FG E l d w c hm ov wv s0 m (ops ++ [.bar]) fg st') ∨ (r = 3 ∧ CX σ FG E l d w s0 (ops ++ [.bar]) st') → Q (.int .i64 r) st') :
    Does Try.prog 50 [.pointer (some ⟨d, 0, none⟩)] st Q := by
  obtain ⟨h1, h2, h3, F, G, h4, h5, h6, h7⟩ := h
  refine barrier_o h5 h2 hm0 fun st' G' d' u' => ?_
  have he := barrier_err (s := (s0.run ops).2)
  refine hq st' _ ?_
  rcases cm_op (o := .bar) h1 h2 h3 h4 h6 h7 u' d' (fun x hx => barrier_at _ x) (barrier_C h2) (fun h => barrier_mine h) with ⟨a, b⟩ | ⟨a, b⟩
  · exact .inl ⟨a, b⟩
  · refine .inr ⟨?_, b⟩
    rcases he with e | e
    · exact absurd e a
    · exact e.1
theorem cm_hit (h : CM σ FG E l d w c hm ov wv s0 m ops fg st) (hm0 : m + ops.length < 2 ^ 29) (hn : (ordL fg).Nodup) {x : Int} {b : List Int} (hx : (x, b) ∈ fg) (hd : 1 + w.g.log ≤ x ∧ x < w.g.blocks) (hl : 0 ≤ w.g.log) (hb : w.g.blocks ≤ s0.n) (hf : (fg.length : Int) < w.g.log + 32)
    (hq : ∀ st', CM σ FG E l d w c hm ov wv s0 m ops fg st' → Q (.tuple #[.agg ⟨bc b⟩, .int .i64 0]) st') :
    Does Try.prog 57 [.pointer (some ⟨c, 0, none⟩), .int .i64 x] st Q := by
  obtain ⟨h1, h2, h3, F, G, h4, h5, h6, h7⟩ := h
  have hn' : (s0.run ops).2.n = s0.n := run_n _ _
  refine icread_ h4 h5 h6 h2 hm0 (mine_dead h3) hn ⟨by omega, by omega, by omega⟩ (by omega) hf fun st' F' r i' d' C' hr A' u' => ?_
  have hr := hr (List.mem_map.2 ⟨_, hx, rfl⟩)
  subst hr
  rw [(getG_iff hn).2 hx]
  exact hq st' ⟨h1, h2, h3, F', G, i', d', A', h7.step u'⟩
theorem cm_flush {x : Int} {b : List Int} {r : List (Int × List Int)} (h : CM σ FG E l d w c hm ov wv s0 m ops ((x, b) :: r) st) (hm0 : m + ops.length < 2 ^ 29) (hn : (ordL ((x, b) :: r)).Nodup) (hb : b.length = 1024) (hx : 1 + w.g.log ≤ x ∧ x < w.g.blocks) (hl : 0 ≤ w.g.log) (hbn : w.g.blocks ≤ s0.n)
    (hq : ∀ st' e, (e = 0 ∧ CM σ FG E l d w c hm ov wv s0 m (ops ++ [.w x b]) r st') ∨ (e = 3 ∧ CX σ FG E l d w s0 (ops ++ [.w x b]) st') → Q (.int .i64 e) st') :
    Does Try.prog 58 [.pointer (some ⟨c, 0, none⟩), .int .i64 x] st Q := by
  obtain ⟨h1, h2, h3, F, G, h4, h5, h6, h7⟩ := h
  have hn' : (s0.run ops).2.n = s0.n := run_n _ _
  refine icflush_ h4 h5 h6 h2 hm0 (mine_dead h3) hn ⟨by omega, hx.2⟩ (by omega) fun st' F' G' i' d' A' u' => ?_
  have he := write_err (s := (s0.run ops).2) (b := b) (show 0 ≤ x by omega) (by omega)
  have hr := run_snoc (o := .w x b) h1
  by_cases h0 : ((s0.run ops).2.write x b).1 = 0
  · rw [if_pos h0] at i'
    rw [if_pos (show ((s0.run ops).2.op (.w x b)).1 = 0 from h0)] at hr
    refine hq st' _ (.inl ⟨h0, ?_⟩)
    unfold CM
    rw [hr]
    exact ⟨rfl, by rw [List.length_append, ← Nat.add_assoc]; exact write_C h2 hb, by show (((s0.run ops).2.write x b).2).mine w.mine = true; rw [write_mine h0]; exact h3, F', G', i', d', A', h7.step u'⟩
  · rw [if_neg h0] at i'
    rw [if_neg (show ¬ ((s0.run ops).2.op (.w x b)).1 = 0 from h0)] at hr
    rcases he with e | e
    · exact absurd e h0
    · rw [e.1]
      refine hq st' 3 (.inr ⟨rfl, ?_⟩)
      unfold CX
      rw [hr]
      exact ⟨rfl, F', G', i'.x, d', A', h7.step u'⟩
def logOps (o : List (Int × List Int)) : Nat → List DOp
  | 0 => []
  | i + 1 => logOps o i ++ [.w (2 + i) (o.getD i (0, [])).2]
def putOps (o : List (Int × List Int)) : Nat → List DOp
  | 0 => []
  | i + 1 => putOps o i ++ [.w (o.getD i (0, [])).1 (o.getD i (0, [])).2]
theorem logOps_len (o : List (Int × List Int)) : ∀ i, (logOps o i).length = i
  | 0 => rfl
  | i + 1 => by simp [logOps, logOps_len o i]
theorem putOps_len (o : List (Int × List Int)) : ∀ i, (putOps o i).length = i
  | 0 => rfl
  | i + 1 => by simp [putOps, putOps_len o i]
def Pfx (a b : List DOp) : Prop := ∃ r, b = a ++ r
theorem Pfx.refl (a : List DOp) : Pfx a a := ⟨[], by simp⟩
theorem Pfx.app {a b : List DOp} (r : List DOp) (h : Pfx a b) : Pfx a (b ++ r) := by
  obtain ⟨q, rfl⟩ := h
  exact ⟨q ++ r, by simp⟩
theorem Pfx.pre {a b : List DOp} (p : List DOp) (h : Pfx a b) : Pfx (p ++ a) (p ++ b) := by
  obtain ⟨q, rfl⟩ := h
  exact ⟨q, by simp⟩
theorem logOps_pfx (o : List (Int × List Int)) {i n : Nat} (h : i ≤ n) : Pfx (logOps o i) (logOps o n) := by
  induction n with
  | zero => have : i = 0 := by omega
            rw [this]; exact Pfx.refl _
  | succ n ih =>
    by_cases hi : i = n + 1
    · rw [hi]; exact Pfx.refl _
    · exact (ih (by omega)).app _
theorem putOps_pfx (o : List (Int × List Int)) {i n : Nat} (h : i ≤ n) : Pfx (putOps o i) (putOps o n) := by
  induction n with
  | zero => have : i = 0 := by omega
            rw [this]; exact Pfx.refl _
  | succ n ih =>
    by_cases hi : i = n + 1
    · rw [hi]; exact Pfx.refl _
    · exact (ih (by omega)).app _
/-- A commit, as far as the group is in its place; whole. -/
def preOps (o : List (Int × List Int)) : List DOp := ((logOps o o.length ++ [.bar]) ++ [.w 1 (headB (ordL o))]) ++ [.bar]
def commitOps (o : List (Int × List Int)) : List DOp := (((preOps o ++ putOps o o.length) ++ [.bar]) ++ [.w 1 zb]) ++ [.bar]
theorem run_pfx {a b : List DOp} (h : Pfx a b) (h3 : (s0.run a).1 = 3) : s0.run b = s0.run a := by
  obtain ⟨r, rfl⟩ := h
  rw [run_app, if_neg (by rw [h3]; decide)]
theorem CX.all (h : CX σ FG E l d w s0 ops st) {b : List DOp} (hp : Pfx ops b) : CX σ FG E l d w s0 b st := by
  unfold CX at h ⊢
  rw [run_pfx hp h.1]; exact h
/-- The disk has stopped: the answer is written down. -/
theorem CX.done (h : CX σ FG E l d w s0 ops st) : (s0.run ops).1 = 3 ∧ ∃ F G, LogX (st.put (σ.next + 1) (some (.cells [.int .i64 3] none))) l d w.mine F ∧ Disk (st.put (σ.next + 1) (some (.cells [.int .i64 3] none))) d (s0.run ops).2 G ∧ Apart F G ∧ Upd FG σ (st.put (σ.next + 1) (some (.cells [.int .i64 3] none))) (F ++ G) := by
  obtain ⟨h1, F, G, h4, h5, h6, h7⟩ := h
  have hn : (st.put (σ.next + 1) (some (.cells [.int .i64 3] none))).next = st.next := by rw [next_max]; have := Store.lt_of_get h7.eid; omega
  refine ⟨h1, F, G, h4.same (by omega) fun j hj => get_put_ne' fun e => h7.ne (e ▸ List.mem_append_left _ hj), h5.same fun j hj => get_put_ne' fun e => h7.ne (e ▸ List.mem_append_right _ hj), h6, by have := h7.upd.next; omega, fun j hj => ⟨by have := (h7.upd.ids j hj).1; omega, (h7.upd.ids j hj).2⟩, fun j hj hx => ?_⟩
  rw [get_put_ne' (by omega), h7.upd.same j hj hx]
theorem commit_ (h : Log σ l d w s F) (hd : Disk σ d s G) (hA : Apart F G) (hC : s.C m) (hm0 : m + 1000 < 2 ^ 29) (hmn : s.mine w.mine = true) (ho : w.opn = false) (hcm : w.commits < 2 ^ 62)
    (hq1 : (s.run (commitOps w.grp)).1 = 0 → ∀ σ' F' G', Log σ' l d { w with grp := [], commits := w.commits + 1 } (s.run (commitOps w.grp)).2 F' → Disk σ' d (s.run (commitOps w.grp)).2 G' → Apart F' G' → Upd (F ++ G) σ σ' (F' ++ G') → Q (.int .i64 0) σ')
    (hq2 : (s.run (commitOps w.grp)).1 = 3 → ∀ σ' F' G', LogX σ' l d w.mine F' → Disk σ' d (s.run (commitOps w.grp)).2 G' → Apart F' G' → Upd (F ++ G) σ σ' (F' ++ G') → Q (.int .i64 3) σ') :
    Does Try.prog 37 [.pointer (some ⟨l, 0, none⟩)] σ Q := by
  refine d37 ?_
  have hW := h.ok
  obtain ⟨g1, g2, g3, g4, g5, g6, g7⟩ := id hW.g
  have hmany := hW.many
  have hlb : 1 + w.g.log < w.g.blocks := by have := g7; unfold Geo.dataAt Geo.bitsAt Geo.nodeBlocks Geo.bitsBlocks at this; omega
  have hbn : w.g.blocks ≤ s.n := by obtain ⟨_, _, _, _, _, _, _, _, _, h4, _⟩ := h; exact h4
  obtain ⟨c, hm, ov, wv, hI⟩ := h.i
  have hFl := h.lt
  have hlen : (ordL w.grp).length = w.grp.length := ordL_len _
  obtain ⟨σ1, hσ1⟩ : ∃ s1, s1 = (σ.push (.cells [.pointer (some ⟨l, 0, none⟩)] none)).push (.cells [.int .i64 0] none) := ⟨_, rfl⟩
  have k1 : Keeps σ σ1 := by rw [hσ1]; exact ((Keeps.refl σ).push _).push _
  have hFG : ∀ j ∈ F ++ G, j < σ.next := fun j hj => by
    rcases List.mem_append.1 hj with hj | hj
    · exact hFl j hj
    · exact hd.lt j hj
  have cm0 : CM σ (F ++ G) [] l d w c hm ov wv s m [] w.grp σ1 := by
    refine ⟨rfl, hC, hmn, F, G, hI.same k1.1 fun j hj => k1.2 j (hFl j hj), hd.later k1, hA, ⟨Upd.keeps k1 (Upd.refl fun j hj => by have := hFG j hj; have := k1.1; omega) hFG, ?_, ?_, fun hj => by have := hFG _ hj; omega, fun hj => by have := hFG _ hj; omega, fun p hp => absurd hp List.not_mem_nil⟩⟩
    · rw [hσ1]; simp -implicitDefEqProofs (maxSteps := 2000000) (disch := first|assumption|omega|rfl|(simp only[RD];done)|(simp only[RD];omega)) only [RN,Int.reduceBEq,Int.reduceBNe,Int.reduceLT,Int.reduceLE,Int.reduceAdd,Int.reduceSub,Int.reduceMul,Nat.reduceAdd,↓bc_flatz,↓bc_flat16,↓agg_bytez]
    · rw [hσ1]; simp -implicitDefEqProofs (maxSteps := 2000000) (disch := first|assumption|omega|rfl|(simp only[RD];done)|(simp only[RD];omega)) only [RN,Int.reduceBEq,Int.reduceBNe,Int.reduceLT,Int.reduceLE,Int.reduceAdd,Int.reduceSub,Int.reduceMul,Nat.reduceAdd,↓bc_flatz,↓bc_flat16,↓agg_bytez]
  have hcells : ∀ {E st ops fg}, CM σ (F ++ G) E l d w c hm ov wv s m ops fg st → st.get l = some (.cells [ov, .map (some hm), .pointer (some ⟨d, 0, none⟩), .pointer (some ⟨c, 0, none⟩), .int .i64 w.g.blocks, .int .i64 w.g.log, .int .i64 w.g.inodes, .int .i64 1, .int .i64 (1 + w.g.log), .int .i64 w.g.nodeBlocks, .int .i64 w.g.bitsAt, .int .i64 w.g.bitsBlocks, .int .i64 w.g.dataAt, .int .i64 w.mine, .bool w.opn, .int .i64 w.room, wv, .int .i64 w.commits, .int .i64 w.steps] none) := fun h => h.cells
  have u0 : unrle [(1, Value.int .i64 0)] = [.int .i64 0] := rfl
  have hov := cm0.ord.len
  rw [hlen] at hov
  have r1 := cm0.rid
  have c1 := hcells cm0
  have bx : boxN (.pointer (some ⟨l, 0, none⟩)) = some (.cells [.pointer (some ⟨l, 0, none⟩)] none, ptrTo) := rfl
  simp -implicitDefEqProofs (maxSteps := 2000000) (disch := first|assumption|omega|rfl|(simp only[RD];done)|(simp only[RD];omega)) only [RN,Int.reduceBEq,Int.reduceBNe,Int.reduceLT,Int.reduceLE,Int.reduceAdd,Int.reduceSub,Int.reduceMul,Nat.reduceAdd,↓bc_flatz,↓bc_flat16,↓agg_bytez, p37, u0, bx]
  rw [← hσ1]
  clear hσ1
  simp -implicitDefEqProofs (maxSteps := 2000000) (disch := first|assumption|omega|rfl|(simp only[RD];done)|(simp only[RD];omega)) only [RN,Int.reduceBEq,Int.reduceBNe,Int.reduceLT,Int.reduceLE,Int.reduceAdd,Int.reduceSub,Int.reduceMul,Nat.reduceAdd,↓bc_flatz,↓bc_flat16,↓agg_bytez, r1.1, c1, hov]
  -- the bad end
  have bad : ∀ {E st ops}, CX σ (F ++ G) E l d w s ops st → Pfx ops (commitOps w.grp) → Q (.int .i64 3) (st.put (σ.next + 1) (some (.cells [.int .i64 3] none))) := fun hx hp => by
    obtain ⟨a1, F', G', a2, a3, a4, a5⟩ := (hx.all hp).done
    exact hq2 a1 _ F' G' a2 a3 a4 a5
  refine lop1 (fun k v st => ∃ i : Nat, k + i = w.grp.length ∧ v = .int .i64 i ∧ CM σ (F ++ G) [] l d w c hm ov wv s m (logOps w.grp i) w.grp st) w.grp.length ⟨0, rfl, rfl, cm0⟩ ?_
  rintro k v st next ⟨i, hi, rfl, hM⟩ hnx
  have hMl := logOps_len w.grp i
  have r2 := hM.rid
  have c2 := hcells hM
  by_cases h2 : (i : Int) < w.grp.length
  · have h3 : i < w.grp.length := by omega
    obtain ⟨x, b, hxb⟩ : ∃ x b, w.grp[i]? = some (x, b) := ⟨_, _, List.getElem?_eq_getElem h3⟩
    have hmem := List.mem_of_getElem? hxb
    have hb := hW.len _ hmem
    have hdom := hW.dom _ hmem
    have hord : (ordL w.grp)[i]? = some x := by unfold ordL; rw [List.getElem?_map, hxb]; rfl
    obtain ⟨a, o, q1, q2, q3⟩ := slr_get hM.ord.r hord
    simp -implicitDefEqProofs (maxSteps := 2000000) (disch := first|assumption|omega|rfl|(simp only[RD];done)|(simp only[RD];omega)) only [RN,Int.reduceBEq,Int.reduceBNe,Int.reduceLT,Int.reduceLE,Int.reduceAdd,Int.reduceSub,Int.reduceMul,Nat.reduceAdd,↓bc_flatz,↓bc_flat16,↓agg_bytez, decide_eq_true h2, p37_11, q1, q3, r2.1, c2]
    refine cm_hit hM (by omega) hW.nodup hmem hdom (by omega) hbn (by omega) fun st2 hM2 => ?_
    have kk : Keeps st2 (st2.push (.cells (bc b) none)) := (Keeps.refl _).push _
    have hM3 := hM2.later kk
    have r3 := hM3.rid
    have c3 := hcells hM3
    have b3 : (st2.push (.cells (bc b) none)).get st2.next = some (.cells (bc b) none) := Store.get_push_same _ _
    obtain ⟨st3, hst3⟩ : ∃ s3, s3 = st2.push (.cells (bc b) none) := ⟨_, rfl⟩
    rw [← hst3] at hM3 r3 c3 b3
    simp -implicitDefEqProofs (maxSteps := 2000000) (disch := first|assumption|omega|rfl|(simp only[RD];done)|(simp only[RD];omega)) only [RN,Int.reduceBEq,Int.reduceBNe,Int.reduceLT,Int.reduceLE,Int.reduceAdd,Int.reduceSub,Int.reduceMul,Nat.reduceAdd,↓bc_flatz,↓bc_flat16,↓agg_bytez, p37_2, hb]
    rw [← hst3]
    simp -implicitDefEqProofs (maxSteps := 2000000) (disch := first|assumption|omega|rfl|(simp only[RD];done)|(simp only[RD];omega)) only [RN,Int.reduceBEq,Int.reduceBNe,Int.reduceLT,Int.reduceLE,Int.reduceAdd,Int.reduceSub,Int.reduceMul,Nat.reduceAdd,↓bc_flatz,↓bc_flat16,↓agg_bytez, r3.1, c3, b3, p37_1, hb]
    have e2 : (1 : Int) + 1 + (i : Int) = 2 + i := by omega
    refine cm_write hM3 (by omega) hb (by omega) (by omega) fun st4 r hr => ?_
    have eops : logOps w.grp i ++ [.w (2 + i) b] = logOps w.grp (i + 1) := by
      have : w.grp.getD i (0, []) = (x, b) := by rw [List.getD_eq_getElem?_getD, hxb]; rfl
      rw [logOps, this]
    rw [eops] at hr
    rcases hr with ⟨rfl, hM4⟩ | ⟨rfl, hX4⟩
    · simp -implicitDefEqProofs (maxSteps := 2000000) (disch := first|assumption|omega|rfl|(simp only[RD];done)|(simp only[RD];omega)) only [RN,Int.reduceBEq,Int.reduceBNe,Int.reduceLT,Int.reduceLE,Int.reduceAdd,Int.reduceSub,Int.reduceMul,Nat.reduceAdd,↓bc_flatz,↓bc_flat16,↓agg_bytez]
      exact hnx _ _ (by omega) ⟨i + 1, by omega, by congr 1, hM4⟩
    · have r4 := hX4.rid
      simp -implicitDefEqProofs (maxSteps := 2000000) (disch := first|assumption|omega|rfl|(simp only[RD];done)|(simp only[RD];omega)) only [RN,Int.reduceBEq,Int.reduceBNe,Int.reduceLT,Int.reduceLE,Int.reduceAdd,Int.reduceSub,Int.reduceMul,Nat.reduceAdd,↓bc_flatz,↓bc_flat16,↓agg_bytez, r4.2.1, p56]
      exact bad hX4 ((logOps_pfx w.grp (by omega)).app _ |>.app _ |>.app _ |>.app _ |>.app _ |>.app _ |>.app _)
  · have h3 : i = w.grp.length := by omega
    subst h3
    have hMay : MayL w.g (ordL w.grp) := ⟨by rw [hlen]; exact hmany, hW.nodup, fun t ht => by
      obtain ⟨p, hp, rfl⟩ := List.mem_map.1 ht
      exact hW.dom p hp⟩
    have hlay : ic w.g.lay = [.int .i64 w.g.blocks, .int .i64 w.g.log, .int .i64 w.g.inodes, .int .i64 1, .int .i64 (1 + w.g.log), .int .i64 w.g.nodeBlocks, .int .i64 w.g.bitsAt, .int .i64 w.g.bitsBlocks, .int .i64 w.g.dataAt] := rfl
    have e9 : rdPart (some (.cells [ov, .map (some hm), .pointer (some ⟨d, 0, none⟩), .pointer (some ⟨c, 0, none⟩), .int .i64 w.g.blocks, .int .i64 w.g.log, .int .i64 w.g.inodes, .int .i64 1, .int .i64 (1 + w.g.log), .int .i64 w.g.nodeBlocks, .int .i64 w.g.bitsAt, .int .i64 w.g.bitsBlocks, .int .i64 w.g.dataAt, .int .i64 w.mine, .bool w.opn, .int .i64 w.room, wv, .int .i64 w.commits, .int .i64 w.steps] none)) 4 9 = some (.agg ⟨ic w.g.lay⟩) := rfl
    have s1 : unrle [(1, Value.slice none 0 0)] = [.slice none 0 0] := rfl
    obtain ⟨oc, hoc⟩ : ∃ a b c, ov = .slice a b c := by
      rcases hM.ord.2 with ⟨_, e⟩ | ⟨i, e, _⟩
      · exact ⟨_, _, _, e⟩
      · exact ⟨_, _, _, e⟩
    obtain ⟨ob, oc2, hoc⟩ := hoc
    have eas : asCells 1 ov = some [ov] := by rw [hoc]; rfl
    simp -implicitDefEqProofs (maxSteps := 2000000) (disch := first|assumption|omega|rfl|(simp only[RD];done)|(simp only[RD];omega)) only [RN,Int.reduceBEq,Int.reduceBNe,Int.reduceLT,Int.reduceLE,Int.reduceAdd,Int.reduceSub,Int.reduceMul,Nat.reduceAdd,↓bc_flatz,↓bc_flat16,↓agg_bytez, decide_eq_false h2, p37_11, p37_10, r2.1, c2, e9, s1, eas]
    have hh := headB_len (ordL w.grp)
    refine hencode_ hW.g hM.ord.r hMay fun st2 k2 => ?_
    have hM3 := (hM.later k2).local (.cells (bc (headB (ordL w.grp))) none)
    obtain ⟨E1, hE1⟩ : ∃ E1, E1 = [(st2.next, SObj.cells (bc (headB (ordL w.grp))) none)] := ⟨_, rfl⟩
    have b3 : (st2.push (.cells (bc (headB (ordL w.grp))) none)).get st2.next = some (.cells (bc (headB (ordL w.grp))) none) := Store.get_push_same _ _
    obtain ⟨hid, hhid⟩ : ∃ h, h = st2.next := ⟨_, rfl⟩
    obtain ⟨st3, hst3⟩ : ∃ s3, s3 = st2.push (.cells (bc (headB (ordL w.grp))) none) := ⟨_, rfl⟩
    have hidn : hid < st3.next ∧ σ.next + 1 < hid := by
      rw [hst3, Store.next_push, hhid]
      have := k2.1
      omega
    rw [← hst3, ← hhid] at b3
    rw [← hst3, ← hE1] at hM3
    rw [← hhid] at hE1
    have r3 := hM3.rid
    have c3 := hcells hM3
    have ps3 : st3.put (σ.next + 1) (some (.cells [.int .i64 0] none)) = st3 := put_self r3.2.1
    simp -implicitDefEqProofs (maxSteps := 2000000) (disch := first|assumption|omega|rfl|(simp only[RD];done)|(simp only[RD];omega)) only [RN,Int.reduceBEq,Int.reduceBNe,Int.reduceLT,Int.reduceLE,Int.reduceAdd,Int.reduceSub,Int.reduceMul,Nat.reduceAdd,↓bc_flatz,↓bc_flat16,↓agg_bytez, hh]
    rw [← hst3, ← hhid]
    clear hst3
    have r2b := (hM.later k2).rid
    simp -implicitDefEqProofs (maxSteps := 2000000) (disch := first|assumption|omega|rfl|(simp only[RD];done)|(simp only[RD];omega)) only [RN,Int.reduceBEq,Int.reduceBNe,Int.reduceLT,Int.reduceLE,Int.reduceAdd,Int.reduceSub,Int.reduceMul,Nat.reduceAdd,↓bc_flatz,↓bc_flat16,↓agg_bytez, r2b.2.1, r3.2.1, ps3, p37_9, r3.1, c3]
    refine cm_bar hM3 (by omega) fun st4 r hr => ?_
    have pf1 : Pfx (logOps w.grp w.grp.length ++ [.bar]) (commitOps w.grp) := ((((((Pfx.refl _).app _).app _).app _).app _).app _).app _
    have pf2 : Pfx ((logOps w.grp w.grp.length ++ [.bar]) ++ [.w 1 (headB (ordL w.grp))]) (commitOps w.grp) := (((((Pfx.refl _).app _).app _).app _).app _).app _
    have pf3 : Pfx (preOps w.grp) (commitOps w.grp) := ((((Pfx.refl _).app _).app _).app _).app _
    rcases hr with ⟨rfl, hM4⟩ | ⟨rfl, hX4⟩
    rotate_left
    · have r4 := hX4.rid
      simp -implicitDefEqProofs (maxSteps := 2000000) (disch := first|assumption|omega|rfl|(simp only[RD];done)|(simp only[RD];omega)) only [RN,Int.reduceBEq,Int.reduceBNe,Int.reduceLT,Int.reduceLE,Int.reduceAdd,Int.reduceSub,Int.reduceMul,Nat.reduceAdd,↓bc_flatz,↓bc_flat16,↓agg_bytez, r4.2.1, p37_8, p37_7, p56]
      exact bad hX4 pf1
    -- the header
    have hl1 : (logOps w.grp w.grp.length ++ [DOp.bar]).length = w.grp.length + 1 := by simp [logOps_len]
    have r4 := hM4.rid
    have c4 := hcells hM4
    have b4 : st4.get hid = some (.cells (bc (headB (ordL w.grp))) none) := hM4.ext (p := (hid, _)) (by rw [hE1]; exact List.mem_cons_self)
    simp -implicitDefEqProofs (maxSteps := 2000000) (disch := first|assumption|omega|rfl|(simp only[RD];done)|(simp only[RD];omega)) only [RN,Int.reduceBEq,Int.reduceBNe,Int.reduceLT,Int.reduceLE,Int.reduceAdd,Int.reduceSub,Int.reduceMul,Nat.reduceAdd,↓bc_flatz,↓bc_flat16,↓agg_bytez, p37_8, r4.1, c4, b4, hh]
    refine cm_write hM4 (by omega) hh (by omega) (by omega) fun st5 r hr => ?_
    rcases hr with ⟨rfl, hM5⟩ | ⟨rfl, hX5⟩
    rotate_left
    · have r5 := hX5.rid
      simp -implicitDefEqProofs (maxSteps := 2000000) (disch := first|assumption|omega|rfl|(simp only[RD];done)|(simp only[RD];omega)) only [RN,Int.reduceBEq,Int.reduceBNe,Int.reduceLT,Int.reduceLE,Int.reduceAdd,Int.reduceSub,Int.reduceMul,Nat.reduceAdd,↓bc_flatz,↓bc_flat16,↓agg_bytez, r5.2.1, p37_7, p56]
      exact bad hX5 pf2
    have r5 := hM5.rid
    have c5 := hcells hM5
    simp -implicitDefEqProofs (maxSteps := 2000000) (disch := first|assumption|omega|rfl|(simp only[RD];done)|(simp only[RD];omega)) only [RN,Int.reduceBEq,Int.reduceBNe,Int.reduceLT,Int.reduceLE,Int.reduceAdd,Int.reduceSub,Int.reduceMul,Nat.reduceAdd,↓bc_flatz,↓bc_flat16,↓agg_bytez, p37_7, r5.1, c5]
    have hl2 : ((logOps w.grp w.grp.length ++ [DOp.bar]) ++ [DOp.w 1 (headB (ordL w.grp))]).length = w.grp.length + 2 := by simp [logOps_len]
    refine cm_bar hM5 (by omega) fun st6 r hr => ?_
    rcases hr with ⟨rfl, hM6⟩ | ⟨rfl, hX6⟩
    rotate_left
    · have r6 := hX6.rid
      simp -implicitDefEqProofs (maxSteps := 2000000) (disch := first|assumption|omega|rfl|(simp only[RD];done)|(simp only[RD];omega)) only [RN,Int.reduceBEq,Int.reduceBNe,Int.reduceLT,Int.reduceLE,Int.reduceAdd,Int.reduceSub,Int.reduceMul,Nat.reduceAdd,↓bc_flatz,↓bc_flat16,↓agg_bytez, r6.2.1, p56]
      exact bad hX6 pf3
    have r6 := hM6.rid
    have c6 := hcells hM6
    have hov6 := hM6.ord.len
    rw [hlen] at hov6
    simp -implicitDefEqProofs (maxSteps := 2000000) (disch := first|assumption|omega|rfl|(simp only[RD];done)|(simp only[RD];omega)) only [RN,Int.reduceBEq,Int.reduceBNe,Int.reduceLT,Int.reduceLE,Int.reduceAdd,Int.reduceSub,Int.reduceMul,Nat.reduceAdd,↓bc_flatz,↓bc_flat16,↓agg_bytez, r6.1, c6, p37_6, hov6]
    have hl3 : (preOps w.grp).length = w.grp.length + 3 := by simp [preOps, logOps_len]
    refine lop1 (fun k v st => ∃ i : Nat, k + i = w.grp.length ∧ v = .int .i64 i ∧ CM σ (F ++ G) E1 l d w c hm ov wv s m (preOps w.grp ++ putOps w.grp i) (w.grp.drop i) st) w.grp.length ⟨0, rfl, rfl, by rw [putOps, List.append_nil]; exact hM6⟩ ?_
    rintro k v st7 next ⟨i, hi, rfl, hM7⟩ hnx
    have hMl7 := putOps_len w.grp i
    have hl4 : (preOps w.grp ++ putOps w.grp i).length = w.grp.length + 3 + i := by simp [hl3, hMl7]
    have r7 := hM7.rid
    have c7 := hcells hM7
    by_cases h2 : (i : Int) < w.grp.length
    · have h3 : i < w.grp.length := by omega
      obtain ⟨x, b, hxb⟩ : ∃ x b, w.grp[i]? = some (x, b) := ⟨_, _, List.getElem?_eq_getElem h3⟩
      have hmem := List.mem_of_getElem? hxb
      have hb := hW.len _ hmem
      have hdom := hW.dom _ hmem
      have hord : (ordL w.grp)[i]? = some x := by unfold ordL; rw [List.getElem?_map, hxb]; rfl
      obtain ⟨a, o, q1, q2, q3⟩ := slr_get hM7.ord.r hord
      have hdrop : w.grp.drop i = (x, b) :: w.grp.drop (i + 1) := by
        rw [List.drop_eq_getElem_cons h3]
        rw [List.getElem?_eq_getElem h3] at hxb
        rw [Option.some.inj hxb]
      rw [hdrop] at hM7
      have hnd : (ordL ((x, b) :: w.grp.drop (i + 1))).Nodup := by
        rw [← hdrop]
        exact hW.nodup.sublist (List.Sublist.map _ (List.drop_sublist _ _))
      simp -implicitDefEqProofs (maxSteps := 2000000) (disch := first|assumption|omega|rfl|(simp only[RD];done)|(simp only[RD];omega)) only [RN,Int.reduceBEq,Int.reduceBNe,Int.reduceLT,Int.reduceLE,Int.reduceAdd,Int.reduceSub,Int.reduceMul,Nat.reduceAdd,↓bc_flatz,↓bc_flat16,↓agg_bytez, decide_eq_true h2, p37_3, q1, q3, r7.1, c7]
      have eops : (preOps w.grp ++ putOps w.grp i) ++ [.w x b] = preOps w.grp ++ putOps w.grp (i + 1) := by
        have : w.grp.getD i (0, []) = (x, b) := by rw [List.getD_eq_getElem?_getD, hxb]; rfl
        rw [putOps, this, List.append_assoc]
      refine cm_flush hM7 (by omega) hnd hb hdom (by omega) hbn fun st8 e he => ?_
      rw [eops] at he
      rcases he with ⟨rfl, hM8⟩ | ⟨rfl, hX8⟩
      · simp -implicitDefEqProofs (maxSteps := 2000000) (disch := first|assumption|omega|rfl|(simp only[RD];done)|(simp only[RD];omega)) only [RN,Int.reduceBEq,Int.reduceBNe,Int.reduceLT,Int.reduceLE,Int.reduceAdd,Int.reduceSub,Int.reduceMul,Nat.reduceAdd,↓bc_flatz,↓bc_flat16,↓agg_bytez]
        exact hnx _ _ (by omega) ⟨i + 1, by omega, by congr 1, hM8⟩
      · have r8 := hX8.rid
        simp -implicitDefEqProofs (maxSteps := 2000000) (disch := first|assumption|omega|rfl|(simp only[RD];done)|(simp only[RD];omega)) only [RN,Int.reduceBEq,Int.reduceBNe,Int.reduceLT,Int.reduceLE,Int.reduceAdd,Int.reduceSub,Int.reduceMul,Nat.reduceAdd,↓bc_flatz,↓bc_flat16,↓agg_bytez, r8.2.1, p56]
        exact bad hX8 ((((putOps_pfx w.grp (show i + 1 ≤ w.grp.length by omega)).pre _).app _ |>.app _) |>.app _)
    · have h3 : i = w.grp.length := by omega
      subst h3
      rw [List.drop_length] at hM7
      simp -implicitDefEqProofs (maxSteps := 2000000) (disch := first|assumption|omega|rfl|(simp only[RD];done)|(simp only[RD];omega)) only [RN,Int.reduceBEq,Int.reduceBNe,Int.reduceLT,Int.reduceLE,Int.reduceAdd,Int.reduceSub,Int.reduceMul,Nat.reduceAdd,↓bc_flatz,↓bc_flat16,↓agg_bytez, decide_eq_false h2, r7.1, c7]
      refine cm_bar hM7 (by omega) fun st8 r hr => ?_
      have pf4 : Pfx ((preOps w.grp ++ putOps w.grp w.grp.length) ++ [.bar]) (commitOps w.grp) := ((Pfx.refl _).app _).app _
      have pf5 : Pfx (((preOps w.grp ++ putOps w.grp w.grp.length) ++ [.bar]) ++ [.w 1 zb]) (commitOps w.grp) := (Pfx.refl _).app _
      rcases hr with ⟨rfl, hM8⟩ | ⟨rfl, hX8⟩
      rotate_left
      · have r8 := hX8.rid
        simp -implicitDefEqProofs (maxSteps := 2000000) (disch := first|assumption|omega|rfl|(simp only[RD];done)|(simp only[RD];omega)) only [RN,Int.reduceBEq,Int.reduceBNe,Int.reduceLT,Int.reduceLE,Int.reduceAdd,Int.reduceSub,Int.reduceMul,Nat.reduceAdd,↓bc_flatz,↓bc_flat16,↓agg_bytez, r8.2.1, p37_5, p37_4, p56]
        exact bad hX8 pf4
      have hl5 : ((preOps w.grp ++ putOps w.grp w.grp.length) ++ [DOp.bar]).length = w.grp.length + 4 + w.grp.length := by simp [hl3, hMl7]; omega
      have r8 := hM8.rid
      have c8 := hcells hM8
      simp -implicitDefEqProofs (maxSteps := 2000000) (disch := first|assumption|omega|rfl|(simp only[RD];done)|(simp only[RD];omega)) only [RN,Int.reduceBEq,Int.reduceBNe,Int.reduceLT,Int.reduceLE,Int.reduceAdd,Int.reduceSub,Int.reduceMul,Nat.reduceAdd,↓bc_flatz,↓bc_flat16,↓agg_bytez, p37_5, r8.1, c8]
      refine cm_write hM8 (by omega) zb_len (by omega) (by omega) fun st9 r hr => ?_
      rcases hr with ⟨rfl, hM9⟩ | ⟨rfl, hX9⟩
      rotate_left
      · have r9 := hX9.rid
        simp -implicitDefEqProofs (maxSteps := 2000000) (disch := first|assumption|omega|rfl|(simp only[RD];done)|(simp only[RD];omega)) only [RN,Int.reduceBEq,Int.reduceBNe,Int.reduceLT,Int.reduceLE,Int.reduceAdd,Int.reduceSub,Int.reduceMul,Nat.reduceAdd,↓bc_flatz,↓bc_flat16,↓agg_bytez, r9.2.1, p37_4, p56]
        exact bad hX9 pf5
      have hl6 : (((preOps w.grp ++ putOps w.grp w.grp.length) ++ [DOp.bar]) ++ [DOp.w 1 zb]).length = w.grp.length + 5 + w.grp.length := by rw [List.length_append, hl5]; simp; omega
      have r9 := hM9.rid
      have c9 := hcells hM9
      simp -implicitDefEqProofs (maxSteps := 2000000) (disch := first|assumption|omega|rfl|(simp only[RD];done)|(simp only[RD];omega)) only [RN,Int.reduceBEq,Int.reduceBNe,Int.reduceLT,Int.reduceLE,Int.reduceAdd,Int.reduceSub,Int.reduceMul,Nat.reduceAdd,↓bc_flatz,↓bc_flat16,↓agg_bytez, p37_4, r9.1, c9]
      refine cm_bar hM9 (by omega) fun sta r hr => ?_
      rcases hr with ⟨rfl, hMa⟩ | ⟨rfl, hXa⟩
      rotate_left
      · have ra := hXa.rid
        simp -implicitDefEqProofs (maxSteps := 2000000) (disch := first|assumption|omega|rfl|(simp only[RD];done)|(simp only[RD];omega)) only [RN,Int.reduceBEq,Int.reduceBNe,Int.reduceLT,Int.reduceLE,Int.reduceAdd,Int.reduceSub,Int.reduceMul,Nat.reduceAdd,↓bc_flatz,↓bc_flat16,↓agg_bytez, ra.2.1, p56]
        exact bad hXa (Pfx.refl _)
      have ra := hMa.rid
      have ca := hcells hMa
      have psa : sta.put (σ.next + 1) (some (.cells [.int .i64 0] none)) = sta := put_self ra.2.1
      simp -implicitDefEqProofs (maxSteps := 2000000) (disch := first|assumption|omega|rfl|(simp only[RD];done)|(simp only[RD];omega)) only [RN,Int.reduceBEq,Int.reduceBNe,Int.reduceLT,Int.reduceLE,Int.reduceAdd,Int.reduceSub,Int.reduceMul,Nat.reduceAdd,↓bc_flatz,↓bc_flat16,↓agg_bytez, ra.2.1, psa, p56, ra.1]
      have kb : Keeps sta (sta.push (.map [] 0)) := (Keeps.refl _).push _
      have hMb := hMa.later kb
      have mb : (sta.push (.map [] 0)).get sta.next = some (.map [] 0) := Store.get_push_same _ _
      have nb : (sta.push (.map [] 0)).next = sta.next + 1 := Store.next_push _ _
      generalize sta.push (.map [] 0) = stb at kb hMb mb nb ⊢
      have rb := hMb.rid
      have cb := hcells hMb
      have hll : l ≠ σ.next := fun e => by
        have := Store.lt_of_get hI.cells
        omega
      have hlll : l ≠ σ.next + 1 := fun e => by
        have := Store.lt_of_get hI.cells
        omega
      have hln : l < sta.next := Store.lt_of_get hMa.cells
      have ew : wrAll (stb.get l) stb l 2 [.slice none 0 0, .map (some sta.next)] = some (junk, stb.put l (some (.cells [.slice none 0 0, .map (some sta.next), .pointer (some ⟨d, 0, none⟩), .pointer (some ⟨c, 0, none⟩), .int .i64 w.g.blocks, .int .i64 w.g.log, .int .i64 w.g.inodes, .int .i64 1, .int .i64 (1 + w.g.log), .int .i64 w.g.nodeBlocks, .int .i64 w.g.bitsAt, .int .i64 w.g.bitsBlocks, .int .i64 w.g.dataAt, .int .i64 w.mine, .bool w.opn, .int .i64 w.room, wv, .int .i64 w.commits, .int .i64 w.steps] none))) := by
        rw [cb]
        have hb2 : Nat.ble 2 19 = true := rfl
        simp [wrAll, splice, hb2]
      have hcnt := hW.cnt
      simp -implicitDefEqProofs (maxSteps := 2000000) (disch := first|assumption|omega|rfl|(simp only[RD];done)|(simp only[RD];omega)) only [RN,Int.reduceBEq,Int.reduceBNe,Int.reduceLT,Int.reduceLE,Int.reduceAdd,Int.reduceSub,Int.reduceMul,Nat.reduceAdd,↓bc_flatz,↓bc_flat16,↓agg_bytez, ew]
      have gl : ∀ o : Option SObj, (stb.put l o).get σ.next = stb.get σ.next := fun o => get_put_ne' hll.symm
      have gl2 : ∀ o : Option SObj, (stb.put l o).get (σ.next + 1) = stb.get (σ.next + 1) := fun o => get_put_ne' hlll.symm
      simp -implicitDefEqProofs (maxSteps := 2000000) (disch := first|assumption|omega|rfl|(simp only[RD];done)|(simp only[RD];omega)) only [RN,Int.reduceBEq,Int.reduceBNe,Int.reduceLT,Int.reduceLE,Int.reduceAdd,Int.reduceSub,Int.reduceMul,Nat.reduceAdd,↓bc_flatz,↓bc_flat16,↓agg_bytez, gl, gl2, rb.1, rb.2.1]
      obtain ⟨h1, h2', h3, F1, G1, ⟨v, FC, L, hv, rfl⟩, h5, h6, h7⟩ := hMa
      have hLl := L.lt
      have kf : ∀ j, j < sta.next → j ≠ l → (stb.put l (some (.cells [.slice none 0 0, .map (some sta.next), .pointer (some ⟨d, 0, none⟩), .pointer (some ⟨c, 0, none⟩), .int .i64 w.g.blocks, .int .i64 w.g.log, .int .i64 w.g.inodes, .int .i64 1, .int .i64 (1 + w.g.log), .int .i64 w.g.nodeBlocks, .int .i64 w.g.bitsAt, .int .i64 w.g.bitsBlocks, .int .i64 w.g.dataAt, .int .i64 w.mine, .bool w.opn, .int .i64 w.room, wv, .int .i64 (w.commits + 1), .int .i64 w.steps] none))).get j = sta.get j := fun j hj hne => by
        rw [get_put_ne' hne, kb.2 j hj]
      have kc : (stb.put l (some (.cells [.slice none 0 0, .map (some sta.next), .pointer (some ⟨d, 0, none⟩), .pointer (some ⟨c, 0, none⟩), .int .i64 w.g.blocks, .int .i64 w.g.log, .int .i64 w.g.inodes, .int .i64 1, .int .i64 (1 + w.g.log), .int .i64 w.g.nodeBlocks, .int .i64 w.g.bitsAt, .int .i64 w.g.bitsBlocks, .int .i64 w.g.dataAt, .int .i64 w.mine, .bool w.opn, .int .i64 w.room, wv, .int .i64 (w.commits + 1), .int .i64 w.steps] none))).get l = some (.cells (({ w with grp := [], commits := w.commits + 1 } : WS).cells d c sta.next (.slice none 0 0) wv) none) := Store.get_put_same _ _ _
      have km : (stb.put l (some (.cells [.slice none 0 0, .map (some sta.next), .pointer (some ⟨d, 0, none⟩), .pointer (some ⟨c, 0, none⟩), .int .i64 w.g.blocks, .int .i64 w.g.log, .int .i64 w.g.inodes, .int .i64 1, .int .i64 (1 + w.g.log), .int .i64 w.g.nodeBlocks, .int .i64 w.g.bitsAt, .int .i64 w.g.bitsBlocks, .int .i64 w.g.dataAt, .int .i64 w.mine, .bool w.opn, .int .i64 w.room, wv, .int .i64 (w.commits + 1), .int .i64 w.steps] none))).get sta.next = some (.map [] 0) := by rw [get_put_ne' (by omega), mb]
      have kn : (stb.put l (some (.cells [.slice none 0 0, .map (some sta.next), .pointer (some ⟨d, 0, none⟩), .pointer (some ⟨c, 0, none⟩), .int .i64 w.g.blocks, .int .i64 w.g.log, .int .i64 w.g.inodes, .int .i64 1, .int .i64 (1 + w.g.log), .int .i64 w.g.nodeBlocks, .int .i64 w.g.bitsAt, .int .i64 w.g.bitsBlocks, .int .i64 w.g.dataAt, .int .i64 w.mine, .bool w.opn, .int .i64 w.room, wv, .int .i64 (w.commits + 1), .int .i64 w.steps] none))).next = sta.next + 1 := by rw [next_max]; omega
      generalize stb.put l (some (.cells [.slice none 0 0, .map (some sta.next), .pointer (some ⟨d, 0, none⟩), .pointer (some ⟨c, 0, none⟩), .int .i64 w.g.blocks, .int .i64 w.g.log, .int .i64 w.g.inodes, .int .i64 1, .int .i64 (1 + w.g.log), .int .i64 w.g.nodeBlocks, .int .i64 w.g.bitsAt, .int .i64 w.g.bitsBlocks, .int .i64 w.g.dataAt, .int .i64 w.mine, .bool w.opn, .int .i64 w.room, wv, .int .i64 (w.commits + 1), .int .i64 w.steps] none)) = stf at kf kc km kn ⊢
      have hml : sta.next ∉ lids l hm ov wv FC := fun hx => by have := hLl _ hx; omega
      have hnl : ∀ j ∈ lids l hm ov wv FC, j ≠ sta.next := fun j hj e => hml (e ▸ hj)
      have dis2 : Dis l sta.next (idsV (.slice none 0 0)) (idsM wv) FC := by
        refine ⟨by omega, by simp [idsV], L.dis.lB, L.dis.lC, by simp [idsV], fun hx => hml (by simp [lids, hx]), fun hx => hml (by simp [lids, hx]), fun j hj => by simp [idsV] at hj, fun j hj => by simp [idsV] at hj, L.dis.BC⟩
      have wok : WOk { w with grp := [], commits := w.commits + 1 } := ⟨hW.g, List.nodup_nil, fun p hp => absurd hp List.not_mem_nil, fun p hp => absurd hp List.not_mem_nil, by show ((0 : Nat) : Int) ≤ w.g.log - 1; omega, hW.room, (fun e => by rw [show w.opn = true from e] at ho; cases ho), hW.mine, by show 0 ≤ w.commits + 1 ∧ 0 ≤ w.steps; omega⟩
      have Lf : LAt stf l d { w with grp := [], commits := w.commits + 1 } c sta.next (.slice none 0 0) wv (([] : List (Int × List Int)).length : Nat) v FC := by
        refine ⟨kc, MapC.new km |>.ext (fun x => by simp [setF, ordL]) rfl, SlG.nil, (fun e => by rw [show w.opn = true from e] at ho; cases ho), fun j hj => by have := L.wlt j hj; omega, L.cache.same fun j hj => kf j (L.cache.lt j hj) fun e => L.dis.lC (e ▸ hj), dis2⟩
      have hsub : ∀ j ∈ lids l sta.next (.slice none 0 0) wv FC, j ∈ lids l hm ov wv FC ∨ j = sta.next := fun j hj => by
        simp only [lids, idsV, List.mem_cons, List.mem_append, List.not_mem_nil, false_or] at hj ⊢
        rcases hj with h | h | h | h
        · exact .inl (.inl h)
        · exact .inr h
        · exact .inl (.inr (.inr (.inr (.inl h))))
        · exact .inl (.inr (.inr (.inr (.inr h))))
      have hG1 : ∀ j ∈ G1, j < sta.next := h5.lt
      refine hq1 h1 stf _ G1 ⟨_, _, _, _, _, _, Lf, hv, wok, by show w.g.blocks ≤ _; rw [run_n]; exact hbn, rfl⟩ (h5.same fun j hj => kf j (hG1 j hj) fun e => h6 l (by simp [lids]) (e ▸ hj)) (fun j hj hg => ?_) ⟨by have := h7.upd.next; omega, fun j hj => ?_, fun j hj hn => ?_⟩
      · rcases hsub j hj with h | h
        · exact h6 j h hg
        · have := hG1 j hg; omega
      · rcases List.mem_append.1 hj with hj | hj
        · refine ⟨Lf.lt j hj, ?_⟩
          rcases hsub j hj with h | h
          · exact (h7.upd.ids j (List.mem_append_left _ h)).2
          · right; have := h7.upd.next; omega
        · exact ⟨by have := hG1 j hj; omega, (h7.upd.ids j (List.mem_append_right _ hj)).2⟩
      · have hjl : j ≠ l := fun e => hn (List.mem_append_left _ (by rw [e]; exact h.x.1))
        rw [kf j (by have := h7.upd.next; omega) hjl, h7.upd.same j hj hn]
end Go.Proofs.Ytiaonndafhfkmaa
