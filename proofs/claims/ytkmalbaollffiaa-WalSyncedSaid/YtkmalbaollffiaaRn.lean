/- A log, its disk, and objects of a law's own beside them. -/
import Derived.Test.YtkmalbaollffiaaSyp
set_option linter.all false
set_option maxRecDepth 100000
set_option maxHeartbeats 400000
namespace Go.Proofs.Ytkmalbaollffiaa
open Go.Am
variable {σ st st' : Store} {l d : Nat} {w : WS} {s : DS} {m : Nat} {os : List (Nat × SObj)} {Q : Value → Store → Prop} {F G F' G' : List Nat}
def RnX (σ st : Store) (l d : Nat) (w : WS) (s : DS) (os : List (Nat × SObj)) (F G : List Nat) : Prop := Log st l d w s F ∧ Disk st d s G ∧ Apart F G ∧ (∀ j ∈ F ++ G, σ.next ≤ j) ∧ Keeps σ st ∧ ∀ p ∈ os, p.1 ∉ F ++ G ∧ st.get p.1 = some p.2
structure Rn (σ st : Store) (l d : Nat) (w : WS) (s : DS) (m : Nat) (os : List (Nat × SObj)) : Prop where
  ex : ∃ F G, RnX σ st l d w s os F G
  C : s.C m
  lv : s.live
  mn : s.mine w.mine = true
theorem RnX.upd {w' : WS} {s' : DS} (h : RnX σ st l d w s os F G) (L : Log st' l d w' s' F') (D : Disk st' d s' G') (A : Apart F' G') (U : Upd (F ++ G) st st' (F' ++ G')) : RnX σ st' l d w' s' os F' G' := by
  obtain ⟨h1, h2, h3, h4, h5, h6⟩ := h
  refine ⟨L, D, A, fun j hj => ?_, ⟨Nat.le_trans h5.1 U.next, fun j hj => ?_⟩, fun p hp => ?_⟩
  · rcases (U.ids j hj).2 with h | h
    · exact h4 j h
    · exact Nat.le_trans h5.1 h
  · rw [U.same j (Nat.lt_of_lt_of_le hj h5.1) (fun hf => by have := h4 j hf; omega), h5.2 j hj]
  · obtain ⟨p1, p2⟩ := h6 p hp
    have hlt := Store.lt_of_get p2
    refine ⟨fun hx => ?_, by rw [U.same _ hlt p1, p2]⟩
    rcases (U.ids _ hx).2 with h | h
    · exact p1 h
    · omega
theorem Rn.keeps (h : Rn σ st l d w s m os) : Keeps σ st := by
  obtain ⟨_, _, _, _, _, _, h5, _⟩ := h.ex
  exact h5
theorem Rn.get (h : Rn σ st l d w s m os) {j : Nat} {o : SObj} (hm : (j, o) ∈ os) : st.get j = some o := by
  obtain ⟨_, _, _, _, _, _, _, h6⟩ := h.ex
  exact (h6 _ hm).2
theorem Rn.ok (h : Rn σ st l d w s m os) : WOk w := by
  obtain ⟨_, _, h1, _⟩ := h.ex
  exact h1.ok
theorem Rn.n (h : Rn σ st l d w s m os) : w.g.blocks ≤ s.n := by
  obtain ⟨_, _, ⟨_, _, _, _, _, _, _, _, _, h, _⟩, _⟩ := h.ex
  exact h
theorem Rn.less (h : Rn σ st l d w s m os) {os' : List (Nat × SObj)} (hs : ∀ p ∈ os', p ∈ os) : Rn σ st l d w s m os' := by
  obtain ⟨⟨F, G, h1, h2, h3, h4, h5, h6⟩, C, lv, mn⟩ := h
  exact ⟨⟨F, G, h1, h2, h3, h4, h5, fun p hp => h6 p (hs p hp)⟩, C, lv, mn⟩
/-- The law's own things change, or new ones come. -/
theorem Rn.chg (h : Rn σ st l d w s m os) {ch : List Nat} {os' : List (Nat × SObj)} (hc : ∀ j ∈ ch, σ.next ≤ j ∧ ∃ o, (j, o) ∈ os) (hn : st.next ≤ st'.next) (hg : ∀ j, j < st.next → j ∉ ch → st'.get j = st.get j) (ho : ∀ p ∈ os', st'.get p.1 = some p.2 ∧ (st.next ≤ p.1 ∨ ∃ o, (p.1, o) ∈ os)) : Rn σ st' l d w s m os' := by
  obtain ⟨⟨F, G, h1, h2, h3, h4, h5, h6⟩, C, lv, mn⟩ := h
  have hlt : ∀ j ∈ F ++ G, j < st.next := fun j hj => by
    rcases List.mem_append.1 hj with h | h
    · exact h1.lt j h
    · exact h2.lt j h
  have hF : ∀ j ∈ F ++ G, st'.get j = st.get j := fun j hj => hg j (hlt j hj) fun hc' => by
    obtain ⟨_, o, hm⟩ := hc j hc'
    exact (h6 _ hm).1 hj
  refine ⟨⟨F, G, h1.same hn fun j hj => hF j (List.mem_append_left _ hj), h2.same fun j hj => hF j (List.mem_append_right _ hj), h3, h4, ⟨Nat.le_trans h5.1 hn, fun j hj => ?_⟩, fun p hp => ⟨fun hf => ?_, (ho p hp).1⟩⟩, C, lv, mn⟩
  · rw [hg j (by have := h5.1; omega) (fun hc' => by have := (hc j hc').1; omega), h5.2 j hj]
  · rcases (ho p hp).2 with h | ⟨o, hm⟩
    · have := hlt _ hf; omega
    · exact (h6 _ hm).1 hf
theorem Rn.push (h : Rn σ st l d w s m os) (o : SObj) : Rn σ (st.push o) l d w s m ((st.next, o) :: os) := by
  have k := (Keeps.refl st).push o
  refine h.chg (ch := []) (fun j hj => by cases hj) k.1 (fun j hj _ => k.2 j hj) fun p hp => ?_
  rcases List.mem_cons.1 hp with rfl | hp
  · exact ⟨Store.get_push_same _ _, .inl (Nat.le_refl _)⟩
  · exact ⟨k.get (h.get hp), .inr ⟨_, hp⟩⟩
theorem Rn.later (h : Rn σ st l d w s m os) (k : Keeps st st') : Rn σ st' l d w s m os :=
  h.chg (ch := []) (fun j hj => by cases hj) k.1 (fun j hj _ => k.2 j hj) fun p hp => ⟨k.get (h.get hp), .inr ⟨_, hp⟩⟩
theorem rn_write (h : Rn σ st l d w s m os) {x : Int} {b : List Int} (hb : b.length = 1024) (hq : ∀ st', Rn σ st' l d (w.write x b).2 s m os → Q (.int .i64 (w.write x b).1) st') : Does Try.prog 15 [.pointer (some ⟨l, 0, none⟩), .int .i64 x, .agg ⟨bc b⟩] st Q := by
  obtain ⟨⟨F, G, hX⟩, C, lv, M⟩ := h
  exact lwrite_ hX.1 hX.2.1 hX.2.2.1 C M hb fun st' F' L' D' A' U' => hq st' ⟨⟨F', G, hX.upd L' D' A' U'⟩, C, lv, by rw [(write_keeps w x b).2.1]; exact M⟩
theorem rn_end (h : Rn σ st l d w s m os) (ho : w.opn = true) (hs : w.steps < 2 ^ 62) (hq : ∀ st', Rn σ st' l d { w with opn := false, steps := w.steps + 1 } s m os → Q (.int .i64 0) st') : Does Try.prog 18 [.pointer (some ⟨l, 0, none⟩)] st Q := by
  obtain ⟨⟨F, G, hX⟩, C, lv, M⟩ := h
  exact end_ hX.1 hX.2.1 hX.2.2.1 C M hs (fun h => by rw [ho] at h; cases h) fun _ st' L' D' U' => hq st' ⟨⟨F, G, hX.upd L' D' hX.2.2.1 (upd_left U' hX.2.1.lt)⟩, C, lv, M⟩
/-- What a commit leaves. -/
structure After (w w' : WS) (s s' : DS) : Prop where
  g : w'.g = w.g
  at_ : ∀ y, 1 + w.g.log ≤ y → w'.at s' y = w.at s y
  head : s'.at 1 = s.at 1 ∨ s'.at 1 = zb
  wait : s'.wait = s.wait ∨ s'.wait = []
  steps : w'.steps = w.steps
  commits : w.commits ≤ w'.commits ∧ w'.commits ≤ w.commits + 1
theorem After.refl (w : WS) (s : DS) : After w w s s := ⟨rfl, fun _ _ => rfl, .inl rfl, .inl rfl, rfl, by omega⟩
theorem rn_begin (h : Rn σ st l d w s m os) (hm0 : m + 1000 < 2 ^ 29) (ho : w.opn = false) (hcm : w.commits < 2 ^ 62) {r : Int} (hr : 1 ≤ r ∧ r ≤ w.g.log - 1) (hq : ∀ st' w' s', Rn σ st' l d w' s' (m + 600) os → w'.opn = true → w'.wrote = [] → w'.room = r → After w w' s s' → Q (.int .i64 0) st') :
    Does Try.prog 9 [.pointer (some ⟨l, 0, none⟩), .int .i64 r] st Q := by
  have hW := h.ok
  have hn := h.n
  obtain ⟨⟨F, G, hX⟩, C, lv, M⟩ := h
  have hg := hW.g
  unfold Geo.ok at hg
  obtain ⟨e0, lv'⟩ := commit_live lv hW hn
  refine begin_ hX.1 hX.2.1 hX.2.2.1 C hm0 M hcm (r := r) (by omega) (fun e he => ?_) (fun _ _ _ h st' F' L' D' A' U' => hq st' _ _ ⟨⟨F', G, hX.upd L' D' A' U'⟩, C.le (by omega), lv, M⟩ rfl rfl rfl ⟨rfl, fun _ _ => rfl, .inl rfl, .inl rfl, rfl, by show w.commits ≤ w.commits ∧ w.commits ≤ w.commits + 1; omega⟩) (fun _ _ _ h _ st' F' G' L' D' A' U' => hq st' _ _ ⟨⟨F', G', hX.upd L' D' A' U'⟩, commit_C' C hW, lv', by rw [show (w.done.begin r).mine = w.mine from rfl, run_mine e0]; exact M⟩ rfl rfl rfl ⟨rfl, fun y hy => ?_, .inr (commit_head lv hW hn), .inr (commit_wait lv hW hn), rfl, by show w.commits ≤ w.commits + 1 ∧ w.commits + 1 ≤ w.commits + 1; omega⟩) (fun _ _ _ _ h => by rw [e0] at h; cases h)
  · rcases he with ⟨h, _⟩ | ⟨_, h, _⟩
    · rw [ho] at h; cases h
    · omega
  · rw [← commit_at lv hW hn hy]; rfl
theorem rn_sync (h : Rn σ st l d w s m os) (hm0 : m + 1000 < 2 ^ 29) (ho : w.opn = false) (hcm : w.commits < 2 ^ 62) (hq : ∀ st' w' s', Rn σ st' l d w' s' (m + 600) os → w'.opn = false → w'.grp = [] → After w w' s s' → (w.grp = [] → st' = st ∧ w' = w ∧ s' = s) → Q (.int .i64 0) st') :
    Does Try.prog 20 [.pointer (some ⟨l, 0, none⟩)] st Q := by
  have hR := h
  have hW := h.ok
  have hn := h.n
  obtain ⟨⟨F, G, hX⟩, C, lv, M⟩ := h
  obtain ⟨e0, lv'⟩ := commit_live lv hW hn
  refine sync_ hX.1 hX.2.1 hX.2.2.1 C hm0 M hcm (fun h => by rw [ho] at h; cases h) (fun _ h => hq st w s ⟨⟨F, G, hX⟩, C.le (by omega), lv, M⟩ ho h (After.refl w s) fun _ => ⟨rfl, rfl, rfl⟩) (fun _ h _ st' F' G' L' D' A' U' => hq st' _ _ ⟨⟨F', G', hX.upd L' D' A' U'⟩, commit_C' C hW, lv', by rw [show w.done.mine = w.mine from rfl, run_mine e0]; exact M⟩ ho rfl ⟨rfl, fun y hy => ?_, .inr (commit_head lv hW hn), .inr (commit_wait lv hW hn), rfl, by show w.commits ≤ w.commits + 1 ∧ w.commits + 1 ≤ w.commits + 1; omega⟩ fun h' => absurd h' h) (fun _ _ h => by rw [e0] at h; cases h)
  rw [← commit_at lv hW hn hy]; rfl
theorem rn_used (h : Rn σ st l d w s m os) (hq : Q (.int .i64 (w.grp.length : Nat)) st) : Does Try.prog 12 [.pointer (some ⟨l, 0, none⟩)] st Q := by
  obtain ⟨⟨F, G, hX⟩, C, lv, M⟩ := h
  exact used_ hX.1 hX.2.1 C M hq
theorem rn_commits (h : Rn σ st l d w s m os) (hq : Q (.int .i64 w.commits) st) : Does Try.prog 11 [.pointer (some ⟨l, 0, none⟩)] st Q := by
  obtain ⟨⟨F, G, hX⟩, C, lv, M⟩ := h
  exact commits_ hX.1 hX.2.1 C M hq
theorem rn_made (h : Rn σ st l d w s m os) (hq : Q (.int .i64 s.made) st) : Does Try.prog 10 [.pointer (some ⟨d, 0, none⟩)] st Q := by
  obtain ⟨⟨F, G, hX⟩, C, lv, M⟩ := h
  exact made_o hX.2.1 C hq
theorem mine_reads {x : Int} (r : Int) (h : s.mine x = true) : ({ s with reads := r } : DS).mine x = true := h
/-- The disk is read. -/
theorem rn_dread (h : Rn σ st l d w s m os) (hm : m < 2 ^ 29) {i : Int} (hi : 0 ≤ i ∧ i < w.g.blocks) (hq : ∀ st', Rn σ st' l d w { s with reads := s.reads + 1 } (m + 1) os → Q (.tuple #[.agg ⟨bc (s.at i)⟩, .int .i64 0]) st') : Does Try.prog 34 [.pointer (some ⟨d, 0, none⟩), .int .i64 i] st Q := by
  have hn := h.n
  obtain ⟨⟨F, G, hX⟩, C, lv, M⟩ := h
  have e : s.read i = (s.at i, 0, { s with reads := s.reads + 1 }) := by
    unfold DS.read
    rw [if_neg (by rw [lv.1]; decide), if_neg (by omega)]
  have C2 := read_C C (i := i)
  refine read_o hX.2.1 C hm fun st' D U => ?_
  rw [e] at D C2 ⊢
  have L := hX.1
  have U2 : Upd (F ++ G) st st' (F ++ G) := ⟨U.next, fun j hj => by
    rcases List.mem_append.1 hj with h | h
    · exact ⟨Nat.lt_of_lt_of_le (L.lt j h) U.next, .inl (List.mem_append_left _ h)⟩
    · exact ⟨(U.ids j h).1, .inl (List.mem_append_right _ h)⟩, fun j hj hne => U.same j hj fun h => hne (List.mem_append_right _ h)⟩
  have L2 : Log st' l d w { s with reads := s.reads + 1 } F := (L.same U.next fun j hj => U.same j (L.lt j hj) (hX.2.2.1 j hj)).disk rfl fun _ _ => rfl
  exact hq st' ⟨⟨F, G, hX.upd L2 D hX.2.2.1 U2⟩, C2, lv, mine_reads _ M⟩
/-- The log is read. -/
theorem rn_lread (h : Rn σ st l d w s m os) (hm : m < 2 ^ 29) {x : Int} (hx : 1 + w.g.log ≤ x ∧ x < w.g.blocks) (hq : ∀ st' r, Rn σ st' l d w { s with reads := r } (m + 1) os → Q (.tuple #[.agg ⟨bc (w.at s x)⟩, .int .i64 0]) st') : Does Try.prog 30 [.pointer (some ⟨l, 0, none⟩), .int .i64 x] st Q := by
  have hg := h.ok.g
  unfold Geo.ok at hg
  obtain ⟨⟨F, G, hX⟩, C, lv, M⟩ := h
  refine lread_ hX.1 hX.2.1 hX.2.2.1 C hm M (x := x) fun st' F' r L D C2 A U => ?_
  rw [if_neg (by omega), if_neg (by omega)]
  exact hq st' r ⟨⟨F', G, hX.upd L D A U⟩, C2, lv, mine_reads r M⟩
end Go.Proofs.Ytkmalbaollffiaa
