/- What is left of a commit, and of a recovery, wherever the disk stops. No program in sight. -/
import Derived.Test.YtkmalbaollffiaaSyp
import Derived.Test.YtkmalbaollffiaaHdd
import Derived.Test.YtkmalbaollffiaaCrs
set_option linter.all false
set_option maxRecDepth 100000
set_option maxHeartbeats 400000
namespace Go.Proofs.Ytkmalbaollffiaa
open Go.Am
variable {g : Geo} {s s' : DS} {w : WS} {m : Nat} {o : List (Int × List Int)} {A B : Int → List Int}
theorem write_cases {i : Int} {b : List Int} (hd : s.dead = false) (h0 : 0 ≤ i) (h1 : i < s.n) :
    ((s.write i b).1 = 0 ∧ (s.write i b).2.held = s.held ∧ (s.write i b).2.wait = s.wait ++ [(i, b)] ∧ (s.write i b).2.dead = false ∧ (s.write i b).2.n = s.n) ∨ ((s.write i b).1 = 3 ∧ (s.write i b).2.held = s.held ∧ (s.write i b).2.wait = s.wait ∧ s.fuse = 0) := by
  unfold DS.write
  rw [hd, if_neg (by simp), if_neg (by omega)]
  obtain ⟨b1, b2, b3, _⟩ := burnt_same s
  by_cases hf : s.fuse = 0
  · rw [if_pos hf]; exact .inr ⟨rfl, b2, b3, hf⟩
  · rw [if_neg hf]; exact .inl ⟨rfl, b2, rfl, by show s.burnt.dead = false; rw [burnt_dead hf]; exact hd, b1⟩
theorem bar_cases (hd : s.dead = false) : (s.barrier.1 = 0 ∧ s.barrier.2.wait = [] ∧ s.barrier.2.dead = false) ∨ (s.barrier.1 = 3 ∧ s.barrier.2.held = s.held ∧ s.barrier.2.wait = s.wait) := by
  unfold DS.barrier
  rw [hd, if_neg (by simp)]
  obtain ⟨b1, b2, b3, _⟩ := burnt_same s
  by_cases hf : s.fuse = 0
  · rw [if_pos hf]; exact .inr ⟨rfl, b2, b3⟩
  · rw [if_neg hf]; exact .inl ⟨rfl, rfl, by show s.burnt.dead = false; rw [burnt_dead hf]; exact hd⟩
/-- Only writes, all within the disk. -/
def Wr (n : Int) (l : List DOp) : Prop := ∀ o ∈ l, ∃ i b, o = .w i b ∧ 0 ≤ i ∧ i < n
theorem wr_run : ∀ {l : List DOp} {s : DS}, s.dead = false → Wr s.n l → (s.run l).2.held = s.held ∧ (∀ p ∈ (s.run l).2.wait, p ∈ s.wait ∨ DOp.w p.1 p.2 ∈ l) ∧ ((s.run l).1 = 0 → (s.run l).2.dead = false ∧ ∀ x, (s.run l).2.at x = (lastW l x).getD (s.at x))
  | [], s, hd, _ => ⟨rfl, fun p hp => .inl hp, fun _ => ⟨hd, fun _ => rfl⟩⟩
  | o :: l, s, hd, hl => by
    obtain ⟨i, b, rfl, h0, h1⟩ := hl o (List.mem_cons_self ..)
    rw [run_cons]
    rcases write_cases (b := b) hd h0 h1 with ⟨e, f1, f2, f3, f4⟩ | ⟨e, f1, f2, _⟩
    · have e' : (s.op (.w i b)).1 = 0 := e
      rw [if_pos e']
      obtain ⟨r1, r2, r3⟩ := wr_run (l := l) (s := (s.write i b).2) f3 (by rw [f4]; exact fun o ho => hl o (List.mem_cons_of_mem _ ho))
      refine ⟨r1.trans f1, fun p hp => ?_, fun hz => ⟨(r3 hz).1, fun x => ?_⟩⟩
      · rcases r2 p hp with h | h
        · rw [f2] at h
          rcases List.mem_append.1 h with h | h
          · exact .inl h
          · have : p = (i, b) := by simpa using h
            subst this
            exact .inr (List.mem_cons_self ..)
        · exact .inr (List.mem_cons_of_mem _ h)
      · have e2 : ((s.op (.w i b)).2.run l).2.at x = (lastW l x).getD ((s.write i b).2.at x) := (r3 hz).2 x
        rw [e2, write_at]
        simp only [lastW]
        cases lastW l x with
        | some c => rfl
        | none =>
          by_cases hx : i = x
          · rw [if_pos ⟨e, hx.symm⟩, if_pos hx]; rfl
          · rw [if_neg (fun h => hx h.2.symm), if_neg hx]; rfl
    · have e' : ¬ (s.op (.w i b)).1 = 0 := by show ¬ (s.write i b).1 = 0; rw [e]; decide
      rw [if_neg e']
      exact ⟨f1, fun p hp => .inl (by rw [← f2]; exact hp), fun h => absurd h (by show ¬ (3 : Int) = 0; decide)⟩
theorem keepF_or (f : Int → Option (List Int)) (i : Int) (b : List Int) (x : Int) : (keepF f i b x).getD zb = if x = i then b else (f x).getD zb := by
  unfold keepF
  by_cases h : x = i
  · rw [if_pos h, if_pos h]
    by_cases hb : b = zb
    · rw [if_pos hb, hb]; rfl
    · rw [if_neg hb]; rfl
  · rw [if_neg h, if_neg h]
theorem heldI_or (f : Int → Option (List Int)) (w : List (Int × List Int)) (ks : List Bool) (x : Int) : ∀ i, i ≤ w.length → (heldI f w ks i x).getD zb = (f x).getD zb ∨ ∃ b, (x, b) ∈ w ∧ (heldI f w ks i x).getD zb = b
  | 0, _ => .inl rfl
  | i + 1, h => by
    have ih := heldI_or f w ks x i (by omega)
    have hm : w.getD i (0, []) ∈ w := by
      rw [List.getD_eq_getElem?_getD, List.getElem?_eq_getElem (show i < w.length by omega)]
      exact List.getElem_mem _
    unfold heldI
    split
    · rw [keepF_or]
      by_cases hx : x = (w.getD i (0, [])).1
      · rw [if_pos hx]
        exact .inr ⟨_, by rw [hx]; exact hm, rfl⟩
      · rw [if_neg hx]; exact ih
    · exact ih
theorem crash_pick (s : DS) (ks : List Bool) (x : Int) : (s.crash ks).at x = (s.held x).getD zb ∨ ∃ b, (x, b) ∈ s.wait ∧ (s.crash ks).at x = b := heldI_or s.held s.wait ks x _ (Nat.le_refl _)
theorem rest_at (hw : s.wait = []) (x : Int) : s.at x = (s.held x).getD zb := by unfold DS.at; rw [hw]; rfl
theorem rest_crash (hw : s.wait = []) (ks : List Bool) (x : Int) : (s.crash ks).at x = s.at x := by
  rw [rest_at hw]
  show (heldI s.held s.wait ks s.wait.length x).getD zb = _
  rw [hw]; rfl
/-- Writes and a barrier: all of it, or any part of the writes. -/
theorem seg {l : List DOp} (hd : s.dead = false) (hw : s.wait = []) (hl : Wr s.n l) :
    ((s.run (l ++ [.bar])).1 = 0 ∧ (s.run (l ++ [.bar])).2.dead = false ∧ (s.run (l ++ [.bar])).2.wait = [] ∧ ∀ x, (s.run (l ++ [.bar])).2.at x = (lastW l x).getD (s.at x)) ∨
    ((s.run (l ++ [.bar])).1 = 3 ∧ ∀ ks x, ((s.run (l ++ [.bar])).2.crash ks).at x = s.at x ∨ ∃ b, DOp.w x b ∈ l ∧ ((s.run (l ++ [.bar])).2.crash ks).at x = b) := by
  obtain ⟨r1, r2, r3⟩ := wr_run hd hl
  have bad : ∀ t : DS, t.held = s.held → (∀ p ∈ t.wait, p ∈ s.wait ∨ DOp.w p.1 p.2 ∈ l) → ∀ ks x, (t.crash ks).at x = s.at x ∨ ∃ b, DOp.w x b ∈ l ∧ (t.crash ks).at x = b := fun t h1 h2 ks x => by
    rw [rest_at hw]
    rcases crash_pick t ks x with h | ⟨b, hb, h⟩
    · exact .inl (by rw [h, h1])
    · rcases h2 _ hb with h3 | h3
      · rw [hw] at h3; cases h3
      · exact .inr ⟨b, h3, h⟩
  rw [run_app]
  by_cases h : (s.run l).1 = 0
  · rw [if_pos h]
    obtain ⟨d, a⟩ := r3 h
    rw [run_cons]
    rcases bar_cases d with ⟨e, f2, f3⟩ | ⟨e, f1, f2⟩
    · have e' : ((s.run l).2.op .bar).1 = 0 := e
      rw [if_pos e']
      exact .inl ⟨rfl, f3, f2, fun x => by show (s.run l).2.barrier.2.at x = _; rw [barrier_at, a]⟩
    · have e' : ¬ ((s.run l).2.op .bar).1 = 0 := by show ¬ (s.run l).2.barrier.1 = 0; rw [e]; decide
      rw [if_neg e']
      exact .inr ⟨rfl, bad (s.run l).2.barrier.2 (f1.trans r1) (by rw [f2]; exact r2)⟩
  · rw [if_neg h]
    exact .inr ⟨(run_err s l).resolve_left h, bad _ r1 r2⟩
theorem lastW_log : ∀ n, n ≤ o.length → ∀ i p, o[i]? = some p → i < n → lastW (logOps o n) (2 + (i : Nat)) = some p.2
  | 0, _, i, p, _, h => by omega
  | n + 1, hn, i, p, hp, h => by
    show lastW (logOps o n ++ [.w (2 + n) (o.getD n (0, [])).2]) _ = _
    rw [lastW_app]
    simp only [lastW, Option.none_or]
    by_cases e : i = n
    · subst e
      rw [if_pos rfl, List.getD_eq_getElem?_getD, hp]; rfl
    · rw [if_neg (by omega), Option.none_or]
      exact lastW_log n (by omega) i p hp (by omega)
theorem putOps_mem {x : Int} {b : List Int} : ∀ n, n ≤ o.length → DOp.w x b ∈ putOps o n → (x, b) ∈ o
  | 0, _, h => by cases h
  | n + 1, hn, h => by
    rcases List.mem_append.1 h with h | h
    · exact putOps_mem n (by omega) h
    · have e : o.getD n (0, []) = o[n] := by rw [List.getD_eq_getElem?_getD, List.getElem?_eq_getElem (show n < o.length by omega)]; rfl
      have h := List.mem_singleton.1 h
      rw [e] at h
      cases h
      exact List.getElem_mem _
theorem logOps_wr {n' : Int} (hn : ∀ i : Int, 2 ≤ i → i < 2 + o.length → i < n') : Wr n' (logOps o o.length) := by
  have key : ∀ n, ∀ p ∈ logOps o n, ∃ i b, p = DOp.w i b := fun n => by
    induction n with
    | zero => intro p h; cases h
    | succ n ih =>
      intro p h
      rcases List.mem_append.1 h with h | h
      · exact ih p h
      · exact ⟨_, _, List.mem_singleton.1 h⟩
  intro p hp
  obtain ⟨i, b, rfl⟩ := key _ p hp
  have := logOps_in _ i b hp
  exact ⟨i, b, rfl, by omega, hn i this.1 this.2⟩
theorem putOps_wr {n' : Int} (hn : ∀ p ∈ o, 0 ≤ p.1 ∧ p.1 < n') : Wr n' (putOps o o.length) := by
  have key : ∀ n, ∀ p ∈ putOps o n, ∃ i b, p = DOp.w i b := fun n => by
    induction n with
    | zero => intro p h; cases h
    | succ n ih =>
      intro p h
      rcases List.mem_append.1 h with h | h
      · exact ih p h
      · exact ⟨_, _, List.mem_singleton.1 h⟩
  intro p hp
  obtain ⟨i, b, rfl⟩ := key _ p hp
  have := hn _ (putOps_mem _ (Nat.le_refl _) hp)
  exact ⟨i, b, rfl, this.1, this.2⟩
/-- A group. -/
structure GrpOk (g : Geo) (o : List (Int × List Int)) (B : Int → List Int) : Prop where
  nd : (ordL o).Nodup
  dom : ∀ p ∈ o, 1 + g.log ≤ p.1 ∧ p.1 < g.blocks
  many : (o.length : Int) ≤ g.log - 1
  vals : ∀ p ∈ o, B p.1 = p.2
theorem mem_ord {x : Int} {b : List Int} (h : (x, b) ∈ o) : x ∈ ordL o := List.mem_map.2 ⟨_, h, rfl⟩
theorem getG_none (hn : (ordL o).Nodup) {x : Int} (h : x ∉ ordL o) : getG o x = none := by
  cases e : getG o x with
  | none => rfl
  | some b => exact absurd (mem_ord ((getG_iff hn).1 e)) h
theorem grp_ok (hW : WOk w) : GrpOk w.g w.grp (w.at s) := ⟨hW.nodup, hW.dom, hW.many, fun p hp => by unfold WS.at; rw [(getG_iff hW.nodup).2 hp]; rfl⟩
def Cl (g : Geo) (A : Int → List Int) (s : DS) : Prop := s.at 1 = zb ∧ ∀ y, 1 + g.log ≤ y → s.at y = A y
/-- The group stands in the log. -/
def Lg (g : Geo) (o : List (Int × List Int)) (B : Int → List Int) (s : DS) : Prop := s.at 1 = headB (ordL o) ∧ (∀ (i : Nat) p, o[i]? = some p → s.at (2 + (i : Nat)) = p.2) ∧ ∀ y, 1 + g.log ≤ y → y ∉ ordL o → s.at y = B y
def Fin8 (g : Geo) (o : List (Int × List Int)) (A B : Int → List Int) (s : DS) : Prop := Cl g A s ∨ Cl g B s ∨ (o ≠ [] ∧ Lg g o B s)
theorem Fin8.same {s' : DS} (h : Fin8 g o A B s) (e : ∀ x, s'.at x = s.at x) : Fin8 g o A B s' := by
  rcases h with h | h | ⟨h0, h⟩
  · exact .inl ⟨by rw [e]; exact h.1, fun y hy => by rw [e]; exact h.2 y hy⟩
  · exact .inr (.inl ⟨by rw [e]; exact h.1, fun y hy => by rw [e]; exact h.2 y hy⟩)
  · exact .inr (.inr ⟨h0, by rw [e]; exact h.1, fun i p hp => by rw [e]; exact h.2.1 i p hp, fun y hy hn => by rw [e]; exact h.2.2 y hy hn⟩)
theorem wr_one {n : Int} {b : List Int} (hn : 1 < n) : Wr n [.w 1 b] := fun p hp => ⟨1, b, List.mem_singleton.1 hp, by omega, hn⟩
theorem one_mem {x : Int} {b c : List Int} (h : DOp.w x b ∈ [DOp.w 1 c]) : x = 1 ∧ b = c := by
  have h := List.mem_singleton.1 h
  cases h; exact ⟨rfl, rfl⟩
theorem lastW_one {x : Int} {b : List Int} : lastW [.w 1 b] x = if 1 = x then some b else none := by simp [lastW]
/-- The header is laid over: both stand, or one. -/
theorem cut_one {H : List Int} (hd : s.dead = false) (hw : s.wait = []) (hn : 1 < s.n) :
    ((s.run ([.w 1 H] ++ [.bar])).1 = 0 ∧ (s.run ([.w 1 H] ++ [.bar])).2.dead = false ∧ (s.run ([.w 1 H] ++ [.bar])).2.wait = [] ∧ (s.run ([.w 1 H] ++ [.bar])).2.at 1 = H ∧ ∀ x, x ≠ 1 → (s.run ([.w 1 H] ++ [.bar])).2.at x = s.at x) ∨
    ((s.run ([.w 1 H] ++ [.bar])).1 = 3 ∧ ∀ ks, (((s.run ([.w 1 H] ++ [.bar])).2.crash ks).at 1 = s.at 1 ∨ ((s.run ([.w 1 H] ++ [.bar])).2.crash ks).at 1 = H) ∧ ∀ x, x ≠ 1 → ((s.run ([.w 1 H] ++ [.bar])).2.crash ks).at x = s.at x) := by
  rcases seg hd hw (wr_one (b := H) hn) with ⟨a1, a2, a3, a4⟩ | ⟨a1, a2⟩
  · exact .inl ⟨a1, a2, a3, by rw [a4, lastW_one]; rfl, fun x hx => by rw [a4, lastW_one, if_neg (fun e => hx e.symm)]; rfl⟩
  · refine .inr ⟨a1, fun ks => ⟨?_, fun x hx => ?_⟩⟩
    · rcases a2 ks 1 with h | ⟨b, hb, h⟩
      · exact .inl h
      · exact .inr (by rw [h, (one_mem hb).2])
    · rcases a2 ks x with h | ⟨b, hb, h⟩
      · exact h
      · exact absurd (one_mem hb).1 hx
theorem commit_cut (hd : s.dead = false) (hw : s.wait = []) (hz : s.at 1 = zb) (hW : WOk w) (hn : w.g.blocks ≤ s.n) (hne : w.grp ≠ []) :
    ((s.run (commitOps w.grp)).1 = 0 ∧ (s.run (commitOps w.grp)).2.dead = false ∧ (s.run (commitOps w.grp)).2.wait = [] ∧ Cl w.g (w.at s) (s.run (commitOps w.grp)).2) ∨
    ((s.run (commitOps w.grp)).1 = 3 ∧ ∀ ks, Fin8 w.g w.grp s.at (w.at s) ((s.run (commitOps w.grp)).2.crash ks)) := by
  have hg := hW.g
  unfold Geo.ok at hg
  have hm := hW.many
  have hda : w.g.dataAt = 1 + w.g.log + w.g.nodeBlocks + w.g.bitsBlocks := rfl
  have hnb : w.g.nodeBlocks = (w.g.inodes + 16) / 16 := rfl
  have hbb : w.g.bitsBlocks = (w.g.blocks + 8191) / 8192 := rfl
  have ng : ∀ y, y ∉ ordL w.grp → w.at s y = s.at y := fun y hy => by unfold WS.at; rw [getG_none hW.nodup hy]; rfl
  have tg : ∀ x b, DOp.w x b ∈ putOps w.grp w.grp.length → x ∈ ordL w.grp ∧ 1 + w.g.log ≤ x := fun x b h => ⟨mem_ord (putOps_mem _ (Nat.le_refl _) h), (hW.dom _ (putOps_mem _ (Nat.le_refl _) h)).1⟩
  have e : commitOps w.grp = (logOps w.grp w.grp.length ++ [.bar]) ++ (([.w 1 (headB (ordL w.grp))] ++ [.bar]) ++ ((putOps w.grp w.grp.length ++ [.bar]) ++ ([.w 1 zb] ++ [.bar]))) := by
    unfold commitOps preOps
    simp only [List.append_assoc]
  rw [e, run_app]
  rcases seg hd hw (logOps_wr (o := w.grp) (n' := s.n) fun i h1 h2 => by omega) with ⟨a1, a2, a3, a4⟩ | ⟨a1, a2⟩
  · rw [if_pos a1]
    have n1 : (s.run (logOps w.grp w.grp.length ++ [.bar])).2.n = s.n := run_n _ _
    obtain ⟨s1, hs1⟩ : ∃ s1, s1 = (s.run (logOps w.grp w.grp.length ++ [.bar])).2 := ⟨_, rfl⟩
    rw [← hs1] at a2 a3 a4 n1 ⊢
    have f1 : s1.at 1 = zb := by
      rw [a4, lastW_none fun i b hb => by have := logOps_in _ i b hb; omega]; exact hz
    have f2 : ∀ y, 1 + w.g.log ≤ y → s1.at y = s.at y := fun y hy => by
      rw [a4, lastW_none fun i b hb => by have := logOps_in _ i b hb; omega]; rfl
    have f3 : ∀ (i : Nat) p, w.grp[i]? = some p → s1.at (2 + (i : Nat)) = p.2 := fun i p hp => by
      rw [a4, lastW_log _ (Nat.le_refl _) i p hp (List.getElem?_eq_some_iff.1 hp).1]; rfl
    rw [run_app]
    rcases cut_one (H := headB (ordL w.grp)) a2 a3 (by omega) with ⟨b1, b2, b3, b4, b5⟩ | ⟨b1, b2⟩
    · rw [if_pos b1]
      have n2 : (s1.run ([.w 1 (headB (ordL w.grp))] ++ [.bar])).2.n = s1.n := run_n _ _
      obtain ⟨s2, hs2⟩ : ∃ s2, s2 = (s1.run ([.w 1 (headB (ordL w.grp))] ++ [.bar])).2 := ⟨_, rfl⟩
      rw [← hs2] at b2 b3 b4 b5 n2 ⊢
      rw [run_app]
      rcases seg b2 b3 (putOps_wr (o := w.grp) (n' := s2.n) fun p hp => by have := hW.dom p hp; omega) with ⟨c1, c2, c3, c4⟩ | ⟨c1, c2⟩
      · rw [if_pos c1]
        have n3 : (s2.run (putOps w.grp w.grp.length ++ [.bar])).2.n = s2.n := run_n _ _
        obtain ⟨s3, hs3⟩ : ∃ s3, s3 = (s2.run (putOps w.grp w.grp.length ++ [.bar])).2 := ⟨_, rfl⟩
        rw [← hs3] at c2 c3 c4 n3 ⊢
        have g1 : s3.at 1 = headB (ordL w.grp) := by
          rw [c4, lastW_none fun i b hb => by have := (tg i b hb).2; omega]; exact b4
        have g3 : ∀ (i : Nat) p, w.grp[i]? = some p → s3.at (2 + (i : Nat)) = p.2 := fun i p hp => by
          have := (List.getElem?_eq_some_iff.1 hp).1
          rw [c4, lastW_none fun i b hb => by have := (tg i b hb).2; omega]
          exact (b5 _ (by omega)).trans (f3 i p hp)
        have g2 : ∀ y, 1 + w.g.log ≤ y → s3.at y = w.at s y := fun y hy => by
          have e1 : lastW (putOps w.grp w.grp.length) y = getG w.grp y := Option.ext fun b => by
            rw [putW hW.nodup _ (Nat.le_refl _), List.take_length]
            exact (getG_iff hW.nodup).symm
          rw [c4, e1, b5 y (by omega), f2 y hy]; rfl
        rcases cut_one (H := zb) c2 c3 (by omega) with ⟨d1, d2, d3, d4, d5⟩ | ⟨d1, d2⟩
        · exact .inl ⟨d1, d2, d3, d4, fun y hy => by rw [d5 y (by omega)]; exact g2 y hy⟩
        · refine .inr ⟨d1, fun ks => ?_⟩
          obtain ⟨h1, h2⟩ := d2 ks
          rcases h1 with h1 | h1
          · exact .inr (.inr ⟨hne, h1.trans g1, fun i p hp => (h2 _ (by omega)).trans (g3 i p hp), fun y hy _ => (h2 _ (by omega)).trans (g2 y hy)⟩)
          · exact .inr (.inl ⟨h1, fun y hy => (h2 _ (by omega)).trans (g2 y hy)⟩)
      · rw [if_neg (by rw [c1]; decide)]
        refine .inr ⟨c1, fun ks => ?_⟩
        have k : ∀ x, x ∉ ordL w.grp → ((s2.run (putOps w.grp w.grp.length ++ [.bar])).2.crash ks).at x = s2.at x := fun x hx => by
          rcases c2 ks x with h | ⟨b, hb, _⟩
          · exact h
          · exact absurd (tg x b hb).1 hx
        have lo : ∀ x, x < 1 + w.g.log → x ∉ ordL w.grp := fun x hx hm => by
          obtain ⟨p, hp, rfl⟩ := List.mem_map.1 hm
          have := (hW.dom p hp).1
          omega
        exact .inr (.inr ⟨hne, (k 1 (lo 1 (by omega))).trans b4, fun i p hp => by
          have := (List.getElem?_eq_some_iff.1 hp).1
          exact ((k _ (lo _ (by omega))).trans (b5 _ (by omega))).trans (f3 i p hp), fun y hy hn => ((k y hn).trans (b5 y (by omega))).trans ((f2 y hy).trans (ng y hn).symm)⟩)
    · rw [if_neg (by rw [b1]; decide)]
      refine .inr ⟨b1, fun ks => ?_⟩
      obtain ⟨h1, h2⟩ := b2 ks
      rcases h1 with h1 | h1
      · exact .inl ⟨h1.trans f1, fun y hy => (h2 y (by omega)).trans (f2 y hy)⟩
      · exact .inr (.inr ⟨hne, h1, fun i p hp => (h2 _ (by omega)).trans (f3 i p hp), fun y hy hn => (h2 y (by omega)).trans ((f2 y hy).trans (ng y hn).symm)⟩)
  · rw [if_neg (by rw [a1]; decide)]
    refine .inr ⟨a1, fun ks => .inl ⟨?_, fun y hy => ?_⟩⟩
    · rcases a2 ks 1 with h | ⟨b, hb, _⟩
      · rw [h]; exact hz
      · have := logOps_in _ _ _ hb; omega
    · rcases a2 ks y with h | ⟨b, hb, _⟩
      · exact h
      · have := logOps_in _ _ _ hb; omega
theorem lastOf_some : ∀ {w : List (Int × List Int)} {x : Int} {b : List Int}, lastOf w x = some b → (x, b) ∈ w
  | [], _, _, h => by cases h
  | (j, c) :: w, x, b, h => by
    simp only [lastOf] at h
    cases hl : lastOf w x with
    | some e =>
      rw [hl] at h
      have h : e = b := by simpa using h
      exact List.mem_cons_of_mem _ (h ▸ lastOf_some hl)
    | none =>
      rw [hl] at h
      by_cases hx : j = x
      · rw [if_pos hx] at h
        have h : c = b := by simpa using h
        rw [← h, ← hx]
        exact List.mem_cons_self ..
      · rw [if_neg hx] at h; cases h
theorem lastOf_not {w : List (Int × List Int)} {x : Int} (h : x ∉ ordL w) : lastOf w x = none := by
  cases e : lastOf w x with
  | none => rfl
  | some b => exact absurd (mem_ord (lastOf_some e)) h
theorem lastOf_in : ∀ {w : List (Int × List Int)} {x : Int}, lastOf w x = none → x ∉ ordL w
  | [], _, _, h => by cases h
  | (j, c) :: w, x, hl, h => by
    simp only [lastOf] at hl
    have h1 : lastOf w x = none := by
      cases e : lastOf w x with
      | none => rfl
      | some e' => rw [e] at hl; cases hl
    rw [h1, Option.none_or] at hl
    rcases List.mem_cons.1 h with h | h
    · have h : x = j := h
      rw [if_pos h.symm] at hl; cases hl
    · exact lastOf_in h1 h
theorem rec1_n (s : DS) (i : Nat) (t : Int) : (s.rec1 i t).2.n = s.n := by
  have hr : ∀ x, (s.read x).2.2.n = s.n := fun x => by unfold DS.read; (repeat' split) <;> rfl
  unfold DS.rec1
  split
  · show ((s.read (2 + i)).2.2.write t (s.read (2 + i)).1).2.n = _
    rw [write_n, hr]
  · exact hr _
theorem recI_n (s : DS) (l : List Int) : ∀ i, (recI s l i).2.n = s.n
  | 0 => rfl
  | i + 1 => by
    show (if (recI s l i).1 = 0 then (recI s l i).2.rec1 i (l.getD i 0) else recI s l i).2.n = _
    split
    · rw [rec1_n, recI_n]
    · exact recI_n s l i
theorem recover_n (s : DS) (l : List Int) : (s.recover l).2.n = s.n := by
  unfold DS.recover
  split
  · rw [run_n, recI_n]
  · exact recI_n s l _
theorem recI_cut (hd : s.dead = false) (hw : s.wait = []) (hg : g.ok) (hn : g.blocks ≤ s.n) (hG : GrpOk g o B) (hL : Lg g o B s) : ∀ i, i ≤ o.length →
    ((recI s (ordL o) i).1 = 0 ∧ (recI s (ordL o) i).2.dead = false ∧ (recI s (ordL o) i).2.held = s.held ∧ (recI s (ordL o) i).2.wait = o.take i ∧ (s.fuse < 0 → (recI s (ordL o) i).2.fuse < 0)) ∨
    ((recI s (ordL o) i).1 = 3 ∧ (recI s (ordL o) i).2.held = s.held ∧ (∀ p ∈ (recI s (ordL o) i).2.wait, p ∈ o) ∧ ¬ s.fuse < 0)
  | 0, _ => .inl ⟨rfl, hd, rfl, by rw [List.take_zero]; exact hw, id⟩
  | i + 1, hi => by
    have hgg := hg
    unfold Geo.ok at hgg
    have hda : g.dataAt = 1 + g.log + g.nodeBlocks + g.bitsBlocks := rfl
    have hnb : g.nodeBlocks = (g.inodes + 16) / 16 := rfl
    have hbb : g.bitsBlocks = (g.blocks + 8191) / 8192 := rfl
    have hmany := hG.many
    have hp : o[i]? = some o[i] := List.getElem?_eq_getElem (by omega)
    have hdm := hG.dom _ (List.getElem_mem (show i < o.length by omega))
    have hn0 := recI_n s (ordL o) i
    show ((if (recI s (ordL o) i).1 = 0 then (recI s (ordL o) i).2.rec1 i ((ordL o).getD i 0) else recI s (ordL o) i).1 = 0 ∧ _) ∨ _
    have es : recI s (ordL o) (i + 1) = if (recI s (ordL o) i).1 = 0 then (recI s (ordL o) i).2.rec1 i ((ordL o).getD i 0) else recI s (ordL o) i := rfl
    rw [← es]
    rcases recI_cut hd hw hg hn hG hL i (by omega) with ⟨a1, a2, a3, a4, a5⟩ | ⟨a1, a2, a3, a4⟩
    · rw [if_pos a1] at es
      rw [es]
      generalize (recI s (ordL o) i).2 = t at a2 a3 a4 a5 hn0
      have eo : (ordL o).getD i 0 = o[i].1 := by
        unfold ordL
        rw [List.getD_eq_getElem?_getD, List.getElem?_map, hp]; rfl
      have lo : (2 + (i : Int)) ∉ ordL (o.take i) := fun hm => by
        obtain ⟨p, hp, e⟩ := List.mem_map.1 hm
        have := (hG.dom p (List.mem_of_mem_take hp)).1
        omega
      have ea : t.at (2 + (i : Int)) = o[i].2 := by
        rw [← hL.2.1 i _ hp, rest_at hw]
        unfold DS.at
        rw [a4, lastOf_not lo, a3]
      have er : t.read (2 + (i : Int)) = (o[i].2, 0, { t with reads := t.reads + 1 }) := by
        unfold DS.read
        rw [a2, if_neg (by simp), if_neg (by omega), ea]
      unfold DS.rec1
      rw [er, eo]
      have wc := write_cases (s := { t with reads := t.reads + 1 }) (i := o[i].1) (b := o[i].2) a2 (by omega) (by show _ < t.n; omega)
      rcases wc with ⟨e, f1, f2, f3, f4⟩ | ⟨e, f1, f2, f3⟩
      · refine .inl ⟨?_, f3, f1.trans a3, ?_, fun hf => ?_⟩
        · show (if (0 : Int) = 0 then ((if (DS.write { t with reads := t.reads + 1 } o[i].1 o[i].2).1 = 0 then (0 : Int) else 3), (DS.write { t with reads := t.reads + 1 } o[i].1 o[i].2).2) else (3, { t with reads := t.reads + 1 })).1 = 0
          rw [if_pos rfl, if_pos e]
        · show (DS.write { t with reads := t.reads + 1 } o[i].1 o[i].2).2.wait = _
          rw [f2, List.take_add_one, hp]
          show t.wait ++ _ = _
          rw [a4]; rfl
        · have hl : (({ t with reads := t.reads + 1 } : DS)).live := ⟨a2, a5 hf⟩
          exact (live_write hl (i := o[i].1) (b := o[i].2) (by omega) (by show _ < t.n; omega)).2.2
      · refine .inr ⟨?_, f1.trans a3, fun p hp' => ?_, fun hf => ?_⟩
        · show (if (0 : Int) = 0 then ((if (DS.write { t with reads := t.reads + 1 } o[i].1 o[i].2).1 = 0 then (0 : Int) else 3), (DS.write { t with reads := t.reads + 1 } o[i].1 o[i].2).2) else (3, { t with reads := t.reads + 1 })).1 = 3
          rw [if_pos rfl, if_neg (by rw [e]; decide)]
        · have h : p ∈ (DS.write { t with reads := t.reads + 1 } o[i].1 o[i].2).2.wait := hp'
          rw [f2] at h
          have h : p ∈ t.wait := h
          rw [a4] at h
          exact List.mem_of_mem_take h
        · have := a5 hf
          have f3 : t.fuse = 0 := f3
          omega
    · rw [if_neg (by rw [a1]; decide)] at es
      rw [es]
      exact .inr ⟨a1, a2, a3, a4⟩
/-- A recovery, wherever it stops. -/
theorem rec_cut (A : Int → List Int) (hd : s.dead = false) (hw : s.wait = []) (hg : g.ok) (hn : g.blocks ≤ s.n) (hG : GrpOk g o B) (hne : o ≠ []) (hL : Lg g o B s) :
    ((s.recover (ordL o)).1 = 0 ∧ (s.recover (ordL o)).2.dead = false ∧ (s.recover (ordL o)).2.wait = [] ∧ Cl g B (s.recover (ordL o)).2) ∨
    ((s.recover (ordL o)).1 ≠ 0 ∧ ¬ s.fuse < 0 ∧ ∀ ks, Fin8 g o A B ((s.recover (ordL o)).2.crash ks)) := by
  have hgg := hg
  unfold Geo.ok at hgg
  have hda : g.dataAt = 1 + g.log + g.nodeBlocks + g.bitsBlocks := rfl
  have hnb : g.nodeBlocks = (g.inodes + 16) / 16 := rfl
  have hbb : g.bitsBlocks = (g.blocks + 8191) / 8192 := rfl
  have hmany := hG.many
  have lo : ∀ x, x < 1 + g.log → x ∉ ordL o := fun x hx hm => by
    obtain ⟨p, hp, rfl⟩ := List.mem_map.1 hm
    have := (hG.dom p hp).1
    omega
  have ix : ∀ (i : Nat) p, o[i]? = some p → 2 + (i : Int) < 1 + g.log := fun i p hp => by
    have := (List.getElem?_eq_some_iff.1 hp).1
    omega
  have bad : ∀ t : DS, t.held = s.held → (∀ p ∈ t.wait, p ∈ o) → ∀ ks, Fin8 g o A B (t.crash ks) := fun t h1 h2 ks => by
    have k : ∀ x, x ∉ ordL o → (t.crash ks).at x = s.at x := fun x hx => by
      rw [rest_at hw]
      rcases crash_pick t ks x with h | ⟨b, hb, h⟩
      · rw [h, h1]
      · exact absurd (mem_ord (h2 _ hb)) hx
    exact .inr (.inr ⟨hne, (k 1 (lo 1 (by omega))).trans hL.1, fun i p hp => (k _ (lo _ (ix i p hp))).trans (hL.2.1 i p hp), fun y hy hn => (k y hn).trans (hL.2.2 y hy hn)⟩)
  have lol : (ordL o).length = o.length := ordL_len o
  have hn0 := recI_n s (ordL o) o.length
  unfold DS.recover
  rw [lol]
  rcases recI_cut hd hw hg hn hG hL o.length (Nat.le_refl _) with ⟨a1, a2, a3, a4, a5⟩ | ⟨a1, a2, a3, a4⟩
  · rw [if_pos a1]
    generalize (recI s (ordL o) o.length).2 = t at a2 a3 a4 a5 hn0
    rw [List.take_length] at a4
    have hlv : s.fuse < 0 → (t.run [.bar, .w 1 zb, .bar]).1 = 0 := fun hf => (live_run (s := t) ⟨a2, a5 hf⟩ fun i b hb => by
      simp only [List.mem_cons, List.not_mem_nil, or_false] at hb
      rcases hb with hb | hb | hb
      · cases hb
      · cases hb; omega
      · cases hb).1
    have fin : ((t.run [.bar, .w 1 zb, .bar]).1 = 0 ∧ (t.run [.bar, .w 1 zb, .bar]).2.dead = false ∧ (t.run [.bar, .w 1 zb, .bar]).2.wait = [] ∧ Cl g B (t.run [.bar, .w 1 zb, .bar]).2) ∨ ((t.run [.bar, .w 1 zb, .bar]).1 ≠ 0 ∧ ∀ ks, Fin8 g o A B ((t.run [.bar, .w 1 zb, .bar]).2.crash ks)) := by
      rw [run_cons]
      rcases bar_cases a2 with ⟨e, f2, f3⟩ | ⟨e, f1, f2⟩
      · have e' : (t.op .bar).1 = 0 := e
        rw [if_pos e']
        have nb : t.barrier.2.n = t.n := barrier_n t
        have hat : ∀ x, t.barrier.2.at x = t.at x := barrier_at t
        have eop : (t.op .bar).2 = t.barrier.2 := rfl
        rw [eop]
        generalize t.barrier.2 = t2 at f2 f3 nb hat
        have k : ∀ x, x ∉ ordL o → t2.at x = s.at x := fun x hx => by
          rw [hat, rest_at hw]
          unfold DS.at
          rw [a4, lastOf_not hx, a3]
        have kb : ∀ y, 1 + g.log ≤ y → t2.at y = B y := fun y hy => by
          by_cases hm : y ∈ ordL o
          · rw [hat]
            unfold DS.at
            rw [a4]
            cases hl : lastOf o y with
            | some b => exact (hG.vals _ (lastOf_some hl)).symm
            | none => exact absurd hm (lastOf_in hl)
          · rw [k y hm]; exact hL.2.2 y hy hm
        show ((t2.run ([.w 1 zb] ++ [.bar])).1 = 0 ∧ (t2.run ([.w 1 zb] ++ [.bar])).2.dead = false ∧ (t2.run ([.w 1 zb] ++ [.bar])).2.wait = [] ∧ Cl g B (t2.run ([.w 1 zb] ++ [.bar])).2) ∨ ((t2.run ([.w 1 zb] ++ [.bar])).1 ≠ 0 ∧ ∀ ks, Fin8 g o A B ((t2.run ([.w 1 zb] ++ [.bar])).2.crash ks))
        rcases cut_one (H := zb) f3 f2 (by omega) with ⟨d1, d2, d3, d4, d5⟩ | ⟨d1, d2⟩
        · exact .inl ⟨d1, d2, d3, d4, fun y hy => (d5 y (by omega)).trans (kb y hy)⟩
        · refine .inr ⟨by rw [d1]; decide, fun ks => ?_⟩
          obtain ⟨h1, h2⟩ := d2 ks
          rcases h1 with h1 | h1
          · exact .inr (.inr ⟨hne, (h1.trans (k 1 (lo 1 (by omega)))).trans hL.1, fun i p hp => ((h2 _ (by omega)).trans (k _ (lo _ (ix i p hp)))).trans (hL.2.1 i p hp), fun y hy _ => (h2 _ (by omega)).trans (kb y hy)⟩)
          · exact .inr (.inl ⟨h1, fun y hy => (h2 _ (by omega)).trans (kb y hy)⟩)
      · have e' : ¬ (t.op .bar).1 = 0 := by show ¬ t.barrier.1 = 0; rw [e]; decide
        rw [if_neg e']
        exact .inr ⟨by show (3 : Int) ≠ 0; decide, bad t.barrier.2 (f1.trans a3) (by rw [f2, a4]; exact fun p hp => hp)⟩
    rcases fin with h | ⟨h1, h2⟩
    · exact .inl h
    · exact .inr ⟨h1, fun hf => h1 (hlv hf), h2⟩
  · rw [if_neg (by rw [a1]; decide)]
    exact .inr ⟨by rw [a1]; decide, a4, bad _ a2 a3⟩
/-- What the header says. -/
theorem lg_dec (hg : g.ok) (hG : GrpOk g o B) (hL : Lg g o B s) : BytesOk (s.at 1) ∧ DecOk g (s.at 1) ∧ decL (s.at 1) = ordL o := by
  have hgg := hg
  unfold Geo.ok at hgg
  have hl : (ordL o).length = o.length := ordL_len o
  have hm := hG.many
  have hd : decL (headB (ordL o)) = ordL o := decL_head (by omega) fun t ht => by
    obtain ⟨p, hp, rfl⟩ := List.mem_map.1 ht
    have := hG.dom p hp
    omega
  rw [hL.1]
  refine ⟨headB_bytes _, ?_, hd⟩
  unfold DecOk
  rw [hd]
  exact ⟨by omega, hG.nd, fun t ht => by
    obtain ⟨p, hp, rfl⟩ := List.mem_map.1 ht
    exact hG.dom p hp⟩
end Go.Proofs.Ytkmalbaollffiaa
