/- The package wal: a log in the middle of a commit. -/
import Derived.Test.YtiaonndafhfkmaaWal2
import Derived.Test.YtiaonndafhfkmaaDpure
set_option linter.all false
set_option maxRecDepth 100000
set_option maxHeartbeats 400000
namespace Go.Proofs.Ytiaonndafhfkmaa
open Go.Am
variable {σ σ' : Store} {l d c hm m : Nat} {ov wv : Value} {w : WS} {v : View} {fc : Int} {s s' : DS} {F FC G : List Nat} {Q : Value → Store → Prop} {fg : List (Int × List Int)}
def LogI (σ : Store) (l d : Nat) (w : WS) (c hm : Nat) (ov wv : Value) (fg : List (Int × List Int)) (s : DS) (F : List Nat) : Prop :=
  ∃ v FC, LAt σ l d w c hm ov wv fg.length v FC ∧ VOk v fg s w.g ∧ F = lids l hm ov wv FC
theorem LogI.lt (h : LogI σ l d w c hm ov wv fg s F) : ∀ j ∈ F, j < σ.next := by
  obtain ⟨_, _, h, _, rfl⟩ := h
  exact h.lt
theorem LogI.x (h : LogI σ l d w c hm ov wv fg s F) : LogX σ l d w.mine F := by
  have hl := h.lt
  obtain ⟨_, _, h, _, rfl⟩ := h
  exact ⟨by simp [lids], hl, _, h.cells, rfl, rfl⟩
theorem LogI.cells (h : LogI σ l d w c hm ov wv fg s F) : σ.get l = some (.cells (w.cells d c hm ov wv) none) := by
  obtain ⟨_, _, h, _, rfl⟩ := h
  exact h.cells
theorem LogI.ord (h : LogI σ l d w c hm ov wv fg s F) : SlG σ 1 ov (ordL w.grp).length (ic (ordL w.grp)) := by
  obtain ⟨_, _, h, _, rfl⟩ := h
  exact h.ord
theorem LogI.same (h : LogI σ l d w c hm ov wv fg s F) (hn : σ.next ≤ σ'.next) (hg : ∀ j ∈ F, σ'.get j = σ.get j) : LogI σ' l d w c hm ov wv fg s F := by
  obtain ⟨v, FC, h, h2, rfl⟩ := h
  exact ⟨v, FC, h.same hn hg, h2, rfl⟩
theorem VOk.disk {g : Geo} (h : VOk v fg s g) (hat : ∀ x, x < 1 ∨ 1 + g.log ≤ x → s'.at x = s.at x) : VOk v fg s' g :=
  ⟨h.fast, fun x b hx => by rw [hat x (h.dom x _ hx).2.2]; exact h.slow x b hx, h.dom⟩
/-- Only the disk was at work. -/
theorem LogI.op {G' : List Nat} (h : LogI σ l d w c hm ov wv fg s F) (hA : Apart F G) (u : Upd G σ σ' G') (hat : ∀ x, x < 1 ∨ 1 + w.g.log ≤ x → s'.at x = s.at x) : LogI σ' l d w c hm ov wv fg s' F ∧ Apart F G' ∧ Upd (F ++ G) σ σ' (F ++ G') := by
  have hl := h.lt
  have hA' : Apart F G' := (hA.symm.upd u hl).symm
  obtain ⟨v, FC, h, h2, rfl⟩ := h
  refine ⟨⟨v, FC, h.same u.next fun j hj => Upd.get u hA.symm hl j hj, h2.disk hat, rfl⟩, hA', u.next, fun j hj => ?_, fun j hj hn => u.same j hj fun h => hn (List.mem_append_right _ h)⟩
  rcases List.mem_append.1 hj with hj | hj
  · exact ⟨Nat.lt_of_lt_of_le (hl j hj) u.next, .inl (List.mem_append_left _ hj)⟩
  · obtain ⟨h3, h4⟩ := u.ids j hj
    refine ⟨h3, ?_⟩
    rcases h4 with h4 | h4
    · exact .inl (List.mem_append_right _ h4)
    · exact .inr h4
/-- Only the cache and the disk were at work. -/
theorem LogI.cache {fg' : List (Int × List Int)} {v' : View} {G' FC' : List Nat} (h : LAt σ l d w c hm ov wv fc v FC) (hG : ∀ j ∈ G, j < σ.next) (hA : Apart (lids l hm ov wv FC) G) (c' : Cache σ' c d (w.g.log + 32) fg'.length v' FC') (hA' : Apart FC' G') (u : Upd (FC ++ G) σ σ' (FC' ++ G')) (hv : VOk v' fg' s' w.g) :
    LogI σ' l d w c hm ov wv fg' s' (lids l hm ov wv FC') ∧ Apart (lids l hm ov wv FC') G' ∧ Upd (lids l hm ov wv FC ++ G) σ σ' (lids l hm ov wv FC' ++ G') := by
  have hl := h.lt
  have hn := u.next
  have out : ∀ j, j ∈ lids l hm ov wv [] → j ∉ FC ++ G := fun j hj hx => by
    simp only [lids, List.mem_cons, List.mem_append, List.not_mem_nil, or_false] at hj
    rcases List.mem_append.1 hx with hx | hx
    · rcases hj with h1 | h1 | h1 | h1
      · exact h.dis.lC (h1 ▸ hx)
      · exact h.dis.hC (h1 ▸ hx)
      · exact h.dis.AC j h1 hx
      · exact h.dis.BC j h1 hx
    · refine hA j ?_ hx
      simp only [lids, List.mem_cons, List.mem_append]
      rcases hj with h1 | h1 | h1 | h1
      · exact .inl h1
      · exact .inr (.inl h1)
      · exact .inr (.inr (.inl h1))
      · exact .inr (.inr (.inr (.inl h1)))
  have sub : ∀ j, j ∈ lids l hm ov wv [] → j ∈ lids l hm ov wv FC := fun j hj => by
    simp only [lids, List.mem_cons, List.mem_append, List.not_mem_nil, or_false] at hj ⊢
    rcases hj with h1 | h1 | h1 | h1
    · exact .inl h1
    · exact .inr (.inl h1)
    · exact .inr (.inr (.inl h1))
    · exact .inr (.inr (.inr (.inl h1)))
  have keep : ∀ j, j ∈ lids l hm ov wv [] → σ'.get j = σ.get j ∧ j ∉ FC' ∧ j ∉ G' := fun j hj => by
    have hjl := hl j (sub j hj)
    refine ⟨u.same j hjl (out j hj), fun hx => ?_, fun hx => ?_⟩
    · rcases (u.ids j (List.mem_append_left _ hx)).2 with h1 | h1
      · exact out j hj h1
      · omega
    · rcases (u.ids j (List.mem_append_right _ hx)).2 with h1 | h1
      · exact out j hj h1
      · omega
  have m1 : l ∈ lids l hm ov wv [] := by simp [lids]
  have m2 : hm ∈ lids l hm ov wv [] := by simp [lids]
  have m3 : ∀ j ∈ idsV ov, j ∈ lids l hm ov wv [] := fun j hj => by simp [lids, hj]
  have m4 : ∀ j ∈ idsM wv, j ∈ lids l hm ov wv [] := fun j hj => by simp [lids, hj]
  have L : LAt σ' l d w c hm ov wv fg'.length v' FC' := by
    refine ⟨by rw [(keep l m1).1, h.cells], h.has.same (keep hm m2).1, h.ord.same fun j hj => (keep j (m3 j hj)).1, fun ho => ?_, fun j hj => Nat.lt_of_lt_of_le (h.wlt j hj) hn, c', ⟨h.dis.lh, h.dis.lA, h.dis.lB, (keep l m1).2.1, h.dis.hA, h.dis.hB, (keep hm m2).2.1, h.dis.AB, fun j hj => (keep j (m3 j hj)).2.1, fun j hj => (keep j (m4 j hj)).2.1⟩⟩
    obtain ⟨wm, h1, h2⟩ := h.wr ho
    exact ⟨wm, h1, h2.same (keep wm (m4 wm (by rw [h1]; simp [idsM]))).1⟩
  refine ⟨⟨v', FC', L, hv, rfl⟩, fun j hj hx => ?_, hn, fun j hj => ?_, fun j hj hnj => ?_⟩
  · simp only [lids, List.mem_cons, List.mem_append] at hj
    rcases hj with h1 | h1 | h1 | h1 | h1
    · exact (keep l m1).2.2 (h1 ▸ hx)
    · exact (keep hm m2).2.2 (h1 ▸ hx)
    · exact (keep j (m3 j h1)).2.2 hx
    · exact (keep j (m4 j h1)).2.2 hx
    · exact hA' j h1 hx
  · rcases List.mem_append.1 hj with hj | hj
    · refine ⟨L.lt j hj, ?_⟩
      by_cases hjf : j ∈ FC'
      · rcases (u.ids j (List.mem_append_left _ hjf)).2 with h1 | h1
        · left
          rcases List.mem_append.1 h1 with h1 | h1
          · exact List.mem_append_left _ (by simp [lids, h1])
          · exact List.mem_append_right _ h1
        · exact .inr h1
      · left
        refine List.mem_append_left _ (sub j ?_)
        simp only [lids, List.mem_cons, List.mem_append, List.not_mem_nil, or_false] at hj ⊢
        rcases hj with h1 | h1 | h1 | h1 | h1
        · exact .inl h1
        · exact .inr (.inl h1)
        · exact .inr (.inr (.inl h1))
        · exact .inr (.inr (.inr h1))
        · exact absurd h1 hjf
    · obtain ⟨h1, h2⟩ := u.ids j (List.mem_append_right _ hj)
      refine ⟨h1, ?_⟩
      rcases h2 with h2 | h2
      · left
        rcases List.mem_append.1 h2 with h2 | h2
        · exact List.mem_append_left _ (by simp [lids, h2])
        · exact List.mem_append_right _ h2
      · exact .inr h2
  · refine u.same j hj fun hx => hnj ?_
    rcases List.mem_append.1 hx with hx | hx
    · exact List.mem_append_left _ (by simp [lids, hx])
    · exact List.mem_append_right _ hx
theorem VOk.shrink {g : Geo} {v' : View} {x : Int} (h : VOk v fg s g) (hs : Shrink v v' x) (hx : v' x = some ((v x).getD (s.at x, false))) (hd : 0 ≤ x ∧ x < g.blocks ∧ (x < 1 ∨ 1 + g.log ≤ x)) : VOk v' fg s g := by
  refine ⟨fun y b' => ?_, fun y b' hy => ?_, fun y e hy => ?_⟩
  · rw [← h.fast]
    by_cases hyx : y = x
    · subst hyx
      rw [hx]
      cases v y with
      | none => simp
      | some e => simp
    · rcases hs y hyx with h2 | ⟨h2, b2, h3⟩
      · rw [h2]
      · rw [h2, h3]; simp
  · by_cases hyx : y = x
    · subst hyx
      rw [hx] at hy
      cases hv : v y with
      | none => rw [hv] at hy; simp at hy; exact hy.symm
      | some e => rw [hv] at hy; simp at hy; rw [hy] at hv; exact h.slow y b' hv
    · rcases hs y hyx with h2 | ⟨h2, b2, h3⟩
      · rw [h2] at hy; exact h.slow y b' hy
      · rw [h2] at hy; cases hy
  · by_cases hyx : y = x
    · subst hyx; exact hd
    · rcases hs y hyx with h2 | ⟨h2, b2, h3⟩
      · rw [h2] at hy; exact h.dom y e hy
      · rw [h2] at hy; cases hy
def getG (o : List (Int × List Int)) (x : Int) : Option (List Int) := (o.find? fun p => decide (p.1 = x)).map (·.2)
theorem getG_iff {o : List (Int × List Int)} (hn : (ordL o).Nodup) {x : Int} {b : List Int} : getG o x = some b ↔ (x, b) ∈ o := by
  induction o with
  | nil => simp [getG]
  | cons p o ih =>
    simp only [ordL, List.map_cons, List.nodup_cons] at hn
    have ih := ih hn.2
    unfold getG at ih ⊢
    rw [List.find?_cons]
    by_cases hp : p.1 = x
    · rw [decide_eq_true hp]
      simp only [Option.map_some, Option.some.injEq, List.mem_cons]
      constructor
      · intro h; left; rw [← h, ← hp]
      · rintro (h | h)
        · rw [← h]
        · exact absurd (List.mem_map.2 ⟨_, h, hp.symm⟩) hn.1
    · rw [decide_eq_false hp, ih]
      simp only [List.mem_cons]
      constructor
      · exact .inr
      · rintro (h | h)
        · rw [← h] at hp; exact absurd rfl hp
        · exact h
/-- What a log tells of a block. -/
def WS.at (w : WS) (s : DS) (x : Int) : List Int := (getG w.grp x).getD (s.at x)
theorem view_val {g : Geo} (h : VOk v fg s g) (hn : (ordL fg).Nodup) (x : Int) : ((v x).getD (s.at x, false)).1 = (getG fg x).getD (s.at x) := by
  cases hv : v x with
  | none =>
    cases hg : getG fg x with
    | none => rfl
    | some b => rw [getG_iff hn, ← h.fast, hv] at hg; cases hg
  | some e =>
    obtain ⟨b, f⟩ := e
    cases f with
    | true => rw [(getG_iff hn).2 ((h.fast x b).1 hv)]; rfl
    | false =>
      have := h.slow x b hv
      cases hg : getG fg x with
      | none => exact this
      | some b2 => rw [getG_iff hn, ← h.fast, hv] at hg; simp at hg
theorem icread_ (h : LogI σ l d w c hm ov wv fg s F) (hd : Disk σ d s G) (hA : Apart F G) (hC : s.C m) (hm0 : m < 2 ^ 29) (hdead : s.dead = false) (hn : (ordL fg).Nodup) {x : Int} (hx : 0 ≤ x ∧ x < w.g.blocks ∧ (x < 1 ∨ 1 + w.g.log ≤ x)) (hb : w.g.blocks ≤ s.n) (hf : (fg.length : Int) < w.g.log + 32)
    (hq : ∀ σ' F' r, LogI σ' l d w c hm ov wv fg { s with reads := r } F' → Disk σ' d { s with reads := r } G → ({ s with reads := r } : DS).C (m + 1) → (x ∈ ordL fg → r = s.reads) → Apart F' G → Upd (F ++ G) σ σ' (F' ++ G) → Q (.tuple #[.agg ⟨bc ((getG fg x).getD (s.at x))⟩, .int .i64 0]) σ') :
    Does Try.prog 57 [.pointer (some ⟨c, 0, none⟩), .int .i64 x] σ Q := by
  obtain ⟨v, FC, h, hv, rfl⟩ := h
  have hFC : Apart FC G := fun j hj => hA j (by simp [lids, hj])
  refine cread_ h.cache hd hFC hC hm0 hdead hx.1 (by omega) (.inr hf) fun σ' v' F' t' c' d' A' u' ht hs hx' => ?_
  rw [view_val hv hn]
  obtain ⟨r, hr, hr2⟩ : ∃ r, t' = { s with reads := r } ∧ (x ∈ ordL fg → r = s.reads) := by
    rw [ht]
    by_cases hsome : (v x).isSome = true
    · rw [if_pos hsome]; exact ⟨s.reads, rfl, fun _ => rfl⟩
    · rw [if_neg hsome]
      refine ⟨s.reads + 1, ?_, fun hxo => ?_⟩
      · unfold DS.read
        rw [hdead]
        simp only [Bool.false_eq_true, if_false]
        rw [if_neg (by omega)]
      · obtain ⟨p, hp, e⟩ := List.mem_map.1 hxo
        obtain ⟨y, b⟩ := p
        have e : y = x := e
        subst e
        rw [(hv.fast y b).2 hp] at hsome
        exact absurd rfl hsome
  have hC' : t'.C (m + 1) := by
    rw [ht]
    split
    · exact hC.le (by omega)
    · exact read_C hC
  subst hr
  obtain ⟨a1, a2, a3⟩ := LogI.cache (s' := { s with reads := r }) h hd.lt hA c' A' u' ((hv.shrink hs hx' hx).disk (s' := { s with reads := r }) fun _ _ => rfl)
  exact hq σ' _ r a1 d' hC' hr2 a2 a3
theorem icflush_ {x : Int} {b : List Int} {r : List (Int × List Int)} (h : LogI σ l d w c hm ov wv ((x, b) :: r) s F) (hd : Disk σ d s G) (hA : Apart F G) (hC : s.C m) (hm0 : m < 2 ^ 29) (hdead : s.dead = false) (hn : (ordL ((x, b) :: r)).Nodup) (hx : 0 ≤ x ∧ x < w.g.blocks) (hb : w.g.blocks ≤ s.n)
    (hq : ∀ σ' F' G', LogI σ' l d w c hm ov wv (if (s.write x b).1 = 0 then r else (x, b) :: r) (s.write x b).2 F' → Disk σ' d (s.write x b).2 G' → Apart F' G' → Upd (F ++ G) σ σ' (F' ++ G') → Q (.int .i64 (s.write x b).1) σ') :
    Does Try.prog 58 [.pointer (some ⟨c, 0, none⟩), .int .i64 x] σ Q := by
  obtain ⟨v, FC, h, hv, rfl⟩ := h
  have hFC : Apart FC G := fun j hj => hA j (by simp [lids, hj])
  have hvx : v x = some (b, true) := (hv.fast x b).2 List.mem_cons_self
  simp only [ordL, List.map_cons, List.nodup_cons] at hn
  refine cflush_ h.cache hd hFC hC hm0 hdead hx.1 (by omega) hvx fun σ' G' d' A' u' hc => ?_
  have hat := write_at s x b
  by_cases hr : (s.write x b).1 = 0
  · simp only [if_pos hr] at hc hq
    have hlen : ((((x, b) :: r).length : Nat) : Int) - 1 = (r.length : Nat) := by simp
    rw [hlen] at hc
    have hvv : VOk (fun y => if y = x then some (b, false) else v y) r (s.write x b).2 w.g := by
      refine ⟨fun y b' => ?_, fun y b' hy => ?_, fun y e hy => ?_⟩
      · by_cases hyx : y = x
        · subst hyx
          simp only [if_true, Option.some.injEq, Prod.mk.injEq, Bool.false_eq_true, and_false, false_iff]
          exact fun h => hn.1 (List.mem_map.2 ⟨_, h, rfl⟩)
        · simp only [if_neg hyx]
          rw [hv.fast, List.mem_cons]
          simp [hyx]
      · rw [hat]
        by_cases hyx : y = x
        · subst hyx
          simp only [if_true, Option.some.injEq, Prod.mk.injEq, and_true] at hy
          rw [if_pos ⟨hr, rfl⟩, hy]
        · simp only [if_neg hyx] at hy
          rw [if_neg (fun h => hyx h.2)]
          exact hv.slow y b' hy
      · by_cases hyx : y = x
        · subst hyx; exact hv.dom y _ hvx
        · simp only [if_neg hyx] at hy
          exact hv.dom y e hy
    obtain ⟨a1, a2, a3⟩ := LogI.cache (fg' := r) (s' := (s.write x b).2) h hd.lt hA hc A' u' hvv
    exact hq σ' _ G' a1 d' a2 a3
  · simp only [if_neg hr] at hc hq
    obtain ⟨a1, a2, a3⟩ := LogI.cache (fg' := (x, b) :: r) (s' := (s.write x b).2) h hd.lt hA hc A' u' (hv.disk fun y _ => by rw [hat, if_neg (fun h => hr h.1)])
    exact hq σ' _ G' a1 d' a2 a3
theorem Log.i (h : Log σ l d w s F) : ∃ c hm ov wv, LogI σ l d w c hm ov wv w.grp s F := by
  obtain ⟨c, hm, ov, wv, v, FC, h1, h2, h3, h4, rfl⟩ := h
  exact ⟨c, hm, ov, wv, v, FC, h1, h2, rfl⟩
theorem LogI.log (h : LogI σ l d w c hm ov wv w.grp s F) (h3 : WOk w) (h4 : w.g.blocks ≤ s.n) : Log σ l d w s F := by
  obtain ⟨v, FC, h1, h2, rfl⟩ := h
  exact ⟨c, hm, ov, wv, v, FC, h1, h2, h3, h4, rfl⟩
end Go.Proofs.Ytiaonndafhfkmaa
