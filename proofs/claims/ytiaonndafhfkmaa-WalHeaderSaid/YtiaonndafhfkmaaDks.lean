/- Several disks in one store. -/
import Derived.Test.YtiaonndafhfkmaaIm2
import Derived.Test.YtiaonndafhfkmaaLod
import Derived.Test.YtiaonndafhfkmaaDpure
set_option linter.all false
set_option maxRecDepth 100000
set_option maxHeartbeats 400000
namespace Go.Proofs.Ytiaonndafhfkmaa
open Go.Am
variable {σ st st' : Store} {d m : Nat} {s r : DS} {l : List (Nat × DS)} {os : List (Nat × SObj)} {A F F' : List Nat} {Q : Value → Store → Prop}
inductive Dk (σ st : Store) : List (Nat × DS) → List Nat → Prop
  | nil : Dk σ st [] []
  | cons {d : Nat} {s : DS} {F A : List Nat} {l : List (Nat × DS)} (h : Disk st d s F) (hn : ∀ j ∈ F, σ.next ≤ j) (hl : Dk σ st l A) (ha : ∀ j ∈ F, j ∉ A) : Dk σ st ((d, s) :: l) (F ++ A)
/-- These disks stand, each apart from the others; so do these objects; what σ had stands. -/
def Dks (σ st : Store) (l : List (Nat × DS)) (os : List (Nat × SObj)) : Prop := Keeps σ st ∧ ∃ A, Dk σ st l A ∧ ∀ p ∈ os, p.1 ∉ A ∧ st.get p.1 = some p.2
theorem Dk.lt (h : Dk σ st l A) : ∀ j ∈ A, j < st.next := by
  induction h with
  | nil => intro j hj; cases hj
  | cons h hn hl ha ih =>
    intro j hj
    rcases List.mem_append.1 hj with hj | hj
    · exact h.lt j hj
    · exact ih j hj
theorem Dk.frame (h : Dk σ st l A) (hg : ∀ j ∈ A, st'.get j = st.get j) : Dk σ st' l A := by
  induction h with
  | nil => exact .nil
  | cons h hn hl ha ih => exact .cons (h.same fun j hj => hg j (List.mem_append_left _ hj)) hn (ih fun j hj => hg j (List.mem_append_right _ hj)) ha
theorem Dks.keeps (h : Dks σ st l os) : Keeps σ st := h.1
theorem Dks.get (h : Dks σ st l os) {j : Nat} {o : SObj} (hm : (j, o) ∈ os) : st.get j = some o := by
  obtain ⟨_, _, _, h3⟩ := h
  exact (h3 _ hm).2
theorem Dks.later (h : Dks σ st l os) (k : Keeps st st') : Dks σ st' l os := by
  obtain ⟨h1, A, h2, h3⟩ := h
  exact ⟨h1.trans k, A, h2.frame fun j hj => k.2 j (h2.lt j hj), fun p hp => ⟨(h3 p hp).1, k.get (h3 p hp).2⟩⟩
theorem Dks.push (h : Dks σ st l os) (o : SObj) : Dks σ (st.push o) l ((st.next, o) :: os) := by
  obtain ⟨h1, A, h2, h3⟩ := h
  have k := (Keeps.refl st).push o
  refine ⟨h1.trans k, A, h2.frame fun j hj => k.2 j (h2.lt j hj), fun p hp => ?_⟩
  rcases List.mem_cons.1 hp with rfl | hp
  · exact ⟨fun hx => by have := h2.lt _ hx; simp only at this; omega, Store.get_push_same _ _⟩
  · exact ⟨(h3 p hp).1, k.get (h3 p hp).2⟩
theorem Dks.less (h : Dks σ st l os) {os' : List (Nat × SObj)} (hs : ∀ p ∈ os', p ∈ os) : Dks σ st l os' := by
  obtain ⟨h1, A, h2, h3⟩ := h
  exact ⟨h1, A, h2, fun p hp => h3 p (hs p hp)⟩
theorem Dks.none (k : Keeps σ st) : Dks σ st [] [] := ⟨k, [], .nil, fun p hp => by cases hp⟩
theorem Dks.tail (h : Dks σ st ((d, s) :: l) os) : Dks σ st l os := by
  obtain ⟨h1, A, h2, h3⟩ := h
  cases h2 with
  | cons hD hF hr ha => exact ⟨h1, _, hr, fun p hp => ⟨fun hx => (h3 p hp).1 (List.mem_append_right _ hx), (h3 p hp).2⟩⟩
theorem Dks.swap {a b : Nat × DS} (h : Dks σ st (a :: b :: l) os) : Dks σ st (b :: a :: l) os := by
  obtain ⟨h1, A, h2, h3⟩ := h
  obtain ⟨a, sa⟩ := a
  obtain ⟨b, sb⟩ := b
  cases h2 with
  | cons hD hF hr ha =>
    cases hr with
    | cons hD2 hF2 hr2 ha2 =>
      refine ⟨h1, _, .cons hD2 hF2 (.cons hD hF hr2 fun j hj hx => ha j hj (List.mem_append_right _ hx)) fun j hj hx => ?_, fun p hp => ⟨fun hx => (h3 p hp).1 ?_, (h3 p hp).2⟩⟩
      · rcases List.mem_append.1 hx with hx | hx
        · exact ha j hx (List.mem_append_left _ hj)
        · exact ha2 j hj hx
      · simp only [List.mem_append] at hx ⊢
        rcases hx with hx | hx | hx
        · exact .inr (.inl hx)
        · exact .inl hx
        · exact .inr (.inr hx)
theorem Dks.upd (h1 : Keeps σ st) (hD : Disk st d s F) (hF : ∀ j ∈ F, σ.next ≤ j) (hr : Dk σ st l A) (ha : ∀ j ∈ F, j ∉ A) (hos : ∀ p ∈ os, p.1 ∉ F ++ A ∧ st.get p.1 = some p.2) {s' : DS} (D : Disk st' d s' F') (U : Upd F st st' F') : Dks σ st' ((d, s') :: l) os := by
  have key : ∀ j, j ∈ F' → j ∈ F ∨ st.next ≤ j := fun j hj => (U.ids j hj).2
  refine ⟨⟨Nat.le_trans h1.1 U.next, fun j hj => ?_⟩, _, .cons D (fun j hj => ?_) (hr.frame fun j hj => U.same j (hr.lt j hj) fun hf => ha j hf hj) (fun j hj hx => ?_), fun p hp => ?_⟩
  · rw [U.same j (Nat.lt_of_lt_of_le hj h1.1) (fun hf => by have := hF j hf; omega), h1.2 j hj]
  · rcases key j hj with h | h
    · exact hF j h
    · exact Nat.le_trans h1.1 h
  · rcases key j hj with h | h
    · exact ha j h hx
    · have := hr.lt j hx; omega
  · obtain ⟨p1, p2⟩ := hos p hp
    have hlt := Store.lt_of_get p2
    refine ⟨fun hx => ?_, by rw [U.same _ hlt (fun hf => p1 (List.mem_append_left _ hf)), p2]⟩
    rcases List.mem_append.1 hx with hx | hx
    · rcases key _ hx with h | h
      · exact p1 (List.mem_append_left _ h)
      · omega
    · exact p1 (List.mem_append_right _ hx)
theorem Dks.add (h : Dks σ st l os) (D : Disk st' d s F) (U : Upd [] st st' F) : Dks σ st' ((d, s) :: l) os := by
  obtain ⟨h1, A, h2, h3⟩ := h
  have key : ∀ j, j ∈ F → st.next ≤ j := fun j hj => by
    rcases (U.ids j hj).2 with h | h
    · cases h
    · exact h
  refine ⟨⟨Nat.le_trans h1.1 U.next, fun j hj => by rw [U.same j (Nat.lt_of_lt_of_le hj h1.1) (by simp), h1.2 j hj]⟩, _, .cons D (fun j hj => Nat.le_trans h1.1 (key j hj)) (h2.frame fun j hj => U.same j (h2.lt j hj) (by simp)) (fun j hj hx => ?_), fun p hp => ?_⟩
  · have := h2.lt j hx; have := key j hj; omega
  · obtain ⟨p1, p2⟩ := h3 p hp
    have hlt := Store.lt_of_get p2
    refine ⟨fun hx => ?_, by rw [U.same _ hlt (by simp), p2]⟩
    rcases List.mem_append.1 hx with hx | hx
    · have := key _ hx; omega
    · exact p1 hx
theorem kload_ {n : Int} {v : Value} {L : List HB} (h : Dks σ st l os) (hv : SlR st 1025 v L.length (waitC L)) (hl : ∀ p ∈ L, p.2.length = 1024) (hcap : L.length < 2 ^ 62) (hok : okIm n L) (hq : ∀ st' d, Dks σ st' ((d, DS.load n L) :: l) os → Q (.tuple #[.pointer (some ⟨d, 0, none⟩), .int .i64 0]) st') : Does Try.prog 22 [.agg ⟨[.int .i64 n, v]⟩] st Q :=
  load_ hv hl hcap (fun _ st' d F D U => hq st' d (h.add D U)) fun hn => absurd hok hn
theorem kmade_ (h : Dks σ st ((d, s) :: l) os) (hC : s.C m) (hq : Q (.int .i64 s.made) st) : Does Try.prog 14 [.pointer (some ⟨d, 0, none⟩)] st Q := by
  obtain ⟨h1, A, h2, h3⟩ := h
  cases h2 with
  | cons hD hF hr ha => exact made_o hD hC hq
theorem kimage_ (h : Dks σ st ((d, s) :: l) os) (hC : s.C m) (hW : s.W) (hq : ∀ L st' v, HeldL s.held L → Dks σ st' ((d, s) :: l) os → SlG st' 1025 v L.length (waitC L) → (∀ i ∈ idsV v, st.next ≤ i) → Keeps st st' → Q (.agg ⟨[.int .i64 s.n, v]⟩) st') : Does Try.prog 30 [.pointer (some ⟨d, 0, none⟩)] st Q := by
  have h0 := h
  obtain ⟨h1, A, h2, h3⟩ := h
  cases h2 with
  | cons hD hF hr ha => exact image_o hD hC hW fun L v st' hL k hv hi => hq L st' v hL (h0.later k) hv hi k
/-! ## the list of an image makes a disk that holds the same -/
theorem rise_of {n : Int} : ∀ {L : List HB} {b : Int}, (L.Pairwise fun a b => a.1 < b.1) → (∀ p ∈ L, b < p.1 ∧ p.1 < n ∧ p.2 ≠ zb) → rise n b L
  | [], _, _, _ => trivial
  | q :: L, b, hp, h => by
    obtain ⟨h1, h2⟩ := List.pairwise_cons.1 hp
    have hq := h q (List.mem_cons_self ..)
    exact ⟨hq.1, hq.2.1, hq.2.2, rise_of h2 fun p hp => ⟨h1 p hp, (h p (List.mem_cons_of_mem _ hp)).2⟩⟩
theorem HeldL.okIm {L : List HB} (h : HeldL s.held L) (hW : s.W) (hn : 1 ≤ s.n ∧ s.n ≤ 1048576) : okIm s.n L := ⟨hn.1, hn.2, rise_of h.asc fun p hp => by
  have := hW.held _ _ ((h.mem p).1 hp)
  exact ⟨by omega, this.2⟩⟩
theorem HeldL.fn {f f' : Int → Option (List Int)} {L : List HB} (h : HeldL f L) (h' : HeldL f' L) : f = f' := by
  funext x
  cases hf : f x with
  | some b =>
    have := (h.mem (x, b)).2 hf
    exact ((h'.mem (x, b)).1 this).symm
  | none =>
    cases hf' : f' x with
    | none => rfl
    | some b =>
      have := (h'.mem (x, b)).2 hf'
      have := (h.mem (x, b)).1 this
      simp only at this
      rw [hf] at this; cases this
theorem HeldL.lens {L : List HB} (h : HeldL s.held L) (hC : s.C m) : ∀ p ∈ L, p.2.length = 1024 := fun p hp => hC.ok.held _ _ ((h.mem p).1 hp)
end Go.Proofs.Ytiaonndafhfkmaa
