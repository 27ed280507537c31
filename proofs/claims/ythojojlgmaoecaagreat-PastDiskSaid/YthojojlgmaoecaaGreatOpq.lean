/- Disks whose inner places are hidden, and how far their numbers go. -/
import Derived.Test.YthojojlgmaoecaaGreatDsk
set_option linter.all false
set_option maxRecDepth 100000
set_option maxHeartbeats 400000
namespace Go.Proofs.YthojojlgmaoecaaGreat
open Go.Am
theorem keepF_len {f : Int → Option (List Int)} {i : Int} {b : List Int} (hf : ∀ x c, f x = some c → c.length = 1024) (hb : b.length = 1024) : ∀ x c, keepF f i b x = some c → c.length = 1024 := by
  intro x c h
  unfold keepF at h
  split at h
  · split at h
    · cases h
    · cases h; exact hb
  · exact hf x c h
theorem barHeld_len : ∀ {w : List (Int × List Int)} {f : Int → Option (List Int)}, (∀ p ∈ w, p.2.length = 1024) → (∀ x c, f x = some c → c.length = 1024) → ∀ x c, barHeld f w x = some c → c.length = 1024
  | [], f, _, hf => hf
  | p :: w, f, hw, hf => barHeld_len (w := w) (f := keepF f p.1 p.2) (fun q hq => hw q (List.mem_cons_of_mem _ hq)) (keepF_len hf (hw p List.mem_cons_self))
/-- How far a disk's numbers go. -/
structure DS.C (s : DS) (m : Nat) : Prop where
  ok : s.Ok
  made : s.made ≤ m
  wait : s.wait.length ≤ m
  hist : s.hist.length ≤ m
  reads : s.reads ≤ m
  claims : s.claims ≤ m
theorem DS.C.le {s : DS} {m n : Nat} (h : s.C m) (hm : m ≤ n) : s.C n := ⟨h.ok, by have := h.made; omega, by have := h.wait; omega, by have := h.hist; omega, by have := h.reads; omega, by have := h.claims; omega⟩
theorem burnt_C {s : DS} {m : Nat} (h : s.C m) : s.burnt.C (m + 1) := by
  have hk := h.ok
  have h1 := h.made
  have h2 := h.wait
  have h3 := h.hist
  have h4 := h.reads
  have h5 := h.claims
  unfold DS.burnt
  split
  · exact ⟨⟨hk.n, hk.n2, hk.fuse, hk.fuse0, hk.made0, hk.reads0, hk.claims0, hk.wait, hk.hist, hk.held⟩, by simp only; omega, by simp only; omega, by simp only; omega, by simp only; omega, by simp only; omega⟩
  · have a1 := hk.fuse
    have a2 := hk.fuse0
    have a3 := hk.made0
    refine ⟨⟨hk.n, hk.n2, ?_, ?_, ?_, hk.reads0, hk.claims0, hk.wait, hk.hist, hk.held⟩, by simp only; omega, by simp only; omega, by simp only; omega, by simp only; omega, by simp only; omega⟩
    · simp only; split <;> omega
    · simp only; split <;> omega
    · simp only; omega
theorem write_C {s : DS} {m : Nat} (h : s.C m) {i : Int} {b : List Int} (hb : b.length = 1024) : (s.write i b).2.C (m + 1) := by
  have hB := burnt_C h
  have hk := hB.ok
  have h2 := h.wait
  have h3 := h.hist
  unfold DS.write
  split
  · exact h.le (by omega)
  · split
    · exact h.le (by omega)
    · split
      · exact hB
      · refine ⟨⟨hk.n, hk.n2, hk.fuse, hk.fuse0, hk.made0, hk.reads0, hk.claims0, fun p hp => ?_, fun p hp => ?_, hk.held⟩, hB.made, ?_, ?_, hB.reads, hB.claims⟩
        · rcases List.mem_append.1 hp with hp | hp
          · exact h.ok.wait p hp
          · have : p = (i, b) := by simpa using hp
            rw [this]; exact hb
        · rcases List.mem_append.1 hp with hp | hp
          · exact h.ok.hist p hp
          · have : p = (1, i, b) := by simpa using hp
            rw [this]; exact hb
        · simp only [List.length_append, List.length_singleton]; omega
        · simp only [List.length_append, List.length_singleton]; omega
theorem barrier_C {s : DS} {m : Nat} (h : s.C m) : s.barrier.2.C (m + 1) := by
  have hB := burnt_C h
  have hk := hB.ok
  have h3 := h.hist
  unfold DS.barrier
  split
  · exact h.le (by omega)
  · split
    · exact hB
    · refine ⟨⟨hk.n, hk.n2, hk.fuse, hk.fuse0, hk.made0, hk.reads0, hk.claims0, fun p hp => absurd hp List.not_mem_nil, fun p hp => ?_, barHeld_len h.ok.wait h.ok.held⟩, hB.made, ?_, ?_, hB.reads, hB.claims⟩
      · rcases List.mem_append.1 hp with hp | hp
        · exact h.ok.hist p hp
        · have : p = (2, 0, zb) := by simpa using hp
          rw [this]; exact zb_len
      · simp only [List.length_nil]; omega
      · simp only [List.length_append, List.length_singleton]; omega
/-- A disk stands in a store, over these places. -/
def Disk (σ : Store) (d : Nat) (s : DS) (F : List Nat) : Prop := ∃ hm lm pv hv, DAt σ d s hm lm pv hv ∧ F = ids d hm lm pv hv
variable {σ σ' : Store} {d m : Nat} {s : DS} {F : List Nat} {Q : Value → Store → Prop}
theorem Disk.lt (h : Disk σ d s F) : ∀ j ∈ F, j < σ.next := by
  obtain ⟨_, _, _, _, h, rfl⟩ := h
  exact h.lt
theorem Disk.mem (h : Disk σ d s F) : d ∈ F := by
  obtain ⟨_, _, _, _, h, rfl⟩ := h
  simp [ids]
theorem Disk.same (h : Disk σ d s F) (hg : ∀ j ∈ F, σ'.get j = σ.get j) : Disk σ' d s F := by
  obtain ⟨_, _, _, _, h, rfl⟩ := h
  exact ⟨_, _, _, _, h.keeps hg, rfl⟩
theorem Disk.later (h : Disk σ d s F) (k : Keeps σ σ') : Disk σ' d s F := h.same fun j hj => k.2 j (h.lt j hj)
/-- No place of the one is of the other. -/
def Apart (F G : List Nat) : Prop := ∀ j ∈ F, j ∉ G
theorem Apart.symm {F G : List Nat} (h : Apart F G) : Apart G F := fun j hj hk => h j hk hj
/-- What was apart and stood stays apart. -/
theorem Apart.upd {F F' G : List Nat} (h : Apart F G) (hU : Upd F σ σ' F') (hG : ∀ j ∈ G, j < σ.next) : Apart F' G := fun j hj hg => by
  rcases (hU.ids j hj).2 with h1 | h1
  · exact h j h1 hg
  · have := hG j hg; omega
theorem Upd.get {F F' : List Nat} (hU : Upd F σ σ' F') {G : List Nat} (h : Apart F G) (hG : ∀ j ∈ G, j < σ.next) : ∀ j ∈ G, σ'.get j = σ.get j := fun j hj => hU.same j (hG j hj) fun hf => h j hf hj
theorem write_o (h : Disk σ d s F) (hC : s.C m) (hm : m < 2 ^ 29) {i : Int} {b : List Int} (hb : b.length = 1024) (hq : ∀ σ' F', Disk σ' d (s.write i b).2 F' → Upd F σ σ' F' → Q (.int .i64 (s.write i b).1) σ') : Does Tryz.prog 8 [.pointer (some ⟨d, 0, none⟩), .int .i64 i, .agg ⟨bc b⟩] σ Q := by
  obtain ⟨_, _, _, _, h, rfl⟩ := h
  have h1 := hC.made
  have h2 := hC.wait
  have h3 := hC.hist
  exact write_ h hC.ok (by omega) (by omega) (by omega) hb fun σ' pv' hv' h1 h2 => hq σ' _ ⟨_, _, _, _, h1, rfl⟩ h2
theorem barrier_o (h : Disk σ d s F) (hC : s.C m) (hm : m < 2 ^ 29) (hq : ∀ σ' F', Disk σ' d s.barrier.2 F' → Upd F σ σ' F' → Q (.int .i64 s.barrier.1) σ') : Does Tryz.prog 7 [.pointer (some ⟨d, 0, none⟩)] σ Q := by
  obtain ⟨_, _, _, _, h, rfl⟩ := h
  have h1 := hC.made
  have h2 := hC.wait
  have h3 := hC.hist
  exact barrier_ h hC.ok (by omega) (by omega) (by omega) fun σ' pv' hv' h1 h2 => hq σ' _ ⟨_, _, _, _, h1, rfl⟩ h2
/-- A disk of noughts. -/
def DS.new (n : Int) : DS := ⟨n, fun _ => none, [], [], -1, false, 0, 0, 0, 0⟩
theorem new_C {n : Int} (h0 : 1 ≤ n) (h1 : n ≤ 1048576) : (DS.new n).C 0 := by
  have z : (0 : Int) ≤ 0 := Int.le_refl _
  exact ⟨⟨by show 0 < n; omega, h1, by show (-1 : Int) < 2 ^ 63; decide, by show (-1 : Int) ≤ -1; decide, z, z, z, fun p hp => absurd hp List.not_mem_nil, fun p hp => absurd hp List.not_mem_nil, fun x b h => by cases h⟩, z, Nat.le_refl _, Nat.le_refl _, z, z⟩
end Go.Proofs.YthojojlgmaoecaaGreat
