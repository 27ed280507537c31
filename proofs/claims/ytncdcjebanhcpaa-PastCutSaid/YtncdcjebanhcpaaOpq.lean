/- Disks whose inner places are hidden, and how far their numbers go. -/
import Derived.Test.YtncdcjebanhcpaaDsk
set_option linter.all false
set_option maxRecDepth 100000
set_option maxHeartbeats 400000
namespace Go.Proofs.Ytncdcjebanhcpaa
open Go.Am
/-- How far a disk's numbers go. -/
structure DS.C (s : DS) (m : Nat) : Prop where
  ok : s.Ok
  made : s.made ≤ m
  wait : s.wait.length ≤ m
  hist : s.hist.length ≤ m
  reads : s.reads ≤ m
  claims : s.claims ≤ m
theorem DS.C.le {s : DS} {m n : Nat} (h : s.C m) (hm : m ≤ n) : s.C n := ⟨h.ok, by have := h.made; omega, by have := h.wait; omega, by have := h.hist; omega, by have := h.reads; omega, by have := h.claims; omega⟩
/-- A disk stands in a store, over these places. -/
def Disk (σ : Store) (d : Nat) (s : DS) (F : List Nat) : Prop := ∃ hm lm pv hv, DAt σ d s hm lm pv hv ∧ F = ids d hm lm pv hv
variable {σ σ' : Store} {d m : Nat} {s : DS} {F : List Nat} {Q : Value → Store → Prop}
theorem Disk.lt (h : Disk σ d s F) : ∀ j ∈ F, j < σ.next := by
  obtain ⟨_, _, _, _, h, rfl⟩ := h
  exact h.lt
theorem Disk.mem (h : Disk σ d s F) : d ∈ F := by
  obtain ⟨_, _, _, _, h, rfl⟩ := h
  simp [ids]
theorem Disk.same (h : Disk σ d s F) (hg : ∀ j ∈ F, σ'.get j = σ.get j) : Disk σ' d s F := by
  obtain ⟨_, _, _, _, h, rfl⟩ := h
  exact ⟨_, _, _, _, h.keeps hg, rfl⟩
/-- No place of the one is of the other. -/
def Apart (F G : List Nat) : Prop := ∀ j ∈ F, j ∉ G
theorem Apart.symm {F G : List Nat} (h : Apart F G) : Apart G F := fun j hj hk => h j hk hj
/-- What was apart and stood stays apart. -/
theorem Apart.upd {F F' G : List Nat} (h : Apart F G) (hU : Upd F σ σ' F') (hG : ∀ j ∈ G, j < σ.next) : Apart F' G := fun j hj hg => by
  rcases (hU.ids j hj).2 with h1 | h1
  · exact h j h1 hg
  · have := hG j hg; omega
theorem Upd.get {F F' : List Nat} (hU : Upd F σ σ' F') {G : List Nat} (h : Apart F G) (hG : ∀ j ∈ G, j < σ.next) : ∀ j ∈ G, σ'.get j = σ.get j := fun j hj => hU.same j (hG j hj) fun hf => h j hf hj
/-- A disk of noughts. -/
def DS.new (n : Int) : DS := ⟨n, fun _ => none, [], [], -1, false, 0, 0, 0, 0⟩
end Go.Proofs.Ytncdcjebanhcpaa
