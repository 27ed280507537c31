/- The abstract machine: what a call leaves, an object of its own brought to one place, wherever it was laid. No program in sight. -/
import Derived.Test.YthojojlgmaoecaaGreatAm34
set_option linter.all false
namespace Go.Am
open Go.RowKit
variable {P : Program}
/-- What stood, and one object more behind so many ids. -/
def renS (σ : Store) (N : Nat) (c : List Value) (g : Option Nat) (h : σ.next ≤ N) : Store where
  get j := if j = N then some (.cells c g) else if j < σ.next then σ.get j else none
  next := N + 1
  fresh j hj := by rw [if_neg (by omega), if_neg (by omega)]
theorem DoesD.ren {f : FuncId} {args : List Value} {σ : Store} {N : Nat} {c : List Value} {g : Option Nat} {F : Nat → Value} {Q : Value → Store → Prop} (hN : σ.next ≤ N)
    (h : DoesD P f args σ fun r2 σ2 => ∃ a, r2 = F a ∧ σ.next ≤ a ∧ σ2.next = N ∧ σ2.get a = some (.cells c g) ∧ ∀ j o, σ.get j = some o → σ2.get j = some o)
    (hF : ∀ (a : Nat) (M M' : Places) (v : Value), VR M false (F a) v → M.le M' → M' N = M a → VR M' false (F N) v) (hq : Q (F N) (renS σ N c g hN)) : Does P f args σ Q := by
  refine ⟨F N, renS σ N c g hN, ⟨by show σ.next ≤ N + 1; omega, fun M w cargs hr ha => Calls.mono (h M w cargs hr ha) ?_⟩, hq⟩
  rintro e w' ⟨r2, σ2, M1, v, ⟨a, rfl, han, hnx, hga, hold⟩, h1, h2, h3, h4⟩
  obtain ⟨l, hl, hsh⟩ := h3.shows a _ hga
  have hMN : M1 N = none := h3.dom N (by omega)
  obtain ⟨M', hM'⟩ : ∃ M' : Places, M' = fun i => if i = N then some l else M1 i := ⟨_, rfl⟩
  have hle : M1.le M' := fun i x hx => by
    rw [hM']
    show (if i = N then some l else M1 i) = some x
    rw [if_neg (fun e => by rw [e, hMN] at hx; cases hx)]; exact hx
  have hMN' : M' N = some l := by rw [hM']; exact if_pos rfl
  have hMo : ∀ i, i ≠ N → M' i = M1 i := fun i hi => by rw [hM']; exact if_neg hi
  have hget : ∀ i o, (renS σ N c g hN).get i = some o → (i = N ∧ o = .cells c g) ∨ (i < σ.next ∧ i ≠ N ∧ σ.get i = some o) := fun i o hi => by
    have hi : (if i = N then some (SObj.cells c g) else if i < σ.next then σ.get i else none) = some o := hi
    split at hi
    · rename_i e; exact .inl ⟨e, (Option.some.inj hi).symm⟩
    · split at hi
      · rename_i e1 e2; exact .inr ⟨e2, e1, hi⟩
      · cases hi
  refine ⟨M', v, h1, hF a M1 M' v h2 hle (by rw [hMN', hl]), ⟨fun i o hi => ?_, fun i j o o' l1 l2 hi hj ho hij hli hlj => ?_, fun i hi => ?_⟩, ⟨by show σ.next ≤ N + 1; omega, Places.le_trans h4.le hle, h4.size, h4.frame, fun b hb ho => h4.owned b hb ?_, fun i c' hi => ?_, h4.os, h4.tape, h4.output⟩⟩
  · rcases hget i o hi with ⟨rfl, rfl⟩ | ⟨h5, h6, h7⟩
    · exact ⟨l, hMN', hsh.mono hle⟩
    · obtain ⟨l', k1, k2⟩ := h3.shows i o (hold i o h7)
      exact ⟨l', hle i l' k1, k2.mono hle⟩
  · rcases hget i o hi with ⟨rfl, rfl⟩ | ⟨h5, h6, h7⟩
    · rcases hget j o' hj with ⟨rfl, rfl⟩ | ⟨k5, k6, k7⟩
      · exact absurd rfl hij
      · rw [hMN'] at hli
        rw [hMo j k6] at hlj
        cases hli
        exact h3.apart a j _ _ _ _ hga (hold j o' k7) ho (by omega) hl hlj
    · rw [hMo i h6] at hli
      rcases hget j o' hj with ⟨rfl, rfl⟩ | ⟨k5, k6, k7⟩
      · rw [hMN'] at hlj
        cases hlj
        exact h3.apart i a _ _ _ _ (hold i o h7) hga ho (by omega) hli hl
      · rw [hMo j k6] at hlj
        exact h3.apart i j _ _ _ _ (hold i o h7) (hold j o' k7) ho hij hli hlj
  · have hi : N + 1 ≤ i := hi
    rw [hMo i (by omega)]
    exact h3.dom i (by omega)
  · obtain ⟨i, o, l', k1, k2, k3, k4⟩ := ho
    rcases hget i o k1 with ⟨rfl, rfl⟩ | ⟨h5, h6, h7⟩
    · rw [hMN'] at k3
      cases k3
      exact ⟨a, _, l, hga, k2, hl, k4⟩
    · rw [hMo i h6] at k3
      exact ⟨i, o, l', hold i o h7, k2, k3, k4⟩
  · rcases hget i _ hi with ⟨_, h5⟩ | ⟨_, _, h7⟩
    · cases h5
    · exact h7
end Go.Am
