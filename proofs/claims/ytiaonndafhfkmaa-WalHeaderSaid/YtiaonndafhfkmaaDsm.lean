/- Contracts of the package disk: the rest but Image. -/
import Derived.Test.YtiaonndafhfkmaaImg
import Derived.Test.YtiaonndafhfkmaaCrs
set_option linter.all false
set_option maxRecDepth 100000
set_option maxHeartbeats 400000
namespace Go.Proofs.Ytiaonndafhfkmaa
open Go.Am
variable {σ σ' : Store} {d m hm lm : Nat} {pv hv : Value} {s : DS} {F : List Nat} {Q : Value → Store → Prop}
theorem newbad_ {n : Int} (h : n < 1 ∨ 1048576 < n) (hq : Q (.tuple #[.pointer none, .int .i64 2]) σ) : Does Try.prog 31 [.int .i64 n] σ Q := by
  refine d31 ?_
  by_cases h0 : n < 1
  · simp -implicitDefEqProofs (maxSteps := 2000000) (disch := first|assumption|omega|rfl|(simp only[RD];done)|(simp only[RD];omega)) only [RN,Int.reduceBEq,Int.reduceBNe,Int.reduceLT,Int.reduceLE,Int.reduceAdd,Int.reduceSub,Int.reduceMul,Nat.reduceAdd,↓bc_flatz,↓bc_flat16,↓agg_bytez, p31, decide_eq_true h0]
    exact hq
  · have h1 : 1048576 < n := by omega
    simp -implicitDefEqProofs (maxSteps := 2000000) (disch := first|assumption|omega|rfl|(simp only[RD];done)|(simp only[RD];omega)) only [RN,Int.reduceBEq,Int.reduceBNe,Int.reduceLT,Int.reduceLE,Int.reduceAdd,Int.reduceSub,Int.reduceMul,Nat.reduceAdd,↓bc_flatz,↓bc_flat16,↓agg_bytez, p31, decide_eq_false h0, decide_eq_true h1]
    exact hq
/-! ## what is in a disk stays in it -/
theorem burnt_W (h : s.W) : s.burnt.W := by
  have e := burnt_same s
  exact ⟨fun x b hb => by rw [e.1]; rw [e.2.1] at hb; exact h.held x b hb, fun p hp => by rw [e.1]; rw [e.2.2.1] at hp; exact h.wait p hp⟩
theorem write_W (h : s.W) {i : Int} {b : List Int} : (s.write i b).2.W := by
  unfold DS.write
  split
  · exact h
  · split
    · exact h
    · rename_i h2
      split
      · exact burnt_W h
      · have hB := burnt_W h
        have e := burnt_same s
        refine ⟨hB.held, fun p hp => ?_⟩
        rcases List.mem_append.1 hp with hp | hp
        · have := h.wait p hp
          show 0 ≤ p.1 ∧ p.1 < s.burnt.n
          rw [e.1]; exact this
        · have : p = (i, b) := by simpa using hp
          subst this
          show 0 ≤ i ∧ i < s.burnt.n
          rw [e.1]; omega
theorem keepF_W {f : Int → Option (List Int)} {n i : Int} {b : List Int} (hf : ∀ x c, f x = some c → 0 ≤ x ∧ x < n ∧ c ≠ zb) (hi : 0 ≤ i ∧ i < n) : ∀ x c, keepF f i b x = some c → 0 ≤ x ∧ x < n ∧ c ≠ zb := by
  intro x c h
  unfold keepF at h
  split at h
  · rename_i hx
    split at h
    · cases h
    · rename_i hb
      cases h
      exact ⟨by omega, by omega, hb⟩
  · exact hf x c h
theorem barHeld_W : ∀ {w : List HB} {f : Int → Option (List Int)} {n : Int}, (∀ p ∈ w, 0 ≤ p.1 ∧ p.1 < n) → (∀ x c, f x = some c → 0 ≤ x ∧ x < n ∧ c ≠ zb) → ∀ x c, barHeld f w x = some c → 0 ≤ x ∧ x < n ∧ c ≠ zb
  | [], f, n, _, hf => hf
  | p :: w, f, n, hw, hf => barHeld_W (w := w) (f := keepF f p.1 p.2) (fun q hq => hw q (List.mem_cons_of_mem _ hq)) (keepF_W hf (hw p List.mem_cons_self))
theorem barrier_W (h : s.W) : s.barrier.2.W := by
  unfold DS.barrier
  split
  · exact h
  · split
    · exact burnt_W h
    · have e := burnt_same s
      exact ⟨fun x b hb => by
        show 0 ≤ x ∧ x < s.burnt.n ∧ b ≠ zb
        rw [e.1]; exact barHeld_W h.wait h.held x b hb, fun p hp => by cases hp⟩
theorem read_W (h : s.W) {i : Int} : (s.read i).2.2.W := by
  unfold DS.read
  split
  · exact h
  · split
    · exact h
    · exact ⟨h.held, h.wait⟩
end Go.Proofs.Ytiaonndafhfkmaa
