/- Contract of disk.Load. -/
import Derived.Test.YtncdcjebanhcpaaDsm
set_option linter.all false
set_option maxRecDepth 100000
set_option maxHeartbeats 400000
namespace Go.Proofs.Ytncdcjebanhcpaa
open Go.Am
variable {σ σ' : Store} {d m hm lm : Nat} {pv hv : Value} {s : DS} {F : List Nat} {Q : Value → Store → Prop}
/-- A list that rises behind a number, all in a disk, none blank. -/
def rise (n : Int) : Int → List HB → Prop
  | _, [] => True
  | b, p :: L => b < p.1 ∧ p.1 < n ∧ p.2 ≠ zb ∧ rise n p.1 L
def okIm (n : Int) (L : List HB) : Prop := 1 ≤ n ∧ n ≤ 1048576 ∧ rise n (-1) L
def ldF (f : Int → Option (List Int)) (L : List HB) : Int → Option (List Int) := L.foldl (fun f p => fun x => if x = p.1 then some p.2 else f x) f
theorem ldF_snoc {f : Int → Option (List Int)} {L : List HB} {k : Nat} {p : HB} (h : L[k]? = some p) : ldF f (L.take (k + 1)) = fun x => if x = p.1 then some p.2 else ldF f (L.take k) x := by
  unfold ldF
  rw [List.take_add_one, h, List.foldl_append]
  rfl
/-- A disk that holds a list. -/
def DS.load (n : Int) (L : List HB) : DS := { DS.new n with held := ldF (fun _ => none) L }
theorem rise_gt {n : Int} : ∀ {L : List HB} {b : Int}, rise n b L → ∀ p ∈ L, b < p.1 ∧ p.1 < n ∧ p.2 ≠ zb
  | q :: L, b, h, p, hp => by
    rcases List.mem_cons.1 hp with rfl | hp
    · exact ⟨h.1, h.2.1, h.2.2.1⟩
    · have := rise_gt h.2.2.2 p hp
      exact ⟨by have := h.1; omega, this.2⟩
theorem rise_asc {n : Int} : ∀ {L : List HB} {b : Int}, rise n b L → L.Pairwise fun a b => a.1 < b.1
  | [], _, _ => List.Pairwise.nil
  | q :: L, b, h => List.Pairwise.cons (fun p hp => (rise_gt h.2.2.2 p hp).1) (rise_asc h.2.2.2)
theorem ldF_get : ∀ {L : List HB} {f : Int → Option (List Int)} (x : Int), ldF f L x = match lastOf L x with | some b => some b | none => f x
  | [], f, x => rfl
  | p :: L, f, x => by
    show ldF (fun y => if y = p.1 then some p.2 else f y) L x = _
    rw [ldF_get]
    obtain ⟨i, b⟩ := p
    simp only [lastOf]
    cases hl : lastOf L x with
    | some c => simp
    | none =>
      simp only [Option.none_or]
      by_cases hx : i = x
      · simp [hx]
      · have hx' : ¬ x = i := fun e => hx e.symm
        simp [hx, hx']
theorem lastOf_asc : ∀ {L : List HB}, (L.Pairwise fun a b => a.1 < b.1) → ∀ p : HB, lastOf L p.1 = some p.2 ↔ p ∈ L
  | [], _, p => by simp [lastOf]
  | q :: L, h, p => by
    rw [List.pairwise_cons] at h
    obtain ⟨i, b⟩ := q
    have ih := lastOf_asc h.2 p
    simp only [lastOf]
    constructor
    · intro hl
      cases hc : lastOf L p.1 with
      | some c =>
        rw [hc] at hl
        have : c = p.2 := by simpa using hl
        rw [hc, this] at ih
        exact List.mem_cons_of_mem _ (ih.1 rfl)
      | none =>
        rw [hc] at hl
        simp only [Option.none_or] at hl
        split at hl
        · rename_i e
          cases hl
          obtain ⟨x, y⟩ := p
          simp at e; subst e
          exact List.mem_cons_self
        · cases hl
    · intro hp
      rcases List.mem_cons.1 hp with rfl | hp
      · have hn : lastOf L i = none := by
          cases hc : lastOf L i with
          | none => rfl
          | some c =>
            have := (lastOf_asc h.2 (i, c)).1 hc
            have := h.1 _ this
            simp at this
        simp [hn]
      · rw [ih.2 hp]; rfl
theorem load_held {n : Int} {L : List HB} (h : okIm n L) : HeldL (DS.load n L).held L := by
  refine ⟨rise_asc h.2.2, fun p => ?_⟩
  show p ∈ L ↔ ldF (fun _ => none) L p.1 = some p.2
  rw [ldF_get, ← lastOf_asc (rise_asc h.2.2) p]
  cases lastOf L p.1 <;> simp
theorem load_W {n : Int} {L : List HB} (h : okIm n L) : (DS.load n L).W := ⟨fun x b hb => by
  have := ((load_held h).mem (x, b)).2 hb
  have := rise_gt h.2.2 _ this
  exact ⟨by have := this.1; simp at this; omega, this.2⟩, fun p hp => by cases hp⟩
theorem ldF_len {L : List HB} (hl : ∀ p ∈ L, p.2.length = 1024) : ∀ x b, ldF (fun _ => none) L x = some b → b.length = 1024 := fun x b h => by
  rw [ldF_get] at h
  cases hc : lastOf L x with
  | none => rw [hc] at h; cases h
  | some c =>
    rw [hc] at h; cases h
    obtain ⟨p, hp, e⟩ := lastOf_mem hc
    rw [← e]; exact hl p hp
end Go.Proofs.Ytncdcjebanhcpaa
