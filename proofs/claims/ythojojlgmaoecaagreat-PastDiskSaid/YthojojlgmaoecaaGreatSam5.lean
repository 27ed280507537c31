/- Contract of past.Same; what After tells against what Block tells. -/
import Derived.Test.YthojojlgmaoecaaGreatChd5
set_option linter.all false
set_option maxRecDepth 100000
set_option maxHeartbeats 800000
namespace Go.Proofs.YthojojlgmaoecaaGreat
open Go.Am Go.Sort
variable {σ : Store} {Q : Value → Store → Prop} {n m at' : Int} {v u w : Value} {L A : List HB} {f g : Int → Option (List Int)} {O : List OP} {P : List Nat} {ks : List Bool}
theorem ld_eq (h1 : okIm n L) (h2 : okIm m A) : L = A ↔ ∀ x, ldF (fun _ => none) L x = ldF (fun _ => none) A x := by
  constructor
  · rintro rfl x; rfl
  · intro h
    have e : ldF (fun _ => none) L = ldF (fun _ => none) A := funext h
    have a1 : HeldL (ldF (fun _ => none) L) L := load_held h1
    have a2 : HeldL (ldF (fun _ => none) A) A := load_held h2
    rw [← e] at a2
    exact a1.uniq a2
theorem psame_ (hv : SlR σ 1025 v L.length (waitC L)) (hl : ∀ p ∈ L, p.2.length = 1024) (hcap : L.length < 2 ^ 40) (hu : SlR σ 1025 u A.length (waitC A)) (hla : ∀ p ∈ A, p.2.length = 1024) (hcapa : A.length < 2 ^ 40)
    (hq1 : okIm n L → okIm m A → n = m → L = A → ∀ st, Keeps σ st → Q (.bool true) st) (hq2 : ¬ (okIm n L ∧ okIm m A ∧ n = m ∧ L = A) → ∀ st, Keeps σ st → Q (.bool false) st) :
    Does Tryz.prog 15 [.agg ⟨[.int .i64 n, v]⟩, .agg ⟨[.int .i64 m, u]⟩] σ Q := by
  refine d15 ?_
  have g2' : ∀ (n : Int) (v : Value), ([.int .i64 n, v] : List Value).length = 2 := fun _ _ => rfl
  obtain ⟨s1, hs1⟩ : ∃ s1, s1 = σ.push (.cells [.int .i64 n, v] none) := ⟨_, rfl⟩
  have k1 : Keeps σ s1 := by rw [hs1]; exact (Keeps.refl _).push _
  have c1 : s1.get σ.next = some (.cells [.int .i64 n, v] none) := by rw [hs1]; exact Store.get_push_same _ _
  obtain ⟨s2, hs2⟩ : ∃ s2, s2 = s1.push (.cells [.int .i64 m, u] none) := ⟨_, rfl⟩
  have k2 : Keeps s1 s2 := by rw [hs2]; exact (Keeps.refl _).push _
  have c2 : s2.get s1.next = some (.cells [.int .i64 m, u] none) := by rw [hs2]; exact Store.get_push_same _ _
  have k12 := k1.trans k2
  have c1' := k2.get c1
  unfold p15
  rw [box_agg, nop_some, ← hs1, box_agg, nop_some, ← hs2]
  simp -implicitDefEqProofs (maxSteps := 2000000) (disch := first|assumption|omega|rfl|(simp only[RD];done)|(simp only[RD];omega)) only [RN,Int.reduceBEq,Int.reduceBNe,Int.reduceLT,Int.reduceLE,Int.reduceAdd,Int.reduceSub,Int.reduceMul,Nat.reduceAdd,↓bc_flatz,↓bc_flat16,↓agg_bytez, c1', c2, g2']
  refine both_ (hv.keeps fun i o h => k12.get h) hl (by omega) (hu.keeps fun i o h => k12.get h) hla (by omega) (fun h1 h2 h3 st1 k3 => ?_) fun h st1 k3 => ?_
  · have c3 := k3.get c1'
    have d3 := k3.get c2
    have k13 := k12.trans k3
    simp -implicitDefEqProofs (maxSteps := 2000000) (disch := first|assumption|omega|rfl|(simp only[RD];done)|(simp only[RD];omega)) only [RN,Int.reduceBEq,Int.reduceBNe,Int.reduceLT,Int.reduceLE,Int.reduceAdd,Int.reduceSub,Int.reduceMul,Nat.reduceAdd,↓bc_flatz,↓bc_flat16,↓agg_bytez, c3, d3, g2']
    refine changed_ (hv.keeps fun i o h => k13.get h) hl hcap (hu.keeps fun i o h => k13.get h) hla hcapa (fun _ _ _ l vl st2 q1 q2 k4 hvl _ => ?_) fun h => absurd ⟨h1, h2, h3⟩ h
    have hll := hvl.len
    by_cases hl0 : l = []
    · have e0 : (((l.length : Nat) : Int) == 0) = true := by simp [hl0]
      simp -implicitDefEqProofs (maxSteps := 2000000) (disch := first|assumption|omega|rfl|(simp only[RD];done)|(simp only[RD];omega)) only [RN,Int.reduceBEq,Int.reduceBNe,Int.reduceLT,Int.reduceLE,Int.reduceAdd,Int.reduceSub,Int.reduceMul,Nat.reduceAdd,↓bc_flatz,↓bc_flat16,↓agg_bytez, hll, e0]
      refine hq1 h1 h2 h3 ((ld_eq h1 h2).2 fun x => ?_) _ (k13.trans k4)
      have := q2 x
      rw [hl0] at this
      exact Classical.byContradiction fun h => absurd (this.2 h) List.not_mem_nil
    · have e0 : (((l.length : Nat) : Int) == 0) = false := by
        have := List.length_pos_iff.2 hl0
        simp; omega
      simp -implicitDefEqProofs (maxSteps := 2000000) (disch := first|assumption|omega|rfl|(simp only[RD];done)|(simp only[RD];omega)) only [RN,Int.reduceBEq,Int.reduceBNe,Int.reduceLT,Int.reduceLE,Int.reduceAdd,Int.reduceSub,Int.reduceMul,Nat.reduceAdd,↓bc_flatz,↓bc_flat16,↓agg_bytez, hll, e0]
      refine hq2 (fun h => hl0 ?_) _ (k13.trans k4)
      have h4 := (ld_eq h1 h2).1 h.2.2.2
      exact List.eq_nil_iff_forall_not_mem.2 fun x hx => (q2 x).1 hx (h4 x)
  · simp -implicitDefEqProofs (maxSteps := 2000000) (disch := first|assumption|omega|rfl|(simp only[RD];done)|(simp only[RD];omega)) only [RN,Int.reduceBEq,Int.reduceBNe,Int.reduceLT,Int.reduceLE,Int.reduceAdd,Int.reduceSub,Int.reduceMul,Nat.reduceAdd,↓bc_flatz,↓bc_flat16,↓agg_bytez]
    exact hq2 (fun h' => h ⟨h'.1, h'.2.1, h'.2.2.1⟩) _ (k12.trans k3)
/-! ## what may be -/
theorem pend_wr {k j : Nat} (h : j ∈ pendL O k) : (O.getD j (0, 0, [])).1 = 1 := by
  unfold pendL pendR at h
  exact of_decide_eq_true (List.mem_filter.1 h).2
theorem split_bar {k : Nat} (h : (O.getD k (0, 0, [])).1 = 2) : splitL O (k + 1) = k + 1 := by
  unfold splitL
  rw [if_pos h]
theorem pend_bar {k : Nat} (h : (O.getD k (0, 0, [])).1 = 2) : pendL O (k + 1) = [] := by
  unfold pendL pendR
  rw [split_bar h, Nat.sub_self]; rfl
/-- A list of what is in a disk and not blank is an image. -/
theorem nb_ok (hg : GoodF n g) (hn : 1 ≤ n) (hn2 : n ≤ 1048576) (h : HeldL (nbF g) A) : okIm n A := by
  refine ⟨hn, hn2, ?_⟩
  have hr : ∀ p ∈ A, 0 ≤ p.1 ∧ p.1 < n ∧ p.2 ≠ zb := fun p hp => by
    have h1 := nbF_some ((h.mem p).1 hp)
    have h2 := hg _ _ h1.1
    exact ⟨h2.1, h2.2.1, h1.2⟩
  have : ∀ (A : List HB) (b : Int), A.Pairwise (fun a b => a.1 < b.1) → (∀ p ∈ A, b < p.1) → (∀ p ∈ A, 0 ≤ p.1 ∧ p.1 < n ∧ p.2 ≠ zb) → rise n b A := by
    intro A
    induction A with
    | nil => intro b _ _ _; trivial
    | cons p A ih =>
      intro b h1 h2 h3
      have h4 := h3 p (List.mem_cons_self ..)
      rw [List.pairwise_cons] at h1
      obtain ⟨x, c⟩ := p
      exact ⟨h2 _ (List.mem_cons_self ..), h4.2.1, h4.2.2, ih x h1.2 (fun q hq => h1.1 q hq) fun q hq => h3 q (List.mem_cons_of_mem _ hq)⟩
  exact this A (-1) h.asc (fun p hp => by have := hr p hp; omega) hr
end Go.Proofs.YthojojlgmaoecaaGreat
