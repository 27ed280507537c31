/- Contracts of past.both, past.Changed. -/
import Derived.Test.YthojojlgmaoecaaGreatLv5
import Derived.Test.YthojojlgmaoecaaGreatSri
import Derived.Test.YthojojlgmaoecaaGreatLayI
set_option linter.all false
set_option maxRecDepth 100000
set_option maxHeartbeats 1600000
namespace Go.Proofs.YthojojlgmaoecaaGreat
open Go.Am Go.Sort
variable {σ : Store} {Q : Value → Store → Prop} {n m : Int} {v u : Value} {L A : List HB} {f g : Int → Option (List Int)}
theorem both_ (hv : SlR σ 1025 v L.length (waitC L)) (hl : ∀ p ∈ L, p.2.length = 1024) (hcap : L.length < 2 ^ 62) (hu : SlR σ 1025 u A.length (waitC A)) (hla : ∀ p ∈ A, p.2.length = 1024) (hcapa : A.length < 2 ^ 62)
    (hq1 : okIm n L → okIm m A → n = m → ∀ st, Keeps σ st → Q (.bool true) st) (hq2 : ¬ (okIm n L ∧ okIm m A ∧ n = m) → ∀ st, Keeps σ st → Q (.bool false) st) :
    Does Tryz.prog 30 [.agg ⟨[.int .i64 n, v]⟩, .agg ⟨[.int .i64 m, u]⟩] σ Q := by
  refine d30 ?_
  have g2' : ∀ (n : Int) (v : Value), ([.int .i64 n, v] : List Value).length = 2 := fun _ _ => rfl
  obtain ⟨s1, hs1⟩ : ∃ s1, s1 = σ.push (.cells [.int .i64 n, v] none) := ⟨_, rfl⟩
  have k1 : Keeps σ s1 := by rw [hs1]; exact (Keeps.refl _).push _
  have c1 : s1.get σ.next = some (.cells [.int .i64 n, v] none) := by rw [hs1]; exact Store.get_push_same _ _
  obtain ⟨s2, hs2⟩ : ∃ s2, s2 = s1.push (.cells [.int .i64 m, u] none) := ⟨_, rfl⟩
  have k2 : Keeps s1 s2 := by rw [hs2]; exact (Keeps.refl _).push _
  have c2 : s2.get s1.next = some (.cells [.int .i64 m, u] none) := by rw [hs2]; exact Store.get_push_same _ _
  have k12 := k1.trans k2
  have c1' := k2.get c1
  unfold p30
  rw [box_agg, nop_some, ← hs1, box_agg, nop_some, ← hs2]
  simp -implicitDefEqProofs (maxSteps := 2000000) (disch := first|assumption|omega|rfl|(simp only[RD];done)|(simp only[RD];omega)) only [RN,Int.reduceBEq,Int.reduceBNe,Int.reduceLT,Int.reduceLE,Int.reduceAdd,Int.reduceSub,Int.reduceMul,Nat.reduceAdd,↓bc_flatz,↓bc_flat16,↓agg_bytez, c1', g2']
  refine pwhole_ (hv.keeps fun i o h => k12.get h) hl (by omega) (fun h1 st1 k3 => ?_) fun h1 st1 k3 => ?_
  · have c3 := k3.get c2
    have k13 := k12.trans k3
    simp -implicitDefEqProofs (maxSteps := 2000000) (disch := first|assumption|omega|rfl|(simp only[RD];done)|(simp only[RD];omega)) only [RN,Int.reduceBEq,Int.reduceBNe,Int.reduceLT,Int.reduceLE,Int.reduceAdd,Int.reduceSub,Int.reduceMul,Nat.reduceAdd,↓bc_flatz,↓bc_flat16,↓agg_bytez, c3, g2']
    refine pwhole_ (hu.keeps fun i o h => k13.get h) hla (by omega) (fun h2 st2 k4 => ?_) fun h2 st2 k4 => ?_
    · have c4 := k4.get c3
      have d4 := k4.get (k3.get c1')
      by_cases h3 : n = m
      · have e3 : (n == m) = true := by simp [h3]
        simp -implicitDefEqProofs (maxSteps := 2000000) (disch := first|assumption|omega|rfl|(simp only[RD];done)|(simp only[RD];omega)) only [RN,Int.reduceBEq,Int.reduceBNe,Int.reduceLT,Int.reduceLE,Int.reduceAdd,Int.reduceSub,Int.reduceMul,Nat.reduceAdd,↓bc_flatz,↓bc_flat16,↓agg_bytez, c4, d4, e3]
        exact hq1 h1 h2 h3 _ (k13.trans k4)
      · have e3 : (n == m) = false := by simp [h3]
        simp -implicitDefEqProofs (maxSteps := 2000000) (disch := first|assumption|omega|rfl|(simp only[RD];done)|(simp only[RD];omega)) only [RN,Int.reduceBEq,Int.reduceBNe,Int.reduceLT,Int.reduceLE,Int.reduceAdd,Int.reduceSub,Int.reduceMul,Nat.reduceAdd,↓bc_flatz,↓bc_flat16,↓agg_bytez, c4, d4, e3]
        exact hq2 (fun h => h3 h.2.2) _ (k13.trans k4)
    · simp -implicitDefEqProofs (maxSteps := 2000000) (disch := first|assumption|omega|rfl|(simp only[RD];done)|(simp only[RD];omega)) only [RN,Int.reduceBEq,Int.reduceBNe,Int.reduceLT,Int.reduceLE,Int.reduceAdd,Int.reduceSub,Int.reduceMul,Nat.reduceAdd,↓bc_flatz,↓bc_flat16,↓agg_bytez]
      exact hq2 (fun h => h2 h.2.1) _ (k13.trans k4)
  · simp -implicitDefEqProofs (maxSteps := 2000000) (disch := first|assumption|omega|rfl|(simp only[RD];done)|(simp only[RD];omega)) only [RN,Int.reduceBEq,Int.reduceBNe,Int.reduceLT,Int.reduceLE,Int.reduceAdd,Int.reduceSub,Int.reduceMul,Nat.reduceAdd,↓bc_flatz,↓bc_flat16,↓agg_bytez]
    exact hq2 (fun h => h1 h.1) _ (k12.trans k3)
theorem vr_sl {M M' : Places} {a N k sz : Nat} {v : Value} (h : VR M false (.slice (some ⟨a, 0, some sz⟩) k k) v) (hN : M' N = M a) : VR M' false (.slice (some ⟨N, 0, some sz⟩) k k) v := by
  obtain ⟨l, c', q1, rfl, q2, q3⟩ := h.slice_
  rcases q3 with ⟨q3, _⟩ | ⟨s, room, q3, q4, q5⟩
  · cases q3
  · cases q3
    obtain ⟨b, base, gr⟩ := l
    have q4 : gr = some (sz, room) := q4
    subst q4
    exact .cell _ _ (.grown N 0 k k c' sz room b base (by rw [hN, q1]) q2 q5)
/-! ## what is changed, as it is gathered -/
def ch1 (g : Int → Option (List Int)) (d : Ents) : List Int := (d.filter fun p => decide ((g p.1).getD zb ≠ ofB p.2.1)).map (·.1)
def ch2 (f : Int → Option (List Int)) (d : Ents) : List Int := (d.filter fun p => decide (f p.1 = none)).map (·.1)
theorem ch1_snoc (d : Ents) (p : Int × Value × Nat) : ch1 g (d ++ [p]) = ch1 g d ++ if (g p.1).getD zb = ofB p.2.1 then [] else [p.1] := by
  unfold ch1
  rw [List.filter_append, List.map_append, List.filter_cons]
  by_cases h : (g p.1).getD zb = ofB p.2.1
  · rw [if_neg (by simp [h]), if_pos h]; rfl
  · rw [if_pos (by simp [h]), if_neg h]; rfl
theorem ch2_snoc (d : Ents) (p : Int × Value × Nat) : ch2 f (d ++ [p]) = ch2 f d ++ if f p.1 = none then [p.1] else [] := by
  unfold ch2
  rw [List.filter_append, List.map_append, List.filter_cons]
  by_cases h : f p.1 = none
  · rw [if_pos (by simp [h]), if_pos h]; rfl
  · rw [if_neg (by simp [h]), if_neg h]; rfl
theorem ch1_le (d : Ents) : (ch1 g d).length ≤ d.length := by unfold ch1; rw [List.length_map]; exact List.length_filter_le _ _
theorem ch2_le (d : Ents) : (ch2 f d).length ≤ d.length := by unfold ch2; rw [List.length_map]; exact List.length_filter_le _ _
def srtI (l : List Int) : List Int := l.mergeSort fun x y => decide (x ≤ y)
theorem srtI_perm (l : List Int) : (srtI l).Perm l := List.mergeSort_perm l _
theorem srtI_sorted (l : List Int) : (srtI l).Pairwise (· ≤ ·) := by
  have := List.pairwise_mergeSort (le := fun x y : Int => decide (x ≤ y)) (fun a b c h1 h2 => by simp at *; omega) (fun a b => by simp; omega) l
  exact this.imp fun h => by simpa using h
theorem srtI_eq {l l' : List Int} (h : l.Perm l') : srtI l = srtI l' :=
  List.Perm.eq_of_pairwise (le := fun a b : Int => a ≤ b) (fun a b _ _ h1 h2 => by omega) (srtI_sorted l) (srtI_sorted l') (((srtI_perm l).trans h).trans (srtI_perm l').symm)
theorem ents_mem {l : Ents} (hk : (keysE l).Nodup) (hf : ∀ x, eget l x = (f x).map bv) (x : Int) : (∃ p ∈ l, p.1 = x ∧ f x = some (ofB p.2.1)) ↔ f x ≠ none := by
  constructor
  · rintro ⟨p, _, _, h⟩ e; rw [h] at e; cases e
  · intro h
    cases hx : f x with
    | none => exact absurd hx h
    | some b =>
      have h1 : eget l x = some (bv b) := by rw [hf, hx]; rfl
      obtain ⟨q, hq, e1, e2⟩ := mem_eget h1
      exact ⟨q, hq, e1, by rw [e2, ofB_bv]⟩
theorem ents_val {l : Ents} (hk : (keysE l).Nodup) (hf : ∀ x, eget l x = (f x).map bv) {p : Int × Value × Nat} (hp : p ∈ l) : f p.1 = some (ofB p.2.1) ∧ p.2.1 = bv (ofB p.2.1) := by
  have h1 := eget_mem hk p hp
  rw [hf] at h1
  cases hc : f p.1 with
  | none => rw [hc] at h1; cases h1
  | some b =>
    rw [hc] at h1
    have : bv b = p.2.1 := by simpa using h1
    rw [← this, ofB_bv]; exact ⟨rfl, rfl⟩
/-- The places at which two maps differ. -/
theorem chg_mem {l1 l2 : Ents} (hk1 : (keysE l1).Nodup) (hk2 : (keysE l2).Nodup) (hf : ∀ x, eget l1 x = (f x).map bv) (hg : ∀ x, eget l2 x = (g x).map bv) (hfz : ∀ x, f x ≠ some zb) (x : Int) : x ∈ ch1 g l1 ++ ch2 f l2 ↔ f x ≠ g x := by
  rw [List.mem_append]
  have m1 : x ∈ ch1 g l1 ↔ ∃ b, f x = some b ∧ (g x).getD zb ≠ b := by
    unfold ch1
    constructor
    · intro h
      obtain ⟨p, hp, rfl⟩ := List.mem_map.1 h
      have hp := List.mem_filter.1 hp
      exact ⟨_, (ents_val hk1 hf hp.1).1, of_decide_eq_true hp.2⟩
    · rintro ⟨b, h1, h2⟩
      obtain ⟨p, hp, rfl, h3⟩ := (ents_mem hk1 hf x).2 (by rw [h1]; exact fun h => by cases h)
      rw [h1] at h3
      exact List.mem_map.2 ⟨p, List.mem_filter.2 ⟨hp, decide_eq_true (by rw [← Option.some.inj h3]; exact h2)⟩, rfl⟩
  have m2 : x ∈ ch2 f l2 ↔ f x = none ∧ g x ≠ none := by
    unfold ch2
    constructor
    · intro h
      obtain ⟨p, hp, rfl⟩ := List.mem_map.1 h
      have hp := List.mem_filter.1 hp
      exact ⟨of_decide_eq_true hp.2, by rw [(ents_val hk2 hg hp.1).1]; exact fun h => by cases h⟩
    · rintro ⟨h1, h2⟩
      obtain ⟨p, hp, rfl, h3⟩ := (ents_mem hk2 hg x).2 h2
      exact List.mem_map.2 ⟨p, List.mem_filter.2 ⟨hp, decide_eq_true h1⟩, rfl⟩
  rw [m1, m2]
  constructor
  · rintro (⟨b, h1, h2⟩ | ⟨h1, h2⟩) e
    · rw [h1] at e; rw [← e] at h2; exact h2 rfl
    · rw [h1] at e; exact h2 e.symm
  · intro h
    cases hfx : f x with
    | none => exact .inr ⟨rfl, fun e => h (by rw [hfx, e])⟩
    | some b =>
      refine .inl ⟨b, rfl, fun e => ?_⟩
      cases hgx : g x with
      | none => rw [hgx] at e; exact hfz x (by rw [hfx, ← e]; rfl)
      | some c => rw [hgx] at e; exact h (by rw [hfx, hgx, ← e]; rfl)
theorem chg_nodup {l1 l2 : Ents} (hk1 : (keysE l1).Nodup) (hk2 : (keysE l2).Nodup) (hf : ∀ x, eget l1 x = (f x).map bv) : (ch1 g l1 ++ ch2 f l2).Nodup := by
  have n1 : (ch1 g l1).Nodup := hk1.sublist (List.Sublist.map _ (List.filter_sublist ..))
  have n2 : (ch2 f l2).Nodup := hk2.sublist (List.Sublist.map _ (List.filter_sublist ..))
  rw [List.nodup_append]
  refine ⟨n1, n2, fun a ha b hb e => ?_⟩
  subst e
  unfold ch1 at ha
  unfold ch2 at hb
  obtain ⟨p, hp, rfl⟩ := List.mem_map.1 ha
  obtain ⟨q, hq, e2⟩ := List.mem_map.1 hb
  have h1 := (ents_val hk1 hf (List.mem_filter.1 hp).1).1
  have h2 := of_decide_eq_true (List.mem_filter.1 hq).2
  rw [e2, h1] at h2
  cases h2
end Go.Proofs.YthojojlgmaoecaaGreat
