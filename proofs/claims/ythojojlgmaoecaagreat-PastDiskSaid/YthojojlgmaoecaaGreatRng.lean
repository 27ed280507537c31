/- The abstract machine, part 36: ranging over a map of whole numbers. No program in sight. -/
import Derived.Test.YthojojlgmaoecaaGreatAm34
set_option linter.all false
namespace Go.Am
variable {σ σ' : Store}
/-- An iterator over a map: what it has handed out so far. -/
structure Rng (σ : Store) (it m : Nat) (l : Ents) (ck : Nat) (done : Ents) : Prop where
  it : σ.get it = some (.iter (some m) ck (done.map (·.2.2)) ck)
  m : σ.get m = some (.map (ents l) ck)
  clk : Clk l ck
  sub : ∀ p ∈ done, p ∈ l
  nd : (done.map (·.2.2)).Nodup
theorem Rng.same {it m ck : Nat} {l done : Ents} (h : Rng σ it m l ck done) (h1 : σ'.get it = σ.get it) (h2 : σ'.get m = σ.get m) : Rng σ' it m l ck done := ⟨by rw [h1, h.it], by rw [h2, h.m], h.clk, h.sub, h.nd⟩
theorem born_inj : ∀ {l : Ents}, (l.map (·.2.2)).Nodup → ∀ {p q : Int × Value × Nat}, p ∈ l → q ∈ l → p.2.2 = q.2.2 → p = q
  | [], _, p, q, hp, _, _ => absurd hp List.not_mem_nil
  | a :: l, h, p, q, hp, hq, e => by
    rw [List.map_cons, List.nodup_cons] at h
    rcases List.mem_cons.1 hp with hp | hp
    · rcases List.mem_cons.1 hq with hq | hq
      · rw [hp, hq]
      · exact absurd (List.mem_map.2 ⟨q, hq, by rw [← e, hp]⟩) h.1
    · rcases List.mem_cons.1 hq with hq | hq
      · exact absurd (List.mem_map.2 ⟨p, hp, by rw [e, hq]⟩) h.1
      · exact born_inj h.2 hp hq e
theorem nodup_of_map {β γ : Type} {f : β → γ} {l : List β} (h : (l.map f).Nodup) : l.Nodup := by
  unfold List.Nodup at h ⊢
  rw [List.pairwise_map] at h
  exact h.imp fun hab e => hab (by rw [e])
theorem length_sub : ∀ {d l : List Nat}, d.Nodup → (∀ x ∈ d, x ∈ l) → d.length ≤ l.length
  | [], l, _, _ => Nat.zero_le _
  | x :: d, l, hn, hs => by
    rw [List.nodup_cons] at hn
    have hx := hs x List.mem_cons_self
    have h1 : d.length ≤ (l.erase x).length := length_sub hn.2 fun y hy => (List.mem_erase_of_ne (fun e => hn.1 (by rw [← e]; exact hy))).2 (hs y (List.mem_cons_of_mem _ hy))
    rw [List.length_erase_of_mem hx] at h1
    have h2 := List.length_pos_of_mem hx
    rw [List.length_cons]; omega
theorem Rng.full {it m ck : Nat} {l done : Ents} (h : Rng σ it m l ck done) (hall : ∀ p ∈ l, p ∈ done) : done.Perm l :=
  (List.perm_ext_iff_of_nodup (nodup_of_map h.nd) (nodup_of_map h.clk.2.1)).2 fun p => ⟨h.sub p, hall p⟩
theorem Rng.len {it m ck : Nat} {l done : Ents} (h : Rng σ it m l ck done) : done.length ≤ l.length := by
  have := length_sub (l := l.map (·.2.2)) h.nd fun x hx => by
    obtain ⟨p, hp, e⟩ := List.mem_map.1 hx
    exact List.mem_map.2 ⟨p, h.sub p hp, e⟩
  simpa using this
theorem Rng.next_ {it m ck : Nat} {l done : Ents} {K : Value → Store → Prop} (h : Rng σ it m l ck done) (hend : done.Perm l → K (.tuple #[.bool false]) σ)
    (hnext : ∀ p σ', p ∈ l → p ∉ done → Rng σ' it m l ck (done ++ [p]) → σ'.next = σ.next → (∀ j, j ≠ it → σ'.get j = σ.get j) → K (.tuple #[.bool true, .int .i64 p.1, p.2.1]) σ') :
    pop (nextL (.pointer (some ⟨it, 0, none⟩)) σ) K := by
  have hne : it ≠ m := fun e => by
    have h1 := h.it
    rw [e, h.m] at h1; cases h1
  have hall : ((ents l).all fun e => Nat.blt e.born ck) = true := by
    rw [List.all_eq_true]
    intro e he
    obtain ⟨p, hp, rfl⟩ := List.mem_map.1 he
    exact Nat.ble_eq_true_of_le (h.clk.2.2 p hp)
  have h1 : Nat.ble ck ck = true := Nat.ble_eq_true_of_le (Nat.le_refl _)
  have h2 : Nat.beq ck ck = true := Nat.beq_refl _
  have hmem : ∀ p ∈ l, (p.2.2 ∈ done.map (·.2.2)) ↔ p ∈ done := fun p hp => by
    constructor
    · intro hb
      obtain ⟨q, hq, e⟩ := List.mem_map.1 hb
      have := born_inj h.clk.2.1 (h.sub q hq) hp e
      rw [← this]; exact hq
    · exact fun hd => List.mem_map.2 ⟨p, hd, rfl⟩
  unfold nextL
  simp only [h.it, h.m, hall, h1, h2, Bool.and_self, cond_true]
  cases hL : (ents l).filter (fun e => !(done.map (·.2.2)).contains e.born) with
  | nil =>
    intro v s hv
    have hv : (v, s) = (.tuple #[.bool false], σ) := by simpa using hv
    cases hv
    refine hend (h.full fun p hp => ?_)
    have hn := List.filter_eq_nil_iff.1 hL { key := .int .i64 p.1, val := p.2.1, born := p.2.2 } (List.mem_map.2 ⟨p, hp, rfl⟩)
    simp only [Bool.not_eq_true, Bool.not_eq_false', List.contains_iff_mem] at hn
    exact (hmem p hp).1 hn
  | cons e r =>
    intro v s hv
    obtain ⟨e', he', hv⟩ := List.mem_map.1 hv
    rw [← hL] at he'
    obtain ⟨he1, he2⟩ := List.mem_filter.1 he'
    obtain ⟨p, hp, rfl⟩ := List.mem_map.1 he1
    cases hv
    have hpd : p ∉ done := fun hd => by
      have : ((done.map (·.2.2)).contains p.2.2) = true := List.contains_iff_mem.2 ((hmem p hp).2 hd)
      simp only [this] at he2
      cases he2
    have hlt := Store.lt_of_get h.it
    refine hnext p _ hp hpd ⟨?_, ?_, h.clk, fun q hq => ?_, ?_⟩ ?_ fun j hj => Store.get_put_ne _ _ hj
    · rw [Store.get_put_same, List.map_append]; rfl
    · rw [Store.get_put_ne _ _ (Ne.symm hne)]; exact h.m
    · rcases List.mem_append.1 hq with hq | hq
      · exact h.sub q hq
      · have : q = p := by simpa using hq
        rw [this]; exact hp
    · rw [List.map_append, List.nodup_append]
      refine ⟨h.nd, by simp, fun a ha b hb e => ?_⟩
      have : b = p.2.2 := by simpa using hb
      exact hpd ((hmem p hp).1 (by rw [← this, ← e]; exact ha))
    · exact Store.next_put_lt _ _ hlt
theorem Rng.entry_ {it m ck : Nat} {l done : Ents} {p : Int × Value × Nat} (h : Rng σ it m l ck (done ++ [p])) : entryL (.pointer (some ⟨it, 0, none⟩)) σ.get = some (.tuple #[.int .i64 p.1, p.2.1]) := by
  have hp : p ∈ l := h.sub p (by simp)
  have hl : ((done ++ [p]).map (·.2.2)).getLast? = some p.2.2 := by simp
  have hf : (ents l).find? (fun e => Nat.beq e.born p.2.2) = some { key := .int .i64 p.1, val := p.2.1, born := p.2.2 } := by
    have : ∀ l : Ents, (l.map (·.2.2)).Nodup → p ∈ l → (ents l).find? (fun e => Nat.beq e.born p.2.2) = some { key := .int .i64 p.1, val := p.2.1, born := p.2.2 } := by
      intro l hn hp
      induction l with
      | nil => cases hp
      | cons a l ih =>
        rw [List.map_cons, List.nodup_cons] at hn
        unfold ents
        rw [List.map_cons, List.find?_cons]
        rcases List.mem_cons.1 hp with rfl | hp
        · simp [Nat.beq_refl]
        · have hne : Nat.beq a.2.2 p.2.2 = false := by
            cases hb : Nat.beq a.2.2 p.2.2 with
            | false => rfl
            | true => exact absurd (List.mem_map.2 ⟨p, hp, (Nat.eq_of_beq_eq_true hb).symm⟩) hn.1
          simp only [hne]
          exact ih hn.2 hp
    exact this l h.clk.2.1 hp
  have h2 : Nat.beq ck ck = true := Nat.beq_refl _
  unfold entryL
  simp only [h.it, h.m, hl, h2, cond_true, hf]
theorem range_map {m ck : Nat} {l : Ents} (h : σ.get m = some (.map (ents l) ck)) (hc : Clk l ck) : rangeH (.map (some m)) σ = some (ptrTo σ.next, σ.push (.iter (some m) ck [] ck)) ∧ Rng (σ.push (.iter (some m) ck [] ck)) σ.next m l ck [] := by
  refine ⟨by simp only [rangeH, h], Store.get_push_same _ _, ?_, hc, fun p hp => absurd hp List.not_mem_nil, List.nodup_nil⟩
  rw [Store.get_push_lt (Store.lt_of_get h), h]
end Go.Am
