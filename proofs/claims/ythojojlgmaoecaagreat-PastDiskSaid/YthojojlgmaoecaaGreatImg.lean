/- What a disk holds, as a list that rises. -/
import Derived.Test.YthojojlgmaoecaaGreatOpq
import Derived.Test.YthojojlgmaoecaaGreatSrt
set_option linter.all false
set_option maxRecDepth 100000
set_option maxHeartbeats 400000
namespace Go.Proofs.YthojojlgmaoecaaGreat
open Go.Am Go.Sort
abbrev HB := Int × List Int
def encH (x : HB) : List Value := .int .i64 x.1 :: bc ((x.2 ++ zb).take 1024)
theorem encH_len (x : HB) : (encH x).length = 1025 := by simp [encH, zb_len]
theorem encH_sc (x : HB) : (encH x).all scalar = true := by
  unfold encH
  rw [List.all_cons, bc_scalar]; rfl
theorem encH_key (x : HB) : (encH x)[0]! = .int .i64 x.1 := rfl
theorem swo_ltH : SWO fun x y : HB => decide (x.1 < y.1) :=
  ⟨fun x => by simp, fun x y z h1 h2 => by simp only [decide_eq_true_eq] at *; omega, fun x y z h1 h2 => by simp only [decide_eq_false_iff_not] at *; omega⟩
theorem flat_wait : ∀ {L : List HB}, (∀ p ∈ L, p.2.length = 1024) → flatL encH L = waitC L
  | [], _ => rfl
  | (i, b) :: L, h => by
    have ih := flat_wait (L := L) fun p hp => h p (List.mem_cons_of_mem _ hp)
    have hb := h (i, b) List.mem_cons_self
    have e : flatL encH ((i, b) :: L) = encH (i, b) ++ flatL encH L := by simp [flatL]
    have e2 : (b ++ zb).take 1024 = b := List.take_left' hb
    rw [e, ih]
    unfold encH
    rw [e2]; rfl
/-- A list that rises, of all that is held. -/
structure HeldL (f : Int → Option (List Int)) (L : List HB) : Prop where
  asc : L.Pairwise fun a b => a.1 < b.1
  mem : ∀ p, p ∈ L ↔ f p.1 = some p.2
theorem HeldL.nodup {f : Int → Option (List Int)} {L : List HB} (h : HeldL f L) : L.Nodup := h.asc.imp fun hab e => by rw [e] at hab; omega
theorem HeldL.uniq {f : Int → Option (List Int)} {L L' : List HB} (h : HeldL f L) (h' : HeldL f L') : L = L' :=
  List.Perm.eq_of_pairwise (le := fun a b : HB => a.1 < b.1) (fun a b _ _ h1 h2 => by omega) h.asc h'.asc ((List.perm_ext_iff_of_nodup h.nodup h'.nodup).2 fun p => (h.mem p).trans (h'.mem p).symm)
theorem HeldL.keys {f : Int → Option (List Int)} {L : List HB} (h : HeldL f L) : (L.map (·.1)).Nodup := by
  unfold List.Nodup
  rw [List.pairwise_map]
  exact h.asc.imp fun hab e => by omega
theorem nodup_ints {l : List Int} (h : l.Nodup) {n : Int} (hr : ∀ x ∈ l, 0 ≤ x ∧ x < n) : (l.length : Int) ≤ n ∨ l = [] := by
  by_cases h0 : l = []
  · exact .inr h0
  · left
    have h1 : (l.map Int.toNat).Nodup := by
      unfold List.Nodup at h ⊢
      rw [List.pairwise_map]
      refine List.Pairwise.imp_of_mem ?_ h
      intro a b ha hb hab e
      have := hr a ha; have := hr b hb
      omega
    have h2 := length_sub (l := List.range n.toNat) h1 fun x hx => by
      obtain ⟨y, hy, rfl⟩ := List.mem_map.1 hx
      have := hr y hy
      rw [List.mem_range]; omega
    rw [List.length_map, List.length_range] at h2
    obtain ⟨y, hy⟩ := List.exists_mem_of_ne_nil l h0
    have := hr y hy
    omega
/-- All that is held and waits is in the disk; nothing that is held is blank. -/
structure DS.W (s : DS) : Prop where
  held : ∀ x b, s.held x = some b → 0 ≤ x ∧ x < s.n ∧ b ≠ zb
  wait : ∀ p ∈ s.wait, 0 ≤ p.1 ∧ p.1 < s.n
theorem HeldL.few {s : DS} (hw : s.W) (hn : 0 < s.n) {L : List HB} (h : HeldL s.held L) : (L.length : Int) ≤ s.n := by
  rcases nodup_ints h.keys (n := s.n) fun x hx => by
    obtain ⟨p, hp, rfl⟩ := List.mem_map.1 hx
    have := hw.held _ _ ((h.mem p).1 hp)
    exact ⟨this.1, this.2.1⟩ with h1 | h1
  · rw [List.length_map] at h1; exact h1
  · have : L = [] := by simpa using h1
    rw [this]; simp; omega
def ofB (v : Value) : List Int := match v with | .agg xs => xs.toList.map (fun x => match x with | .int _ n => n | _ => 0) | _ => []
theorem ofB_bv (b : List Int) : ofB (bv b) = b := by
  unfold ofB bv bc
  simp only [List.map_map]
  conv => rhs; rw [← List.map_id b]
  exact List.map_congr_left fun x _ => rfl
def ofE (l : Ents) : List HB := l.map fun p => (p.1, ofB p.2.1)
theorem eget_mem : ∀ {l : Ents}, (keysE l).Nodup → ∀ p ∈ l, eget l p.1 = some p.2.1
  | [], _, p, hp => absurd hp List.not_mem_nil
  | q :: l, h, p, hp => by
    rw [eget_cons]
    have h : q.1 ∉ keysE l ∧ (keysE l).Nodup := by simpa [keysE] using h
    rcases List.mem_cons.1 hp with rfl | hp
    · rw [if_pos rfl]
    · rw [if_neg (fun e => h.1 (by rw [e]; exact List.mem_map.2 ⟨p, hp, rfl⟩)), eget_mem h.2 p hp]
theorem mem_eget {l : Ents} {x : Int} {v : Value} (h : eget l x = some v) : ∃ p ∈ l, p.1 = x ∧ p.2.1 = v := by
  induction l with
  | nil => simp [eget, efind] at h
  | cons q l ih =>
    rw [eget_cons] at h
    split at h
    · rename_i hq
      cases h
      exact ⟨q, List.mem_cons_self, hq, rfl⟩
    · obtain ⟨p, hp, e⟩ := ih h
      exact ⟨p, List.mem_cons_of_mem _ hp, e⟩
/-- The entries of a map of blocks, in whatever order, sorted. -/
theorem srt_held {f : Int → Option (List Int)} {l done : Ents} (hk : (keysE l).Nodup) (hf : ∀ x, eget l x = (f x).map bv) (hp : done.Perm l) : HeldL f (srt (fun x y : HB => decide (x.1 < y.1)) (ofE done)) := by
  have hperm := srt_perm swo_ltH (ofE done)
  have hm : ∀ p : HB, p ∈ ofE done ↔ f p.1 = some p.2 := fun p => by
    unfold ofE
    constructor
    · intro hp'
      obtain ⟨q, hq, rfl⟩ := List.mem_map.1 hp'
      have h1 := eget_mem hk q (hp.mem_iff.1 hq)
      rw [hf] at h1
      cases hfq : f q.1 with
      | none => rw [hfq] at h1; cases h1
      | some b =>
        rw [hfq] at h1
        have : bv b = q.2.1 := by simpa using h1
        show _ = some (ofB q.2.1)
        rw [← this, ofB_bv]
    · intro h
      have h1 : eget l p.1 = some (bv p.2) := by rw [hf, h]; rfl
      obtain ⟨q, hq, e1, e2⟩ := mem_eget h1
      exact List.mem_map.2 ⟨q, hp.mem_iff.2 hq, by rw [e1, e2, ofB_bv]⟩
  refine ⟨?_, fun p => hperm.mem_iff.trans (hm p)⟩
  have hkeys : ((ofE done).map (·.1)).Nodup := by
    unfold ofE
    rw [List.map_map]
    have : (done.map ((fun x : HB => x.1) ∘ fun p => (p.1, ofB p.2.1))) = keysE done := rfl
    rw [this]
    exact (hp.map _).nodup_iff.2 hk
  have hk2 : ((srt (fun x y : HB => decide (x.1 < y.1)) (ofE done)).map (·.1)).Nodup := (hperm.map _).nodup_iff.2 hkeys
  have hs := srt_sorted swo_ltH (ofE done)
  unfold List.Nodup at hk2
  rw [List.pairwise_map] at hk2
  exact (hs.and hk2).imp fun ⟨h1, h2⟩ => by
    simp only [decide_eq_false_iff_not] at h1
    omega
end Go.Proofs.YthojojlgmaoecaaGreat
