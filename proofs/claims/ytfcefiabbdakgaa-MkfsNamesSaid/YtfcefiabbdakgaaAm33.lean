/- The abstract machine, part 33: maps over whole numbers and slices that grow, as things that stand in a store. No program in sight. -/
import Derived.Test.YtfcefiabbdakgaaAm32
set_option linter.all false
namespace Go.Am
open Go.RowKit
variable {P : Program} {σ σ' : Store}

/-! ## maps -/
def keysE (l : Ents) : List Int := l.map (·.1)
def MapAt (σ : Store) (r : Nat) (f : Int → Option Value) : Prop := ∃ l ck, σ.get r = some (.map (ents l) ck) ∧ (keysE l).Nodup ∧ ∀ x, eget l x = f x
theorem MapAt.same {r : Nat} {f : Int → Option Value} (h : MapAt σ r f) (hg : σ'.get r = σ.get r) : MapAt σ' r f := by
  obtain ⟨l, ck, h1, h2, h3⟩ := h
  exact ⟨l, ck, by rw [hg, h1], h2, h3⟩
theorem MapAt.lt {r : Nat} {f : Int → Option Value} (h : MapAt σ r f) : r < σ.next := by
  obtain ⟨l, ck, h1, _⟩ := h
  exact Store.lt_of_get h1
theorem MapAt.new {r : Nat} (h : σ.get r = some (.map [] 0)) : MapAt σ r (fun _ => none) := ⟨[], 0, h, List.nodup_nil, fun _ => rfl⟩
theorem eget_none {l : Ents} {x : Int} : eget l x = none ↔ x ∉ keysE l := by
  induction l with
  | nil => simp [eget, efind, keysE]
  | cons p l ih =>
    rw [eget_cons]
    simp only [keysE, List.map_cons, List.mem_cons, not_or] at ih ⊢
    by_cases h : p.1 = x
    · simp [h]
    · have h' : ¬ x = p.1 := fun e => h e.symm
      simp [h, h', ih]
theorem keys_eset (x : Int) (v : Value) : ∀ l : Ents, keysE (eset l x v) = keysE l
  | [] => rfl
  | p :: l => by
    unfold eset
    by_cases h : p.1 = x
    · rw [if_pos h]; simp [keysE, h]
    · rw [if_neg h]
      have := keys_eset x v l
      simp only [keysE, List.map_cons] at this ⊢
      rw [this]
theorem MapAt.upd {r : Nat} {f : Int → Option Value} (h : MapAt σ r f) (x : Int) (v : Value) : ∃ o, updH (.int .i64) (.map (some r)) (.int .i64 x) v σ = some (junk, σ.put r (some o)) ∧ MapAt (σ.put r (some o)) r (fun y => if y = x then some v else f y) := by
  obtain ⟨l, ck, h1, h2, h3⟩ := h
  refine ⟨.map (ents (eput l ck x v).1) (eput l ck x v).2, ?_, _, _, Store.get_put_same _ _ _, ?_, fun y => ?_⟩
  · simp only [updH, h1, findNow_ents]
    cases hf : efind l x 0 with
    | none => simp [eput, hf, ents]
    | some iu =>
      obtain ⟨i, u⟩ := iu
      obtain ⟨_, h4⟩ := eset_modify x v l 0 i u hf
      simp only [Nat.sub_zero] at h4
      simp [eput, hf, h4]
  · unfold eput
    cases hf : efind l x 0 with
    | none =>
      have h0 : eget l x = none := by simp [eget, hf]
      simp only [keysE, List.map_append, List.map_cons, List.map_nil]
      rw [List.nodup_append]
      refine ⟨h2, by simp, fun a ha b hb => ?_⟩
      have : b = x := by simpa using hb
      subst this
      exact fun e => (eget_none.1 h0) (e ▸ ha)
    | some iu => rw [keys_eset]; exact h2
  · rw [eget_eput, h3]
theorem entsOf_map {r : Nat} {l : Ents} {ck : Nat} (h : σ.get r = some (.map (ents l) ck)) : entsOf (.map (some r)) σ.get = some (ents l) := by simp [entsOf, h]
theorem MapAt.look {r : Nat} {f : Int → Option Value} (h : MapAt σ r f) (z : Value) (x : Int) : lookupH (.int .i64) z (.map (some r)) (.int .i64 x) true σ.get = some (match f x with | some v => .tuple #[v, .bool true] | none => .tuple #[z, .bool false]) := by
  obtain ⟨l, ck, h1, h2, h3⟩ := h
  simp only [lookupH, entsOf_map h1, findNow_ents, ← h3 x, eget]
  cases efind l x 0 <;> rfl
theorem MapAt.look1 {r : Nat} {f : Int → Option Value} (h : MapAt σ r f) (z : Value) (x : Int) : lookupH (.int .i64) z (.map (some r)) (.int .i64 x) false σ.get = some ((f x).getD z) := by
  obtain ⟨l, ck, h1, h2, h3⟩ := h
  simp only [lookupH, entsOf_map h1, findNow_ents, ← h3 x, eget]
  cases efind l x 0 <;> rfl
theorem erase_ents {x : Int} : ∀ (l : Ents) (i j : Nat) (u : Value), efind l x i = some (j, u) → i ≤ j ∧ (ents l).eraseIdx (j - i) = ents (l.eraseIdx (j - i)) ∧ ((keysE l).Nodup → ∀ y, eget (l.eraseIdx (j - i)) y = if y = x then none else eget l y)
  | [], i, j, u, h => by cases h
  | p :: l, i, j, u, h => by
    unfold efind at h
    by_cases hp : p.1 = x
    · rw [if_pos hp] at h
      cases h
      refine ⟨Nat.le_refl _, by simp [ents], fun hn y => ?_⟩
      simp only [Nat.sub_self, List.eraseIdx_cons_zero]
      simp only [keysE, List.map_cons, List.nodup_cons] at hn
      rw [eget_cons]
      by_cases hy : y = x
      · subst hy
        rw [if_pos rfl]
        exact eget_none.2 (by rw [← hp]; exact hn.1)
      · rw [if_neg hy, if_neg (by rw [hp]; exact fun e => hy e.symm)]
    · rw [if_neg hp] at h
      obtain ⟨h1, h2, h3⟩ := erase_ents l (i + 1) j u h
      have e : j - i = (j - (i + 1)) + 1 := by omega
      refine ⟨by omega, ?_, fun hn y => ?_⟩
      · rw [e]
        simp only [ents, List.map_cons, List.eraseIdx_cons_succ] at h2 ⊢
        rw [h2]
      · rw [e, List.eraseIdx_cons_succ, eget_cons, eget_cons]
        simp only [keysE, List.map_cons, List.nodup_cons] at hn
        rw [h3 hn.2 y]
        by_cases hy : y = x
        · subst hy; simp [hp]
        · simp [hy]
theorem keys_erase : ∀ (l : Ents) (i : Nat), keysE (l.eraseIdx i) = (keysE l).eraseIdx i
  | [], i => rfl
  | p :: l, 0 => rfl
  | p :: l, i + 1 => by
    have := keys_erase l i
    simp only [keysE, List.map_cons, List.eraseIdx_cons_succ] at this ⊢
    rw [this]
theorem MapAt.del {r : Nat} {f : Int → Option Value} (h : MapAt σ r f) (x : Int) : ∃ o, delH (.int .i64) (.map (some r)) (.int .i64 x) σ = some (junk, σ.put r (some o)) ∧ MapAt (σ.put r (some o)) r (fun y => if y = x then none else f y) := by
  obtain ⟨l, ck, h1, h2, h3⟩ := h
  cases hf : efind l x 0 with
  | none =>
    refine ⟨.map (ents l) ck, by simp only [delH, h1, findNow_ents, hf], l, ck, Store.get_put_same _ _ _, h2, fun y => ?_⟩
    by_cases hy : y = x
    · subst hy; simp [eget, hf]
    · simp [hy, h3]
  | some iu =>
    obtain ⟨i, u⟩ := iu
    obtain ⟨_, h4, h5⟩ := erase_ents l 0 i u hf
    rw [Nat.sub_zero] at h4 h5
    refine ⟨.map (ents (l.eraseIdx i)) ck, by simp only [delH, h1, findNow_ents, hf, h4], _, ck, Store.get_put_same _ _ _, ?_, fun y => ?_⟩
    · rw [keys_erase]
      exact h2.sublist (List.eraseIdx_sublist _ _)
    · rw [h5 h2, h3]
theorem MapAt.clr {r : Nat} {f : Int → Option Value} (h : MapAt σ r f) : ∃ o, clearV (.map (some r)) σ = some (junk, σ.put r (some o)) ∧ MapAt (σ.put r (some o)) r (fun _ => none) := by
  obtain ⟨l, ck, h1, h2, h3⟩ := h
  exact ⟨.map [] ck, by simp only [clearV, h1], [], ck, Store.get_put_same _ _ _, List.nodup_nil, fun _ => rfl⟩

/-! ## slices that grow -/
def idsV : Value → List Nat
  | .slice (some a) _ _ => [a.block]
  | _ => []
/-- A slice that its owner alone has, made by append: so many elements of sz cells. -/
def SlG (σ : Store) (sz : Nat) (v : Value) (n : Nat) (c : List Value) : Prop :=
  c.length = n * sz ∧ ((n = 0 ∧ v = .slice none 0 0) ∨ ∃ i, v = .slice (some ⟨i, 0, some sz⟩) n n ∧ σ.get i = some (.cells c (some sz)) ∧ 0 < n)
theorem SlG.nil {sz : Nat} : SlG σ sz (.slice none 0 0) 0 [] := ⟨by simp, .inl ⟨rfl, rfl⟩⟩
theorem SlG.same {sz n : Nat} {v : Value} {c : List Value} (h : SlG σ sz v n c) (hg : ∀ i ∈ idsV v, σ'.get i = σ.get i) : SlG σ' sz v n c := by
  refine ⟨h.1, ?_⟩
  rcases h.2 with h0 | ⟨i, rfl, h2, h3⟩
  · exact .inl h0
  · exact .inr ⟨i, rfl, by rw [hg i (by simp [idsV]), h2], h3⟩
theorem SlG.lt {sz n : Nat} {v : Value} {c : List Value} (h : SlG σ sz v n c) : ∀ i ∈ idsV v, i < σ.next := by
  rcases h.2 with ⟨_, rfl⟩ | ⟨i, rfl, h2, h3⟩
  · intro i hi; simp [idsV] at hi
  · intro j hj
    have : j = i := by simpa [idsV] using hj
    rw [this]; exact Store.lt_of_get h2
theorem SlG.r {sz n : Nat} {v : Value} {c : List Value} (h : SlG σ sz v n c) : SlR σ sz v n c := by
  refine ⟨h.1, ?_⟩
  rcases h.2 with ⟨h0, h1⟩ | ⟨i, rfl, h2, h3⟩
  · exact .inl ⟨h0, 0, h1⟩
  · exact .inr ⟨i, 0, some sz, n, _, c, rfl, .inr rfl, h2, rfl, by rw [List.drop_zero, ← h.1, List.take_length]⟩
theorem SlG.len {sz n : Nat} {v : Value} {c : List Value} (h : SlG σ sz v n c) : lenSl v = some (.int .i64 (n : Nat)) := h.r.len
theorem SlG.app {sz by_ n j k : Nat} {g gj : Option Nat} {v : Value} {c news : List Value} (h : SlG σ sz v n c) (hj : σ.get j = some (.cells news g)) (hl : news.length = sz) (hb : (n + 1) * by_ ≤ 140737488355328) (hn : n + 1 ≤ 9223372036854775807) (hs : 0 < sz) :
    ∃ s', appendV sz by_ v (.slice (some ⟨j, 0, gj⟩) 1 k) σ = some (.slice (some ⟨σ.next, 0, some sz⟩) (n + 1) (n + 1), s') ∧ SlG s' sz (.slice (some ⟨σ.next, 0, some sz⟩) (n + 1) (n + 1)) (n + 1) (c ++ news) ∧ s'.next = σ.next + 1 ∧ ∀ i, i < σ.next → i ∉ idsV v → s'.get i = σ.get i := by
  have hlen := h.1
  rcases h.2 with ⟨rfl, rfl⟩ | ⟨i, rfl, h2, h3⟩
  · have hc : c = [] := List.eq_nil_of_length_eq_zero (by rw [hlen]; simp)
    subst hc
    refine ⟨_, append_nil (m := 0) hj (by simp [hl]) (by simpa using hb) (by omega), ⟨by simp [hl], .inr ⟨_, rfl, ?_, by omega⟩⟩, Store.next_push _ _, fun i hi _ => Store.get_push_lt hi⟩
    rw [Store.get_push_same]; rfl
  · have hi := Store.lt_of_get h2
    have hnx : (σ.put i none).next = σ.next := Store.next_put_lt _ _ hi
    have e : (σ.put i none).push (.cells (c ++ news) (some sz)) = (σ.put i none).put σ.next (some (.cells (c ++ news) (some sz))) := by unfold Store.push; rw [hnx]
    refine ⟨_, append_full (m := 0) h2 hlen hj (by simp [hl]) hb hn, ⟨by simp [hlen, hl, Nat.succ_mul], .inr ⟨_, rfl, ?_, by omega⟩⟩, ?_, fun x hx hxi => ?_⟩
    · rw [e, Store.get_put_same]
    · rw [Store.next_push, hnx]
    · have hne : x ≠ i := by simpa [idsV] using hxi
      rw [Store.get_push_lt (by omega), Store.get_put_ne _ _ hne]

/-! ## what a call may change -/
/-- Of what was there only F is changed; F' is what it has become. -/
structure Upd (F : List Nat) (σ σ' : Store) (F' : List Nat) : Prop where
  next : σ.next ≤ σ'.next
  ids : ∀ j ∈ F', j < σ'.next ∧ (j ∈ F ∨ σ.next ≤ j)
  same : ∀ j, j < σ.next → j ∉ F → σ'.get j = σ.get j
theorem Upd.trans {F F' F'' : List Nat} {a b c : Store} (h : Upd F a b F') (k : Upd F' b c F'') : Upd F a c F'' where
  next := Nat.le_trans h.next k.next
  ids j hj := by
    obtain ⟨h1, h2⟩ := k.ids j hj
    refine ⟨h1, ?_⟩
    rcases h2 with h2 | h2
    · exact (h.ids j h2).2
    · exact .inr (Nat.le_trans h.next h2)
  same j hj hn := by
    have h1 := h.same j hj hn
    by_cases hF : j ∈ F'
    · rcases (h.ids j hF).2 with h2 | h2
      · exact absurd h2 hn
      · omega
    · rw [k.same j (Nat.lt_of_lt_of_le hj h.next) hF, h1]
theorem Upd.refl {F : List Nat} {σ : Store} (h : ∀ j ∈ F, j < σ.next) : Upd F σ σ F := ⟨Nat.le_refl _, fun j hj => ⟨h j hj, .inl hj⟩, fun _ _ _ => rfl⟩
theorem Keeps.upd {σ σ' : Store} (h : Keeps σ σ') : Upd [] σ σ' [] := ⟨h.1, fun j hj => absurd hj (List.not_mem_nil), fun j hj _ => h.2 j hj⟩
end Go.Am
