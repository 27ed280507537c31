/- Maps over whole numbers, how many entries they have. -/
import Derived.Test.YthojojlgmaoecaaGreatAm34
set_option linter.all false
namespace Go.Am
variable {P : Program} {σ σ' : Store}
def MapC (σ : Store) (r : Nat) (f : Int → Option Value) (n : Nat) : Prop := ∃ l ck, σ.get r = some (.map (ents l) ck) ∧ Clk l ck ∧ (∀ x, eget l x = f x) ∧ l.length = n
theorem MapC.at_ {r n : Nat} {f : Int → Option Value} (h : MapC σ r f n) : MapAt σ r f := by
  obtain ⟨l, ck, h1, h2, h3, _⟩ := h
  exact ⟨l, ck, h1, h2, h3⟩
theorem MapC.same {r n : Nat} {f : Int → Option Value} (h : MapC σ r f n) (hg : σ'.get r = σ.get r) : MapC σ' r f n := by
  obtain ⟨l, ck, h1, h2⟩ := h
  exact ⟨l, ck, by rw [hg, h1], h2⟩
theorem MapC.lt {r n : Nat} {f : Int → Option Value} (h : MapC σ r f n) : r < σ.next := h.at_.lt
theorem MapC.new {r : Nat} (h : σ.get r = some (.map [] 0)) : MapC σ r (fun _ => none) 0 := ⟨[], 0, h, Clk.nil 0, fun _ => rfl, rfl⟩
theorem MapC.ext {r n n' : Nat} {f g : Int → Option Value} (h : MapC σ r f n) (e : ∀ x, g x = f x) (en : n' = n) : MapC σ r g n' := by
  obtain ⟨l, ck, h1, h2, h3, h4⟩ := h
  exact ⟨l, ck, h1, h2, fun x => by rw [e, h3], by rw [en, h4]⟩
theorem MapC.len {r n : Nat} {f : Int → Option Value} (h : MapC σ r f n) : lenMap (.map (some r)) σ.get = some (.int .i64 n) := by
  obtain ⟨l, ck, h1, h2, h3, h4⟩ := h
  unfold lenMap
  simp only [h1]
  simp [ents, h4]
theorem eset_len (x : Int) (v : Value) : ∀ l : Ents, (eset l x v).length = l.length
  | [] => rfl
  | p :: l => by
    unfold eset
    by_cases h : p.1 = x
    · rw [if_pos h]; simp
    · rw [if_neg h]; simp [eset_len x v l]
theorem eput_len (l : Ents) (ck : Nat) (x : Int) (v : Value) : (eput l ck x v).1.length = if (eget l x).isSome then l.length else l.length + 1 := by
  unfold eput eget
  cases hf : efind l x 0 with
  | none => simp
  | some iu => simp [eset_len]
theorem MapC.upd {r n : Nat} {f : Int → Option Value} (h : MapC σ r f n) (x : Int) (v : Value) : ∃ o, updH (.int .i64) (.map (some r)) (.int .i64 x) v σ = some (junk, σ.put r (some o)) ∧ MapC (σ.put r (some o)) r (fun y => if y = x then some v else f y) (if (f x).isSome then n else n + 1) := by
  obtain ⟨l, ck, h1, h2, h3, h4⟩ := h
  refine ⟨.map (ents (eput l ck x v).1) (eput l ck x v).2, ?_, _, _, Store.get_put_same _ _ _, ?_, fun y => ?_, ?_⟩
  · simp only [updH, h1, findNow_ents]
    cases hf : efind l x 0 with
    | none => simp [eput, hf, ents]
    | some iu =>
      obtain ⟨i, u⟩ := iu
      obtain ⟨_, h4⟩ := eset_modify x v l 0 i u hf
      simp only [Nat.sub_zero] at h4
      simp [eput, hf, h4]
  · exact h2.eput x v
  · rw [eget_eput, h3]
  · rw [eput_len, h3, h4]
theorem MapC.del {r n : Nat} {f : Int → Option Value} (h : MapC σ r f n) (x : Int) : ∃ o, delH (.int .i64) (.map (some r)) (.int .i64 x) σ = some (junk, σ.put r (some o)) ∧ MapC (σ.put r (some o)) r (fun y => if y = x then none else f y) (if (f x).isSome then n - 1 else n) := by
  obtain ⟨l, ck, h1, h2, h3, h4⟩ := h
  cases hf : efind l x 0 with
  | none =>
    have h0 : f x = none := by rw [← h3]; simp [eget, hf]
    refine ⟨.map (ents l) ck, by simp only [delH, h1, findNow_ents, hf], l, ck, Store.get_put_same _ _ _, h2, fun y => ?_, by rw [h0]; exact h4⟩
    by_cases hy : y = x
    · subst hy; simp [eget, hf]
    · simp [hy, h3]
  | some iu =>
    obtain ⟨i, u⟩ := iu
    have h0 : f x = some u := by rw [← h3]; simp [eget, hf]
    obtain ⟨_, h5, h6⟩ := erase_ents l 0 i u hf
    rw [Nat.sub_zero] at h5 h6
    have hi : i < l.length := by
      have : ∀ (l : Ents) (k j : Nat) (u : Value), efind l x k = some (j, u) → j < k + l.length := by
        intro l
        induction l with
        | nil => intro k j u h; cases h
        | cons p l ih =>
          intro k j u h
          unfold efind at h
          by_cases hp : p.1 = x
          · rw [if_pos hp] at h; cases h; simp
          · rw [if_neg hp] at h; have := ih _ _ _ h; simp only [List.length_cons]; omega
      have := this _ _ _ _ hf
      omega
    refine ⟨.map (ents (l.eraseIdx i)) ck, by simp only [delH, h1, findNow_ents, hf, h5], _, ck, Store.get_put_same _ _ _, ?_, fun y => ?_, ?_⟩
    · exact h2.erase i
    · rw [h6 h2.1, h3]
    · rw [h0, List.length_eraseIdx_of_lt hi, h4]; rfl
theorem MapC.look {r n : Nat} {f : Int → Option Value} (h : MapC σ r f n) (z : Value) (x : Int) : lookupH (.int .i64) z (.map (some r)) (.int .i64 x) true σ.get = some (match f x with | some v => .tuple #[v, .bool true] | none => .tuple #[z, .bool false]) := h.at_.look z x
end Go.Am
