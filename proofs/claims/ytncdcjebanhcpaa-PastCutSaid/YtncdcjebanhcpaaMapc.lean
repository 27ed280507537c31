/- Maps over whole numbers, how many entries they have. -/
import Derived.Test.YtncdcjebanhcpaaAm34
set_option linter.all false
namespace Go.Am
variable {P : Program} {σ σ' : Store}
def MapC (σ : Store) (r : Nat) (f : Int → Option Value) (n : Nat) : Prop := ∃ l ck, σ.get r = some (.map (ents l) ck) ∧ Clk l ck ∧ (∀ x, eget l x = f x) ∧ l.length = n
theorem MapC.at_ {r n : Nat} {f : Int → Option Value} (h : MapC σ r f n) : MapAt σ r f := by
  obtain ⟨l, ck, h1, h2, h3, _⟩ := h
  exact ⟨l, ck, h1, h2, h3⟩
theorem MapC.same {r n : Nat} {f : Int → Option Value} (h : MapC σ r f n) (hg : σ'.get r = σ.get r) : MapC σ' r f n := by
  obtain ⟨l, ck, h1, h2⟩ := h
  exact ⟨l, ck, by rw [hg, h1], h2⟩
theorem MapC.lt {r n : Nat} {f : Int → Option Value} (h : MapC σ r f n) : r < σ.next := h.at_.lt
theorem MapC.new {r : Nat} (h : σ.get r = some (.map [] 0)) : MapC σ r (fun _ => none) 0 := ⟨[], 0, h, Clk.nil 0, fun _ => rfl, rfl⟩
theorem MapC.ext {r n n' : Nat} {f g : Int → Option Value} (h : MapC σ r f n) (e : ∀ x, g x = f x) (en : n' = n) : MapC σ r g n' := by
  obtain ⟨l, ck, h1, h2, h3, h4⟩ := h
  exact ⟨l, ck, h1, h2, fun x => by rw [e, h3], by rw [en, h4]⟩
theorem MapC.len {r n : Nat} {f : Int → Option Value} (h : MapC σ r f n) : lenMap (.map (some r)) σ.get = some (.int .i64 n) := by
  obtain ⟨l, ck, h1, h2, h3, h4⟩ := h
  unfold lenMap
  simp only [h1]
  simp [ents, h4]
theorem eset_len (x : Int) (v : Value) : ∀ l : Ents, (eset l x v).length = l.length
  | [] => rfl
  | p :: l => by
    unfold eset
    by_cases h : p.1 = x
    · rw [if_pos h]; simp
    · rw [if_neg h]; simp [eset_len x v l]
theorem eput_len (l : Ents) (ck : Nat) (x : Int) (v : Value) : (eput l ck x v).1.length = if (eget l x).isSome then l.length else l.length + 1 := by
  unfold eput eget
  cases hf : efind l x 0 with
  | none => simp
  | some iu => simp [eset_len]
theorem MapC.upd {r n : Nat} {f : Int → Option Value} (h : MapC σ r f n) (x : Int) (v : Value) : ∃ o, updH (.int .i64) (.map (some r)) (.int .i64 x) v σ = some (junk, σ.put r (some o)) ∧ MapC (σ.put r (some o)) r (fun y => if y = x then some v else f y) (if (f x).isSome then n else n + 1) := by
  obtain ⟨l, ck, h1, h2, h3, h4⟩ := h
  refine ⟨.map (ents (eput l ck x v).1) (eput l ck x v).2, ?_, _, _, Store.get_put_same _ _ _, ?_, fun y => ?_, ?_⟩
  · simp only [updH, h1, findNow_ents]
    cases hf : efind l x 0 with
    | none => simp [eput, hf, ents]
    | some iu =>
      obtain ⟨i, u⟩ := iu
      obtain ⟨_, h4⟩ := eset_modify x v l 0 i u hf
      simp only [Nat.sub_zero] at h4
      simp [eput, hf, h4]
  · exact h2.eput x v
  · rw [eget_eput, h3]
  · rw [eput_len, h3, h4]
theorem MapC.look {r n : Nat} {f : Int → Option Value} (h : MapC σ r f n) (z : Value) (x : Int) : lookupH (.int .i64) z (.map (some r)) (.int .i64 x) true σ.get = some (match f x with | some v => .tuple #[v, .bool true] | none => .tuple #[z, .bool false]) := h.at_.look z x
end Go.Am
