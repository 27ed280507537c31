/- What a log's blocks are behind writes and commits. No program in sight. -/
import Derived.Test.YtkmalbaollffiaaStr
import Derived.Test.YtkmalbaollffiaaL8c
import Derived.Test.YtkmalbaollffiaaBlk
import Derived.Test.YtkmalbaollffiaaRec
set_option linter.all false
set_option maxRecDepth 100000
set_option maxHeartbeats 400000
namespace Go.Proofs.Ytkmalbaollffiaa
open Go.Am
variable {g : Geo} {s : DS} {w : WS} {m bn : Nat} {T : List Int}
def lastW : List DOp → Int → Option (List Int)
  | [], _ => none
  | .w i b :: r, x => (lastW r x).or (if i = x then some b else none)
  | .bar :: r, x => lastW r x
theorem lastW_app : ∀ (a b : List DOp) (x : Int), lastW (a ++ b) x = (lastW b x).or (lastW a x)
  | [], b, x => by simp [lastW]
  | .w i c :: a, b, x => by
    simp only [List.cons_append, lastW, lastW_app a b x]
    rw [Option.or_assoc]
  | .bar :: a, b, x => by
    simp only [List.cons_append, lastW, lastW_app a b x]
theorem lastW_none : ∀ {l : List DOp} {x : Int}, (∀ i b, DOp.w i b ∈ l → i ≠ x) → lastW l x = none
  | [], _, _ => rfl
  | .w i c :: a, x, h => by
    simp only [lastW]
    rw [lastW_none fun i b hb => h i b (List.mem_cons_of_mem _ hb), if_neg (h i c (List.mem_cons_self ..))]
    rfl
  | .bar :: a, x, h => by
    simp only [lastW]
    exact lastW_none fun i b hb => h i b (List.mem_cons_of_mem _ hb)
theorem putW {o : List (Int × List Int)} (hn : (ordL o).Nodup) {y : Int} {b : List Int} : ∀ n, n ≤ o.length → (lastW (putOps o n) y = some b ↔ (y, b) ∈ o.take n)
  | 0, _ => by simp [putOps, lastW]
  | n + 1, h => by
    have ih := putW hn (y := y) (b := b) n (by omega)
    have hp : o[n]? = some o[n] := List.getElem?_eq_getElem (by omega)
    have e : o.getD n (0, []) = o[n] := by rw [List.getD_eq_getElem?_getD, hp]; rfl
    rw [List.take_add_one, hp]
    show lastW (putOps o n ++ [.w (o.getD n (0, [])).1 (o.getD n (0, [])).2]) y = some b ↔ _
    rw [e, lastW_app]
    simp only [lastW, Option.none_or, Option.toList_some, List.mem_append, List.mem_singleton]
    by_cases hy : (o[n]'(by omega)).1 = y
    · rw [if_pos hy]
      constructor
      · intro hh
        have hh : (o[n]'(by omega)).2 = b := by simpa using hh
        exact .inr (by rw [← hy, ← hh])
      · rintro (hh | hh)
        · obtain ⟨j, hj, ej⟩ := List.getElem_of_mem hh
          have hjn : j < n := by simp at hj; omega
          have hjo : (ordL o)[j]? = some y := by
            unfold ordL
            rw [List.getElem?_map, List.getElem?_eq_getElem (show j < o.length by omega)]
            have : o[j]'(by omega) = (y, b) := by rw [← ej]; simp
            rw [this]; rfl
          have hno : (ordL o)[n]? = some y := by
            unfold ordL
            rw [List.getElem?_map, hp]
            simp [hy]
          have : j = n := by
            have hjl : j < (ordL o).length := (List.getElem?_eq_some_iff.1 hjo).1
            exact (List.getElem?_inj hjl hn).1 (by rw [hjo, hno])
          omega
        · rw [← hh]; rfl
    · rw [if_neg hy]
      simp only [Option.none_or]
      rw [ih]
      constructor
      · exact .inl
      · rintro (hh | hh)
        · exact hh
        · exact absurd (by rw [← hh]) hy
/-- Blocks behind the log, told. -/
def TW (bn : Nat) (T : List Int) (w : WS) (s : DS) : Prop := T.length = bn * 1024 ∧ ∀ x : Nat, x < bn → (T.drop (x * 1024)).take 1024 = w.at s (1 + w.g.log + x)
theorem TW.same {w' : WS} {s' : DS} (h : TW bn T w s) (hg : w'.g = w.g) (ha : ∀ y, 1 + w.g.log ≤ y → w'.at s' y = w.at s y) : TW bn T w' s' := ⟨h.1, fun x hx => by
  rw [h.2 x hx, hg, ha _ (by omega)]⟩
theorem TW.write {x : Nat} {b : List Int} (h : TW bn T w s) (hW : WOk w) (hx : x < bn) (hb : b.length = 1024) (h0 : (w.write (1 + w.g.log + x) b).1 = 0) : TW bn (layB T (x * 1024) b) (w.write (1 + w.g.log + x) b).2 s := by
  have hl := h.1
  obtain ⟨k1, _⟩ := write_keeps w (1 + w.g.log + x) b
  refine ⟨by rw [layB_len (by omega), hl], fun y hy => ?_⟩
  rw [layB_at hb (by omega) (by omega), k1]
  unfold WS.at
  rw [(write_yes h0).1, getG_put hW.nodup]
  by_cases e : y = x
  · rw [if_pos e, if_pos (by rw [e])]; rfl
  · rw [if_neg e, if_neg (by omega), h.2 y hy]; rfl
def chB (bn : Nat) (B : List Int) (p : Int × Int) : List Int := layB B ((p.1 % (bn : Nat)).toNat * 1024) (blk p.2)
def stepB (bn : Nat) (B : List Int) (l : List (Int × Int)) : List Int := l.foldl (chB bn) B
theorem stepB_take (B : List Int) {l : List (Int × Int)} {j : Nat} {p : Int × Int} (h : l[j]? = some p) : stepB bn B (l.take (j + 1)) = chB bn (stepB bn B (l.take j)) p := by
  unfold stepB
  rw [List.take_add_one, h, List.foldl_append]
  rfl
end Go.Proofs.Ytkmalbaollffiaa
