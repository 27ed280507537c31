/- What may be left of a disk on which mkfs was stopped. No program in sight. -/
import Derived.Test.YtchfpepbdnjhmaaKmk
set_option linter.all false
set_option maxRecDepth 100000
set_option maxHeartbeats 400000
namespace Go.Proofs.Ytchfpepbdnjhmaa
open Go.Am
variable {g : Geo} {f h : Int → Option (List Int)} {ks : List Bool}
theorem heldI_off {w : List HB} {y : Int} (hw : ∀ p ∈ w, p.1 ≠ y) : ∀ i, i ≤ w.length → heldI h w ks i y = h y
  | 0, _ => rfl
  | i + 1, hi => by
    have ih := heldI_off hw i (by omega)
    have e : w.getD i (0, []) = w[i] := by rw [List.getD_eq_getElem?_getD, List.getElem?_eq_getElem (show i < w.length by omega)]; rfl
    unfold heldI
    split
    · rw [e]
      unfold keepF
      rw [if_neg (fun hy => hw _ (List.getElem_mem _) hy.symm)]
      exact ih
    · exact ih
def leftF (l : List DOp) (f : Int → Option (List Int)) (ks : List Bool) : Int → Option (List Int) := heldI (effL l (f, [])).1 (effL l (f, [])).2 ks (effL l (f, [])).2.length
theorem cut_opsG {P : List HB} {S : List Int} (hP : ∀ p ∈ P, p.1 ≠ 0) {t : Nat} (ht : t ≤ P.length + 5) :
    (t < 2 ∧ leftF ((opsG P S).take t) f ks = f) ∨ leftF ((opsG P S).take t) f ks 0 = none ∨ leftF ((opsG P S).take t) f ks = barHeld (barHeld (barHeld f [(0, zb)]) P) [(0, S)] := by
  have h10 : barHeld f [(0, zb)] 0 = none := by
    show keepF f 0 zb 0 = none
    unfold keepF
    rw [if_pos rfl, if_pos rfl]
  have h20 : barHeld (barHeld f [(0, zb)]) P 0 = none := by
    rw [barHeld_fn, lastOf_none.2 hP]; exact h10
  match t, ht with
  | 0, _ => exact .inl ⟨by omega, rfl⟩
  | 1, _ =>
    have e : leftF ((opsG P S).take 1) f ks = if ks.getD 0 false then keepF f 0 zb else f := rfl
    rw [e]
    split
    · right; left
      unfold keepF
      rw [if_pos rfl, if_pos rfl]
    · exact .inl ⟨by omega, rfl⟩
  | t + 2, ht =>
    right
    have e0 : ∀ l, leftF (DOp.w 0 zb :: DOp.bar :: l) f ks = heldI (effL l (barHeld f [(0, zb)], [])).1 (effL l (barHeld f [(0, zb)], [])).2 ks (effL l (barHeld f [(0, zb)], [])).2.length := fun l => rfl
    have e1 : (opsG P S).take (t + 2) = DOp.w 0 zb :: DOp.bar :: (opsW P ++ ([DOp.bar] ++ [DOp.w 0 S, DOp.bar])).take t := by
      unfold opsG
      rw [List.cons_append, List.cons_append, List.take_succ_cons, List.take_succ_cons, List.append_assoc]
    have hl : (opsW P).length = P.length := by simp [opsW]
    rw [e1, e0]
    by_cases h1 : t ≤ P.length
    · left
      have e2 : (opsW P ++ ([DOp.bar] ++ [DOp.w 0 S, DOp.bar])).take t = opsW (P.take t) := by
        rw [List.take_append_of_le_length (by omega)]
        simp [opsW]
      rw [e2, effW]
      simp only [List.nil_append]
      rw [heldI_off (fun p hp => hP p (List.mem_of_mem_take hp)) _ (Nat.le_refl _)]
      exact h10
    · have e2 : (opsW P ++ ([DOp.bar] ++ [DOp.w 0 S, DOp.bar])).take t = opsW P ++ ([DOp.bar] ++ [DOp.w 0 S, DOp.bar]).take (t - P.length) := by
        rw [List.take_append, List.take_of_length_le (by omega), hl]
      rw [e2, effL_app, effW]
      simp only [List.nil_append]
      obtain ⟨j, hj⟩ : ∃ j, t - P.length = j := ⟨_, rfl⟩
      rw [hj]
      match j, (show 1 ≤ j ∧ j ≤ 3 by omega) with
      | 1, _ =>
        left
        show heldI (barHeld (barHeld f [(0, zb)]) P) [] ks 0 0 = none
        exact h20
      | 2, _ =>
        have e3 : heldI (effL (([DOp.bar] ++ [DOp.w 0 S, DOp.bar]).take 2) (barHeld f [(0, zb)], P)).1 (effL (([DOp.bar] ++ [DOp.w 0 S, DOp.bar]).take 2) (barHeld f [(0, zb)], P)).2 ks (effL (([DOp.bar] ++ [DOp.w 0 S, DOp.bar]).take 2) (barHeld f [(0, zb)], P)).2.length = if ks.getD 0 false then keepF (barHeld (barHeld f [(0, zb)]) P) 0 S else barHeld (barHeld f [(0, zb)]) P := rfl
        rw [e3]
        split
        · right; rfl
        · left; exact h20
      | 3, _ =>
        right; rfl
theorem cut_mk (hg : g.ok) {t : Nat} (ht : t ≤ mkL g) : (t < 2 ∧ leftF ((mkOps g).take t) f ks = f) ∨ leftF ((mkOps g).take t) f ks 0 = none ∨ leftF ((mkOps g).take t) f ks = doneF g f := by
  obtain ⟨g1, g2, g3, g4, g5, g6, g7⟩ := geo_nat hg
  exact cut_opsG (fun p hp e => by have := (midW_in hg hp).1; omega) ht
end Go.Proofs.Ytchfpepbdnjhmaa
