/- What is done up to a barrier and then the rest: without a program; and what is put behind a slice. -/
import Derived.Test.YtncdcjebanhcpaaSam5
set_option linter.all false
set_option maxRecDepth 100000
set_option maxHeartbeats 800000
namespace Go.Proofs.Ytncdcjebanhcpaa
open Go.Am Go.Sort
variable {σ : Store} {f g : Int → Option (List Int)} {O M P : List OP} {ks : List Bool}
theorem getD_left {j : Nat} (h : j < O.length) : (O ++ M).getD j (0, 0, []) = O.getD j (0, 0, []) := by
  rw [List.getD_eq_getElem?_getD, List.getD_eq_getElem?_getD, List.getElem?_append_left h]
theorem getD_right {j : Nat} : (O ++ M).getD (O.length + j) (0, 0, []) = M.getD j (0, 0, []) := by
  rw [List.getD_eq_getElem?_getD, List.getD_eq_getElem?_getD, List.getElem?_append_right (by omega), show O.length + j - O.length = j by omega]
def bar : OP := (2, 0, zb)
theorem split_cut : ∀ j, splitL ((P ++ [bar]) ++ M) ((P ++ [bar]).length + j) = (P ++ [bar]).length + splitL M j
  | 0 => by
    have e : (P ++ [bar]).length + 0 = P.length + 1 := by simp
    rw [e]
    have h1 : (((P ++ [bar]) ++ M).getD P.length (0, 0, [])).1 = 2 := by
      rw [getD_left (by simp), show P.length = P.length + 0 from rfl, getD_right]; rfl
    rw [split_bar h1]
    simp [splitL]
  | j + 1 => by
    have ih := split_cut j
    have e : (P ++ [bar]).length + (j + 1) = ((P ++ [bar]).length + j) + 1 := by omega
    rw [e]
    conv => lhs; unfold splitL
    rw [getD_right]
    conv => rhs; unfold splitL
    split
    · omega
    · exact ih
theorem pend_cut : pendL ((P ++ [bar]) ++ M) ((P ++ [bar]).length + M.length) = (pendL M M.length).map ((P ++ [bar]).length + ·) := by
  unfold pendL pendR
  rw [split_cut, show (P ++ [bar]).length + M.length - ((P ++ [bar]).length + splitL M M.length) = M.length - splitL M M.length by omega, ← List.map_add_range', List.filter_map]
  congr 1
  refine List.filter_congr fun x _ => ?_
  simp only [Function.comp_apply]
  rw [getD_right]
theorem open_map {Q : List Nat} {d : Nat} (hd : d = O.length) : ∀ i, i ≤ Q.length → openF f (O ++ M) (Q.map (d + ·)) ks i = openF f M Q ks i
  | 0, _ => rfl
  | i + 1, hi => by
    have ih : openF f (O ++ M) (Q.map (d + ·)) ks i = openF f M Q ks i := open_map hd i (by omega)
    have h1 : (Q.map (d + ·)).getD i 0 = d + Q.getD i 0 := by
      rw [List.getD_eq_getElem?_getD, List.getD_eq_getElem?_getD, List.getElem?_map, List.getElem?_eq_getElem (by omega)]; rfl
    unfold openF
    rw [ih, h1, hd, getD_right]
theorem aft_bar {L : List HB} : aftF L (P ++ [bar]) (P ++ [bar]).length [] = sureF (ldF (fun _ => none) L) (P ++ [bar]) := by
  unfold aftF
  have h1 := split_cut (P := P) (M := []) 0
  rw [List.append_nil] at h1
  have h1 : splitL (P ++ [bar]) (P ++ [bar]).length = (P ++ [bar]).length := h1
  rw [openF_none (ks := []) (fun i => rfl), h1, List.take_length]
theorem aft_cut {L : List HB} : aftF L ((P ++ [bar]) ++ M) ((P ++ [bar]).length + M.length) ks = openF (sureF (sureF (ldF (fun _ => none) L) (P ++ [bar])) (M.take (splitL M M.length))) M (pendL M M.length) ks (pendL M M.length).length := by
  unfold aftF
  rw [pend_cut, List.length_map, open_map rfl _ (Nat.le_refl _), split_cut, List.take_length_add_append]
  congr 1
  unfold sureF
  rw [List.foldl_append]
theorem nb_wr (h : nbF f = nbF g) (o : OP) : nbF (wrF f o) = nbF (wrF g o) := by
  unfold wrF
  split
  · funext x
    have := congrFun h x
    unfold nbF at this ⊢
    by_cases hx : x = o.2.1
    · simp only [if_pos hx]
    · simp only [if_neg hx]; exact this
  · exact h
theorem nb_sure (h : nbF f = nbF g) : nbF (sureF f O) = nbF (sureF g O) := by
  unfold sureF
  induction O generalizing f g with
  | nil => exact h
  | cons o O ih => exact ih (nb_wr h o)
theorem nb_open {Q : List Nat} (h : nbF f = nbF g) : ∀ i, nbF (openF f O Q ks i) = nbF (openF g O Q ks i)
  | 0 => h
  | i + 1 => by
    have ih : nbF (openF f O Q ks i) = nbF (openF g O Q ks i) := nb_open h i
    unfold openF
    split
    · exact nb_wr ih _
    · exact ih
theorem nb_nb : nbF (nbF f) = nbF f := by
  funext x
  unfold nbF
  cases f x with
  | none => rfl
  | some b =>
    by_cases h : b = zb
    · simp [h]
    · simp [h]
theorem hist_app (O M : List OP) : histC (O ++ M) = histC O ++ histC M := by
  induction O with
  | nil => rfl
  | cons o O ih => rw [List.cons_append, histC_cons, histC_cons, ih, List.append_assoc]
theorem SlG_cap {sz n : Nat} {v : Value} {c : List Value} (h : SlG σ sz v n c) : CapOk v := by
  rcases h.2 with ⟨_, rfl⟩ | ⟨i, rfl, _⟩
  · intro p n k e; cases e; exact Nat.le_refl _
  · intro p n k e; cases e; exact Nat.le_refl _
/-- A slice's elements are put behind a slice that grows. -/
theorem SlG_appr {sz by_ n m : Nat} {v w : Value} {c news : List Value} (h : SlG σ sz v n c) (hw : SlR σ sz w m news) (hb : (n + m) * by_ ≤ 140737488355328) (hn : n + m ≤ 9223372036854775807) :
    ∃ v' s', appendV sz by_ v w σ = some (v', s') ∧ SlG s' sz v' (n + m) (c ++ news) ∧ σ.next ≤ s'.next ∧ (∀ i, i < σ.next → i ∉ idsV v → s'.get i = σ.get i) ∧ ∀ j ∈ idsV v', j ∈ idsV v ∨ σ.next ≤ j := by
  have hsrc : ∃ k, lenV w = some m ∧ sourceV sz m w σ = some news ∧ k = m := by
    rcases hw.2 with ⟨rfl, k, rfl⟩ | ⟨i, o, g, k, obj, d, rfl, h2, h3, h4, h5⟩
    · have : news = [] := List.eq_nil_of_length_eq_zero (by rw [hw.1]; simp)
      subst this
      exact ⟨0, rfl, rfl, rfl⟩
    · refine ⟨m, rfl, ?_, rfl⟩
      have hca : cellsAt ⟨i, o, g⟩ σ = some (d.drop o) := by
        unfold cellsAt
        simp only [h3]
        cases obj with
        | cells c g' => cases h4; rfl
        | lent c => cases h4; rfl
        | map e c => cases h4
        | iter a b c d => cases h4
      have hle : m * sz ≤ (d.drop o).length := by
        have h6 := hw.1
        rw [← h5, List.length_take] at h6
        omega
      unfold sourceV
      simp only [hca, Nat.ble_eq_true_of_le hle, cond_true, h5]
  obtain ⟨_, hl, hs, _⟩ := hsrc
  have hlen := h.1
  have hwl := hw.1
  rcases Nat.eq_zero_or_pos m with h0 | h0
  · subst h0
    have : news = [] := List.eq_nil_of_length_eq_zero (by rw [hwl]; simp)
    subst this
    refine ⟨v, σ, ?_, by rw [List.append_nil]; exact h, Nat.le_refl _, fun i _ _ => rfl, fun j hj => .inl hj⟩
    rcases h.2 with ⟨rfl, rfl⟩ | ⟨i, rfl, h2, h3⟩
    · simp [appendV, hl, hs]
    · simp [appendV, hl, hs, h2, Nat.ble_eq_true_of_le (Nat.le_refl n)]
  · obtain ⟨t, rfl⟩ : ∃ t, m = t + 1 := ⟨m - 1, by omega⟩
    rcases h.2 with ⟨rfl, rfl⟩ | ⟨i, rfl, h2, h3⟩
    · have hc : c = [] := List.eq_nil_of_length_eq_zero (by rw [hlen]; simp)
      subst hc
      rw [Nat.zero_add] at hb hn ⊢
      refine ⟨.slice (some ⟨σ.next, 0, some sz⟩) (t + 1) (t + 1), σ.push (.cells news (some sz)), ?_, ⟨by rw [List.nil_append]; exact hwl, .inr ⟨_, rfl, by rw [Store.get_push_same]; rfl, by omega⟩⟩, by rw [Store.next_push]; omega, fun i hi _ => Store.get_push_lt hi, fun j hj => .inr (by have : j = σ.next := (by simpa [idsV] using hj); omega)⟩
      simp [appendV, hl, hs, Nat.ble_eq_true_of_le hb, Nat.ble_eq_true_of_le hn]
    · have hi := Store.lt_of_get h2
      have hnx : (σ.put i none).next = σ.next := Store.next_put_lt _ _ hi
      have e : (σ.put i none).push (.cells (c ++ news) (some sz)) = (σ.put i none).put σ.next (some (.cells (c ++ news) (some sz))) := by unfold Store.push; rw [hnx]
      have q0 : Nat.ble (n + (t + 1)) n = false := by
        cases hx : Nat.ble (n + (t + 1)) n with
        | false => rfl
        | true => have := Nat.le_of_ble_eq_true hx; omega
      have q2 : c.take (n * sz) = c := List.take_of_length_le (by omega)
      refine ⟨.slice (some ⟨σ.next, 0, some sz⟩) (n + (t + 1)) (n + (t + 1)), (σ.put i none).push (.cells (c ++ news) (some sz)), ?_, ⟨by rw [List.length_append, hlen, hwl]; exact (Nat.add_mul n (t + 1) sz).symm, .inr ⟨_, rfl, by rw [e, Store.get_put_same], by omega⟩⟩, by rw [Store.next_push, hnx]; omega, fun x hx hxi => ?_, fun j hj => .inr (by have : j = σ.next := (by simpa [idsV] using hj); omega)⟩
      · simp [appendV, hl, hs, h2, q0, q2, Nat.ble_eq_true_of_le hb, Nat.ble_eq_true_of_le hn, hlen, Nat.ble_eq_true_of_le (Nat.le_refl (n * sz))]
      · have hne : x ≠ i := by simpa [idsV] using hxi
        rw [Store.get_push_lt (by omega), Store.get_put_ne _ _ hne]
end Go.Proofs.Ytncdcjebanhcpaa
