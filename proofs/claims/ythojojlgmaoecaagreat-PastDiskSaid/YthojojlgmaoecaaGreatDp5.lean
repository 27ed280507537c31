/- What a disk holds is what its history says: without a program. -/
import Derived.Test.YthojojlgmaoecaaGreatCt5
import Derived.Test.YthojojlgmaoecaaGreatDsm
import Derived.Test.YthojojlgmaoecaaGreatLod
import Derived.Test.YthojojlgmaoecaaGreatCrs
set_option linter.all false
set_option maxRecDepth 100000
set_option maxHeartbeats 800000
namespace Go.Proofs.YthojojlgmaoecaaGreat
open Go.Am Go.Sort
variable {f g : Int → Option (List Int)} {H M R : List OP} {ks : List Bool} {L : List HB} {n : Int} {s : DS}
theorem split_left : ∀ k, k ≤ H.length → splitL (H ++ M) k = splitL H k
  | 0, _ => rfl
  | k + 1, hk => by
    have ih := split_left k (by omega)
    unfold splitL
    rw [getD_left (by omega), ih]
theorem pend_left {a i : Nat} (h : i ≤ H.length) : pendR (H ++ M) a i = pendR H a i := by
  unfold pendR
  refine List.filter_congr fun x hx => ?_
  have := List.mem_range'_1.1 hx
  rw [getD_left (by omega)]
theorem nb_wrF (o : OP) : nbF (wrF f o) = if o.1 = 1 then keepF (nbF f) o.2.1 o.2.2 else nbF f := by
  unfold wrF
  split
  · funext x
    unfold nbF keepF
    by_cases hx : x = o.2.1
    · simp only [if_pos hx]
    · simp only [if_neg hx]
  · rfl
def wrs (R : List OP) : List HB := (R.filter fun o => decide (o.1 = 1)).map (·.2)
theorem nb_fold : ∀ (R : List OP) (g : Int → Option (List Int)), nbF (sureF g R) = barHeld (nbF g) (wrs R)
  | [], g => rfl
  | o :: R, g => by
    have ih := nb_fold R (wrF g o)
    show nbF (sureF (wrF g o) R) = _
    rw [ih, nb_wrF]
    unfold wrs
    by_cases h : o.1 = 1
    · rw [if_pos h, List.filter_cons, if_pos (decide_eq_true h)]; rfl
    · rw [if_neg h, List.filter_cons, if_neg (by simp [h])]
def gd2 (H : List OP) (j : Nat) : HB := (H.getD j (0, 0, [])).2
theorem pend_drop {a : Nat} : ∀ i, a ≤ i → i ≤ H.length → (pendR H a i).map (gd2 H) = wrs ((H.take i).drop a) := by
  intro i
  induction i with
  | zero =>
    intro h _
    have : a = 0 := by omega
    subst this
    rfl
  | succ i ih =>
    intro h1 h2
    by_cases ha : a = i + 1
    · subst ha
      have e1 : pendR H (i + 1) (i + 1) = [] := by unfold pendR; rw [Nat.sub_self]; rfl
      have e2 : (H.take (i + 1)).drop (i + 1) = [] := List.drop_of_length_le (by rw [List.length_take]; omega)
      rw [e1, e2]; rfl
    · have ih := ih (by omega) (by omega)
      obtain ⟨o, ho⟩ : ∃ o, H[i]? = some o := ⟨_, List.getElem?_eq_getElem (by omega)⟩
      have hg : H.getD i (0, 0, []) = o := by rw [List.getD_eq_getElem?_getD, ho]; rfl
      have ht : (H.take (i + 1)).drop a = (H.take i).drop a ++ [o] := by
        rw [List.take_succ, ho]
        show (H.take i ++ [o]).drop a = _
        rw [List.drop_append_of_le_length (by rw [List.length_take]; omega)]
      rw [pendR_succ H (by omega), List.map_append, ih, ht, hg]
      unfold wrs
      rw [List.filter_append, List.map_append, List.filter_cons]
      by_cases hk : o.1 = 1
      · rw [if_pos hk, if_pos (decide_eq_true hk)]
        have e : gd2 H i = o.2 := by unfold gd2; rw [hg]
        rw [List.map_singleton, e]; rfl
      · rw [if_neg hk, if_neg (by simp [hk])]
        simp
/-- A disk and its history. -/
structure PD (n : Int) (L : List HB) (H : List OP) (s : DS) : Prop where
  n : s.n = n
  dead : s.dead = false
  fuse : s.fuse < 0
  hist : s.hist = H
  held : s.held = nbF (sureF (ldF (fun _ => none) L) (H.take (splitL H H.length)))
  wait : s.wait = (pendL H H.length).map (gd2 H)
theorem PD.start (h : okIm n L) : PD n L [] (DS.load n L) := by
  refine ⟨rfl, rfl, by show (-1 : Int) < 0; decide, rfl, ?_, rfl⟩
  show ldF (fun _ => none) L = nbF (ldF (fun _ => none) L)
  funext x
  unfold nbF
  cases hx : ldF (fun _ => none) L x with
  | none => rfl
  | some b =>
    have := ((load_W h).held x b hx).2.2
    show some b = if b = zb then none else some b
    rw [if_neg this]
theorem burnt5 (hf : s.fuse < 0) : s.burnt.dead = s.dead ∧ s.burnt.fuse = s.fuse := by
  unfold DS.burnt
  rw [if_neg (by omega)]
  refine ⟨rfl, ?_⟩
  show (if 0 < s.fuse then s.fuse - 1 else s.fuse) = s.fuse
  rw [if_neg (by omega)]
theorem PD.write {i : Int} {b : List Int} (h : PD n L H s) (h0 : 0 ≤ i) (h1 : i < n) : (s.write i b).1 = 0 ∧ PD n L (H ++ [(1, i, b)]) (s.write i b).2 := by
  have e : s.write i b = (0, { s.burnt with wait := s.wait ++ [(i, b)], hist := s.hist ++ [(1, i, b)] }) := by
    unfold DS.write
    rw [h.dead, if_neg (by simp), if_neg (by have := h.n; omega), if_neg (by have := h.fuse; omega)]
  rw [e]
  obtain ⟨b1, b2, b3, b4, _⟩ := burnt_same s
  obtain ⟨b5, b6⟩ := burnt5 h.fuse
  have hl : (H ++ [((1, i, b) : OP)]).length = H.length + 1 := by simp
  have hgl : ((H ++ [((1, i, b) : OP)]).getD H.length (0, 0, [])) = (1, i, b) := by
    have := getD_right (O := H) (M := [((1, i, b) : OP)]) (j := 0)
    rw [Nat.add_zero] at this
    rw [this]; rfl
  have hs : splitL (H ++ [((1, i, b) : OP)]) (H.length + 1) = splitL H H.length := by
    conv => lhs; unfold splitL
    rw [hgl, if_neg (by show ¬ ((1 : Int) = 2); decide), split_left _ (Nat.le_refl _)]
  have hsl := splitL_le H H.length
  refine ⟨rfl, ⟨by show s.burnt.n = n; rw [b1, h.n], by show s.burnt.dead = false; rw [b5, h.dead], by show s.burnt.fuse < 0; rw [b6]; exact h.fuse, by show s.hist ++ _ = _; rw [h.hist], ?_, ?_⟩⟩
  · show s.burnt.held = _
    rw [b2, h.held, hl, hs, List.take_append_of_le_length hsl]
  · show s.wait ++ [(i, b)] = _
    rw [hl]
    unfold pendL
    rw [hs, pendR_succ _ hsl, pend_left (Nat.le_refl _), hgl, if_pos (by rfl), List.map_append, h.wait]
    congr 1
    · refine List.map_congr_left fun j hj => ?_
      unfold gd2
      rw [getD_left (pendL_lt hj)]
    · simp [gd2, hgl]
theorem PD.barrier (h : PD n L H s) : s.barrier.1 = 0 ∧ PD n L (H ++ [bar]) s.barrier.2 := by
  have e : s.barrier = (0, { s.burnt with held := barHeld s.held s.wait, wait := [], hist := s.hist ++ [(2, 0, zb)] }) := by
    unfold DS.barrier
    rw [h.dead, if_neg (by simp), if_neg (by have := h.fuse; omega)]
  rw [e]
  obtain ⟨b1, b2, b3, b4, _⟩ := burnt_same s
  obtain ⟨b5, b6⟩ := burnt5 h.fuse
  have hl : (H ++ [bar]).length = H.length + 1 := by simp
  have hgl : ((H ++ [bar]).getD H.length (0, 0, [])) = bar := by
    have := getD_right (O := H) (M := [bar]) (j := 0)
    rw [Nat.add_zero] at this
    rw [this]; rfl
  have hsl := splitL_le H H.length
  refine ⟨rfl, ⟨by show s.burnt.n = n; rw [b1, h.n], by show s.burnt.dead = false; rw [b5, h.dead], by show s.burnt.fuse < 0; rw [b6]; exact h.fuse, by show s.hist ++ _ = _; rw [h.hist]; rfl, ?_, ?_⟩⟩
  · show barHeld s.held s.wait = _
    rw [hl, split_bar (by rw [hgl]; rfl), ← hl, List.take_length, h.held, h.wait]
    unfold pendL
    rw [pend_drop _ hsl (Nat.le_refl _), List.take_length, ← nb_fold]
    have e1 : sureF (sureF (ldF (fun _ => none) L) (H.take (splitL H H.length))) (H.drop (splitL H H.length)) = sureF (ldF (fun _ => none) L) H := by
      unfold sureF
      rw [← List.foldl_append, List.take_append_drop]
    have e2 : sureF (ldF (fun _ => none) L) (H ++ [bar]) = sureF (ldF (fun _ => none) L) H := by
      unfold sureF
      rw [List.foldl_append]
      have hw : ∀ g, wrF g bar = g := fun g => by
        unfold wrF
        rw [if_neg (by show ¬ ((2 : Int) = 1); decide)]
      exact hw _
    rw [e1, e2]
  · show [] = _
    rw [hl, pend_bar (by rw [hgl]; rfl)]; rfl
theorem heldI_open {P : List Nat} (hP : ∀ j ∈ P, (H.getD j (0, 0, [])).1 = 1) : ∀ i, i ≤ P.length → heldI (nbF g) (P.map (gd2 H)) ks i = nbF (openF g H P ks i)
  | 0, _ => rfl
  | i + 1, hi => by
    have ih := heldI_open hP i (by omega)
    have h1 : P.getD i 0 ∈ P := by
      rw [List.getD_eq_getElem?_getD, List.getElem?_eq_getElem (by omega : i < P.length)]
      exact List.getElem_mem _
    have h2 : (P.map (gd2 H)).getD i (0, []) = gd2 H (P.getD i 0) := by
      rw [List.getD_eq_getElem?_getD, List.getD_eq_getElem?_getD, List.getElem?_map, List.getElem?_eq_getElem (by omega)]; rfl
    unfold heldI openF
    rw [ih, h2]
    split
    · rw [nb_wrF, if_pos (hP _ h1)]; rfl
    · rfl
/-- What a disk holds when its power has gone. -/
theorem PD.crash (h : PD n L H s) : (s.crash ks).held = nbF (aftF L H H.length ks) := by
  show heldI s.held s.wait ks s.wait.length = _
  rw [h.held, h.wait, List.length_map]
  exact heldI_open (fun j hj => pend_wr hj) _ (Nat.le_refl _)
end Go.Proofs.YthojojlgmaoecaaGreat
