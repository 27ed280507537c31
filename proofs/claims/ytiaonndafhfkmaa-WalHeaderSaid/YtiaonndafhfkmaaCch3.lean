/- Contracts of the package cache. -/
import Derived.Test.YtiaonndafhfkmaaCch2
set_option linter.all false
set_option maxRecDepth 100000
set_option maxHeartbeats 400000
namespace Go.Proofs.Ytiaonndafhfkmaa
open Go.Am
abbrev View := Int → Option (List Int × Bool)
def viewOf (row : List Lk) : View := fun x => (look row x).map fun k => (k.data, k.fast)
def Cache (σ : Store) (c d : Nat) (size fast : Int) (v : View) (F : List Nat) : Prop := ∃ hm s, CAt σ c hm s ∧ s.d = d ∧ s.size = size ∧ s.fast = fast ∧ viewOf s.row = v ∧ F = cids c hm s.row
/-- The same but for one place; some that are not held fast may have gone. -/
def Shrink (v v' : View) (x : Int) : Prop := ∀ y, y ≠ x → v' y = v y ∨ (v' y = none ∧ ∃ b, v y = some (b, false))
variable {σ σ' : Store} {c hm d m : Nat} {s : CS} {k : Lk} {t : DS} {F G : List Nat} {Q : Value → Store → Prop} {size fast : Int} {v : View}
theorem Cache.lt (h : Cache σ c d size fast v F) : ∀ j ∈ F, j < σ.next := by
  obtain ⟨hm, s, h, _, _, _, _, rfl⟩ := h
  exact h.lt
theorem Cache.mem (h : Cache σ c d size fast v F) : c ∈ F := by
  obtain ⟨hm, s, h, _, _, _, _, rfl⟩ := h
  simp [cids]
theorem Cache.same (h : Cache σ c d size fast v F) (hg : ∀ j ∈ F, σ'.get j = σ.get j) : Cache σ' c d size fast v F := by
  obtain ⟨hm, s, h, h1, h2, h3, h4, rfl⟩ := h
  exact ⟨hm, s, h.same hg, h1, h2, h3, h4, rfl⟩
theorem Cache.data (h : Cache σ c d size fast v F) {x : Int} {b : List Int} {f : Bool} (hv : v x = some (b, f)) : b.length = 1024 := by
  obtain ⟨hm, s, h, h1, h2, h3, rfl, rfl⟩ := h
  unfold viewOf at hv
  cases hl : look s.row x with
  | none => rw [hl] at hv; cases hv
  | some k =>
    rw [hl] at hv; cases hv
    exact h.len k ((look_iff h.ats).1 hl).1
/-- What of a row is shrunk by room. -/
theorem shrink_room {row row' : List Lk} (hn : (row.map (·.at_)).Nodup) (h : row' = row ∨ ∃ (i : Nat) (k : Lk), row[i]? = some k ∧ k.fast = false ∧ row' = row.eraseIdx i) (y : Int) : viewOf row' y = viewOf row y ∨ (viewOf row' y = none ∧ ∃ b, viewOf row y = some (b, false)) := by
  rcases h with rfl | ⟨i, k, hk, hf, rfl⟩
  · exact .inl rfl
  · obtain ⟨A, B, e1, e2, e3⟩ := split_row hk
    have hn2 := hn
    rw [e1] at hn
    unfold viewOf
    rw [e3, look_mid hn]
    by_cases hy : y = k.at_
    · right
      rw [if_pos hy]
      refine ⟨rfl, k.data, ?_⟩
      rw [hy, (look_iff hn2).2 ⟨List.mem_of_getElem? hk, rfl⟩, ← hf]; rfl
    · left
      rw [if_neg hy, e1]
theorem look_get {row : List Lk} {x : Int} {k : Lk} (h : look row x = some k) : ∃ i : Nat, row[i]? = some k := by
  have := List.mem_of_find?_eq_some h
  obtain ⟨i, hi, e⟩ := List.getElem_of_mem this
  exact ⟨i, by rw [List.getElem?_eq_getElem hi, e]⟩
theorem look_at {row : List Lk} {x : Int} {k : Lk} (h : look row x = some k) : k.at_ = x := by
  have := List.find?_some h
  simpa using this
theorem view_again {row : List Lk} (hn : (row.map (·.at_)).Nodup) {i : Nat} {k k' : Lk} (hk : row[i]? = some k) (he : k'.at_ = k.at_) (y : Int) : look (row.eraseIdx i ++ [k']) y = if y = k.at_ then some k' else look row y := by
  obtain ⟨A, B, e1, e2, e3⟩ := split_row hk
  have hn2 := hn
  rw [e1] at hn
  have hne : ∀ z ∈ row.eraseIdx i, z.at_ ≠ k'.at_ := by
    rw [e3, he]
    intro z hz e
    exact look_none.1 (show look (A ++ B) k.at_ = none by rw [look_mid hn, if_pos rfl]) z hz e
  rw [look_app y hne, he]
  by_cases hy : y = k.at_
  · rw [if_pos hy, if_pos hy]
  · rw [if_neg hy, if_neg hy, e3, look_mid hn, if_neg hy, e1]
theorem fin_upd {F F' G : List Nat} (hF : ∀ j ∈ F, j < σ.next) (hG : ∀ j ∈ G, j < σ.next) (hA : Apart F G) (hF' : ∀ j ∈ F', j ∈ F ∨ σ.next ≤ j) (hl : ∀ j ∈ F', j < σ'.next) (hn : σ.next ≤ σ'.next) (hf : ∀ j, j < σ.next → j ∉ F → j ∉ G → σ'.get j = σ.get j) : Apart F' G ∧ Upd (F ++ G) σ σ' (F' ++ G) := by
  refine ⟨fun j hj hg => ?_, hn, fun j hj => ?_, fun j hj hn => ?_⟩
  · rcases hF' j hj with h1 | h1
    · exact hA j h1 hg
    · have := hG j hg; omega
  · rcases List.mem_append.1 hj with h1 | h1
    · refine ⟨hl j h1, ?_⟩
      rcases hF' j h1 with h2 | h2
      · exact .inl (List.mem_append_left _ h2)
      · exact .inr h2
    · exact ⟨by have := hG j h1; omega, .inl (List.mem_append_right _ h1)⟩
  · exact hf j hj (fun h => hn (List.mem_append_left _ h)) (fun h => hn (List.mem_append_right _ h))
/-- Reading: what is held, or what the disk has. -/
theorem cread_ (h : Cache σ c d size fast v F) (hd : Disk σ d t G) (hA : Apart F G) (hC : t.C m) (hm0 : m < 2 ^ 29) (hdead : t.dead = false) {x : Int} (h0 : 0 ≤ x) (h1 : x < t.n) (hv : (v x).isSome ∨ fast < size)
    (hq : ∀ σ' v' F' t', Cache σ' c d size fast v' F' → Disk σ' d t' G → Apart F' G → Upd (F ++ G) σ σ' (F' ++ G) → t' = (if (v x).isSome then t else (t.read x).2.2) → Shrink v v' x → v' x = some ((v x).getD (t.at x, false)) → Q (.tuple #[.agg ⟨bc ((v x).getD (t.at x, false)).1⟩, .int .i64 0]) σ') :
    Does Try.prog 57 [.pointer (some ⟨c, 0, none⟩), .int .i64 x] σ Q := by
  refine d57 ?_
  have hFG : ∀ j ∈ F ++ G, j < σ.next := fun j hj => by
    rcases List.mem_append.1 hj with hj | hj
    · exact h.lt j hj
    · exact hd.lt j hj
  obtain ⟨hm, s, h, rfl, rfl, rfl, rfl, rfl⟩ := h
  have hlt := h.lt
  have k1 : Keeps σ (σ.push (.cells (bc zb) none)) := (Keeps.refl σ).push _
  have h' := h.same (σ' := σ.push (.cells (bc zb) none)) fun j hj => k1.2 j (hlt j hj)
  have hd' := hd.later k1
  have hz : (σ.push (.cells (bc zb) none)).get σ.next = some (.cells (bc zb) none) := Store.get_push_same _ _
  have hn1 : (σ.push (.cells (bc zb) none)).next = σ.next + 1 := Store.next_push _ _
  simp -implicitDefEqProofs (maxSteps := 2000000) (disch := first|assumption|omega|rfl|(simp only[RD];done)|(simp only[RD];omega)) only [RN,Int.reduceBEq,Int.reduceBNe,Int.reduceLT,Int.reduceLE,Int.reduceAdd,Int.reduceSub,Int.reduceMul,Nat.reduceAdd,↓bc_flatz,↓bc_flat16,↓agg_bytez, p57]
  generalize hσ1 : σ.push (.cells (bc zb) none) = σ1 at h' hd' hz hn1 k1 ⊢
  clear hσ1
  refine ccheck_ h' hd' hC x ?_
  rw [hdead]
  obtain ⟨p, n, hn0⟩ := h'.at0
  obtain ⟨g0, g1, g2, g3⟩ := root_get hn0
  have hlk := h'.has.look (.pointer none) x
  simp -implicitDefEqProofs (maxSteps := 2000000) (disch := first|assumption|omega|rfl|(simp only[RD];done)|(simp only[RD];omega)) only [RN,Int.reduceBEq,Int.reduceBNe,Int.reduceLT,Int.reduceLE,Int.reduceAdd,Int.reduceSub,Int.reduceMul,Nat.reduceAdd,↓bc_flatz,↓bc_flat16,↓agg_bytez, if_neg (show ¬ (x < 0 ∨ t.n ≤ x) by omega), if_false, Bool.false_eq_true, g3, hlk]
  have hid : σ.next ∉ cids c hm s.row ++ G := fun hj => by have := hFG _ hj; omega
  cases hl : look s.row x with
  | some k =>
    obtain ⟨i, hi⟩ := look_get hl
    have hat := look_at hl
    have hlen := h.len k (List.mem_of_getElem? hi)
    have hv1 : viewOf s.row x = some (k.data, k.fast) := by unfold viewOf; rw [hl]; rfl
    rw [hv1] at hq
    simp -implicitDefEqProofs (maxSteps := 2000000) (disch := first|assumption|omega|rfl|(simp only[RD];done)|(simp only[RD];omega)) only [RN,Int.reduceBEq,Int.reduceBNe,Int.reduceLT,Int.reduceLE,Int.reduceAdd,Int.reduceSub,Int.reduceMul,Nat.reduceAdd,↓bc_flatz,↓bc_flat16,↓agg_bytez, Option.map_some, p57_3]
    refine mid_leave h' hi fun σ2 m2 n2 f2 => ?_
    refine mid_last m2 fun σ3 c3 n3 f3 => ?_
    have hk3 : ({ s with row := s.row.eraseIdx i ++ [k] } : CS).row[(s.row.eraseIdx i).length]? = some k := by simp
    have hl3 := c3.link hk3
    obtain ⟨q0, q1, q2, q3, q4⟩ := link_get hl3 hlen
    have hz3 : σ3.get σ.next = some (.cells (bc zb) none) := by
      have a1 : σ.next ≠ k.id := fun e => hid (List.mem_append_left _ (by rw [e]; simp only [cids, List.mem_cons, List.mem_map]; exact .inr (.inr ⟨k, List.mem_of_getElem? hi, rfl⟩)))
      rw [f3 _ a1 (fun hj => hid (List.mem_append_left _ ?_)), f2 _ (fun hj => hid (List.mem_append_left _ hj)), hz]
      simp only [cids, List.mem_cons, List.mem_map] at hj ⊢
      rcases hj with hj | hj | ⟨y, hy, e⟩
      · exact .inl hj
      · exact .inr (.inl hj)
      · exact .inr (.inr ⟨y, List.mem_of_mem_eraseIdx hy, e⟩)
    simp -implicitDefEqProofs (maxSteps := 2000000) (disch := first|assumption|omega|rfl|(simp only[RD];done)|(simp only[RD];omega)) only [RN,Int.reduceBEq,Int.reduceBNe,Int.reduceLT,Int.reduceLE,Int.reduceAdd,Int.reduceSub,Int.reduceMul,Nat.reduceAdd,↓bc_flatz,↓bc_flat16,↓agg_bytez, q4, hz3]
    have hne : ∀ j, j < σ.next → j ≠ σ.next := fun j hj => by omega
    have hfr : ∀ j, j < σ.next → j ∉ cids c hm s.row → (σ3.put σ.next (some (.cells (bc k.data) none))).get j = σ.get j := fun j hj hjc => by
      rw [get_put_ne' (hne j hj), f3 j (fun e => hjc ?_) (fun hj2 => hjc ?_), f2 j hjc, k1.2 j hj]
      · rw [e]; simp only [cids, List.mem_cons, List.mem_map]; exact .inr (.inr ⟨k, List.mem_of_getElem? hi, rfl⟩)
      · simp only [cids, List.mem_cons, List.mem_map] at hj2 ⊢
        rcases hj2 with hj | hj | ⟨y, hy, e⟩
        · exact .inl hj
        · exact .inr (.inl hj)
        · exact .inr (.inr ⟨y, List.mem_of_mem_eraseIdx hy, e⟩)
    have hsub : ∀ j ∈ cids c hm (s.row.eraseIdx i ++ [k]), j ∈ cids c hm s.row := fun j hj => by
      simp only [cids, List.mem_cons, List.mem_map, List.mem_append] at hj ⊢
      rcases hj with hj | hj | ⟨y, hy | hy, e⟩
      · exact .inl hj
      · exact .inr (.inl hj)
      · exact .inr (.inr ⟨y, List.mem_of_mem_eraseIdx hy, e⟩)
      · rcases hy with hy | hy
        · exact .inr (.inr ⟨y, by rw [hy]; exact List.mem_of_getElem? hi, e⟩)
        · exact absurd hy List.not_mem_nil
    have c4 := c3.same (σ' := σ3.put σ.next (some (.cells (bc k.data) none))) fun j hj => get_put_ne' (hne j (hlt j (hsub j hj)))
    have n4 : (σ3.put σ.next (some (.cells (bc k.data) none))).next = σ.next + 1 := by rw [next_max]; omega
    obtain ⟨u1, u2⟩ := fin_upd (F' := cids c hm (s.row.eraseIdx i ++ [k])) hlt hd.lt hA (fun j hj => .inl (hsub j hj)) c4.lt (by omega) fun j hj hj1 _ => hfr j hj hj1
    refine hq _ (viewOf (s.row.eraseIdx i ++ [k])) _ t ⟨hm, _, c4, rfl, rfl, rfl, rfl, rfl⟩ (hd.same fun j hj => hfr j (hd.lt j hj) (hA.symm j hj)) u1 u2 rfl (fun y hy => .inl ?_) ?_
    · unfold viewOf
      rw [view_again h.ats hi rfl, if_neg (by rw [hat]; exact hy)]
    · unfold viewOf
      rw [view_again h.ats hi rfl, if_pos hat.symm]; rfl
  | none =>
    have hv1 : viewOf s.row x = none := by unfold viewOf; rw [hl]; rfl
    rw [hv1] at hq hv
    have hroom : s.fast < s.size := by rcases hv with hv | hv <;> first | exact hv | cases hv
    simp -implicitDefEqProofs (maxSteps := 2000000) (disch := first|assumption|omega|rfl|(simp only[RD];done)|(simp only[RD];omega)) only [RN,Int.reduceBEq,Int.reduceBNe,Int.reduceLT,Int.reduceLE,Int.reduceAdd,Int.reduceSub,Int.reduceMul,Nat.reduceAdd,↓bc_flatz,↓bc_flat16,↓agg_bytez, Option.map_none, p57_3]
    refine room_ h' hroom fun σ2 row' c2 hsz hrow n2 f2 => ?_
    have hlk2 : look row' x = none := by
      rcases hrow with rfl | ⟨i, k, hk, _, rfl⟩
      · exact hl
      · rw [look_none] at hl ⊢
        exact fun y hy => hl y (List.mem_of_mem_eraseIdx hy)
    have hsub : ∀ j ∈ cids c hm row', j ∈ cids c hm s.row := fun j hj => by
      rcases hrow with rfl | ⟨i, k, hk, _, rfl⟩
      · exact hj
      · simp only [cids, List.mem_cons, List.mem_map] at hj ⊢
        rcases hj with hj | hj | ⟨y, hy, e⟩
        · exact .inl hj
        · exact .inr (.inl hj)
        · exact .inr (.inr ⟨y, List.mem_of_mem_eraseIdx hy, e⟩)
    have hd2 : Disk σ2 s.d t G := hd'.same fun j hj => f2 j (hA.symm j hj)
    obtain ⟨p2, q2, r2⟩ := c2.at0
    obtain ⟨g0, g1, g2, g3⟩ := root_get r2
    have g0 : rdOne (σ2.get c) 0 = some (.pointer (some ⟨s.d, 0, none⟩)) := g0
    simp -implicitDefEqProofs (maxSteps := 2000000) (disch := first|assumption|omega|rfl|(simp only[RD];done)|(simp only[RD];omega)) only [RN,Int.reduceBEq,Int.reduceBNe,Int.reduceLT,Int.reduceLE,Int.reduceAdd,Int.reduceSub,Int.reduceMul,Nat.reduceAdd,↓bc_flatz,↓bc_flat16,↓agg_bytez, p57_2, g0]
    refine read_o hd2 hC hm0 fun σ3 d3 u3 => ?_
    have er : t.read x = (t.at x, 0, (t.read x).2.2) := by unfold DS.read; rw [hdead]; simp [show ¬ (x < 0 ∨ t.n ≤ x) by omega]
    have e1 : (t.read x).1 = t.at x := by rw [er]
    have e2 : (t.read x).2.1 = 0 := by rw [er]
    rw [e1, e2]
    have hatl := at_len hC.ok x
    have c3 : CAt σ3 c hm { s with row := row' } := c2.same fun j hj => Upd.get u3 hA.symm (fun j hj => by rw [n2]; have := hlt j hj; omega) j (hsub j hj)
    have n3 := u3.next
    have hlt2 : ∀ j ∈ cids c hm s.row, j < σ3.next := fun j hj => by have := hlt j hj; omega
    obtain ⟨p3, q3, r3⟩ := c3.at0
    obtain ⟨_, _, _, g4⟩ := root_get r3
    have kA : Keeps σ3 (σ3.push (.cells (bc (t.at x)) none)) := (Keeps.refl _).push _
    have c4 := c3.same (σ' := σ3.push (.cells (bc (t.at x)) none)) fun j hj => kA.2 j (c3.lt j hj)
    have n4 : (σ3.push (.cells (bc (t.at x)) none)).next = σ3.next + 1 := Store.next_push _ _
    have g5 : rdOne ((σ3.push (.cells (bc (t.at x)) none)).get c) 1031 = some (.map (some hm)) := by
      rw [kA.2 c (hlt2 c (by simp [cids]))]; exact g4
    have hz4 : (σ3.push (.cells (bc (t.at x)) none)).get σ.next = some (.cells (bc zb) none) := by
      rw [kA.2 _ (by omega), u3.same _ (by omega) (fun hj => by have := hd.lt _ hj; omega), f2 _ (fun hj => by have := hlt _ hj; omega), hz]
    simp -implicitDefEqProofs (maxSteps := 2000000) (disch := first|assumption|omega|rfl|(simp only[RD];done)|(simp only[RD];omega)) only [RN,Int.reduceBEq,Int.reduceBNe,Int.reduceLT,Int.reduceLE,Int.reduceAdd,Int.reduceSub,Int.reduceMul,Nat.reduceAdd,↓bc_flatz,↓bc_flat16,↓agg_bytez, p57_1]
    have hloc : (σ3.push (.cells (bc (t.at x)) none)).get σ3.next = some (.cells (bc (t.at x)) none) := Store.get_push_same _ _
    generalize hσ4 : σ3.push (.cells (bc (t.at x)) none) = σ4 at c4 n4 g5 hz4 kA hloc ⊢
    clear hσ4
    obtain ⟨o, w1, w2⟩ := mid_new c4 (by exact hsz) (x := x) (by exact hlk2) hatl
    have hbase : (Lk.mk σ4.next x (t.at x) false).base = .int .i64 x :: (bc (t.at x) ++ [.bool false, .pointer none, .pointer none]) := rfl
    rw [hbase] at w1 w2
    have g6 : rdOne ((σ4.push (.cells (.int .i64 x :: (bc (t.at x) ++ [.bool false, .pointer none, .pointer none])) none)).get c) 1031 = some (.map (some hm)) := by
      rw [get_push_ne (by rw [n4]; have := hlt2 c (by simp [cids]); omega)]; exact g5
    rw [n4] at w1
    simp -implicitDefEqProofs (maxSteps := 2000000) (disch := first|assumption|omega|rfl|(simp only[RD];done)|(simp only[RD];omega)) only [RN,Int.reduceBEq,Int.reduceBNe,Int.reduceLT,Int.reduceLE,Int.reduceAdd,Int.reduceSub,Int.reduceMul,Nat.reduceAdd,↓bc_flatz,↓bc_flat16,↓agg_bytez, g6, w1, hloc]
    rw [← n4]
    have hn6 : ((σ4.push (.cells (.int .i64 x :: (bc (t.at x) ++ [.bool false, .pointer none, .pointer none])) none)).put hm (some o)).next = σ4.next + 1 := by
      rw [next_max, Store.next_push]; have := hlt2 hm (by simp [cids]); omega
    have hg6 : ∀ j, j < σ4.next → j ≠ hm → ((σ4.push (.cells (.int .i64 x :: (bc (t.at x) ++ [.bool false, .pointer none, .pointer none])) none)).put hm (some o)).get j = σ4.get j := fun j hj hne => by
      rw [get_put_ne' hne, get_push_ne hj]
    generalize hσ6 : (σ4.push (.cells (.int .i64 x :: (bc (t.at x) ++ [.bool false, .pointer none, .pointer none])) none)).put hm (some o) = σ6 at w2 hn6 hg6 ⊢
    clear hσ6
    refine mid_last w2 fun σ7 c7 n7 f7 => ?_
    have hg7 : ∀ j, j < σ4.next → j ∉ cids c hm s.row → σ7.get j = σ4.get j := fun j hj hjc => by
      rw [f7 j (by show j ≠ σ4.next; omega) (fun h => hjc (hsub j h)), hg6 j hj (fun e => hjc (by rw [e]; simp [cids]))]
    have ha : σ7.get σ3.next = some (.cells (bc (t.at x)) none) := by
      rw [hg7 _ (by omega) (fun hj => by have := hlt2 _ hj; omega)]; exact hloc
    have hb : σ7.get σ.next = some (.cells (bc zb) none) := by
      rw [hg7 _ (by omega) (fun hj => by have := hlt _ hj; omega)]; exact hz4
    simp -implicitDefEqProofs (maxSteps := 2000000) (disch := first|assumption|omega|rfl|(simp only[RD];done)|(simp only[RD];omega)) only [RN,Int.reduceBEq,Int.reduceBNe,Int.reduceLT,Int.reduceLE,Int.reduceAdd,Int.reduceSub,Int.reduceMul,Nat.reduceAdd,↓bc_flatz,↓bc_flat16,↓agg_bytez, ha, hb, hatl]
    have n8 : (σ7.put σ.next (some (.cells (bc (t.at x)) none))).next = σ7.next := by rw [next_max]; omega
    have hfr : ∀ j, j < σ.next → j ∉ cids c hm s.row → j ∉ G → (σ7.put σ.next (some (.cells (bc (t.at x)) none))).get j = σ.get j := fun j hj hjc hjg => by
      rw [get_put_ne' (by omega), hg7 j (by omega) hjc, kA.2 j (by omega), u3.same j (by omega) hjg, f2 j hjc, k1.2 j hj]
    have hsub2 : ∀ j ∈ cids c hm (row' ++ [⟨σ4.next, x, t.at x, false⟩]), j ∈ cids c hm s.row ∨ j = σ4.next := fun j hj => by
      simp only [cids, List.mem_cons, List.mem_map, List.mem_append] at hj
      rcases hj with hj | hj | ⟨y, hy | hy, e⟩
      · exact .inl (hsub j (by simp only [cids, List.mem_cons]; exact .inl hj))
      · exact .inl (hsub j (by simp only [cids, List.mem_cons]; exact .inr (.inl hj)))
      · exact .inl (hsub j (by simp only [cids, List.mem_cons, List.mem_map]; exact .inr (.inr ⟨y, hy, e⟩)))
      · rcases hy with hy | hy
        · right; rw [← e, hy]
        · exact absurd hy List.not_mem_nil
    have c8 := c7.same (σ' := σ7.put σ.next (some (.cells (bc (t.at x)) none))) fun j hj => get_put_ne' (by
      rcases hsub2 j hj with h1 | h1
      · have := hlt j h1; omega
      · omega)
    have d8 : Disk (σ7.put σ.next (some (.cells (bc (t.at x)) none))) s.d (t.read x).2.2 G := d3.same fun j hj => by
      have hjl := hd.lt j hj
      rw [get_put_ne' (by omega), hg7 j (by omega) (hA.symm j hj), kA.2 j (by omega)]
    obtain ⟨v1, v2⟩ := fin_upd (F' := cids c hm (row' ++ [⟨σ4.next, x, t.at x, false⟩])) hlt hd.lt hA (fun j hj => by
      rcases hsub2 j hj with h1 | h1
      · exact .inl h1
      · right; omega) c8.lt (by omega) hfr
    have hv8 : ∀ y, viewOf (row' ++ [⟨σ4.next, x, t.at x, false⟩]) y = if y = x then some (t.at x, false) else viewOf row' y := fun y => by
      unfold viewOf
      rw [look_app y (look_none.1 hlk2)]
      by_cases hy : y = x
      · rw [if_pos hy, if_pos hy]; rfl
      · rw [if_neg hy, if_neg hy]
    refine hq _ _ _ (t.read x).2.2 ⟨hm, _, c8, rfl, rfl, rfl, rfl, rfl⟩ d8 v1 v2 rfl (fun y hy => ?_) ?_
    · rw [show viewOf _ y = _ from hv8 y, if_neg hy]
      exact shrink_room h.ats hrow y
    · rw [show viewOf _ x = _ from hv8 x, if_pos rfl]; rfl
end Go.Proofs.Ytiaonndafhfkmaa
