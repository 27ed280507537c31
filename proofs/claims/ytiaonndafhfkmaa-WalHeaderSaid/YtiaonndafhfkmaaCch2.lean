/- The package cache: a link that is out of the row; reading, putting, flushing. -/
import Derived.Test.YtiaonndafhfkmaaCch
set_option linter.all false
set_option maxRecDepth 100000
set_option maxHeartbeats 400000
namespace Go.Proofs.Ytiaonndafhfkmaa
open Go.Am
/-- A cache, one link of which is out of the row. -/
structure CMid (σ : Store) (c hm : Nat) (s : CS) (k : Lk) : Prop where
  ring : Ring σ (s.row.length + 1) (s.nd c hm)
  node : ∃ p n, NodeAt σ k.nd p n
  has : MapC σ hm (fun x => if x = k.at_ then some (.pointer (some ⟨k.id, 0, none⟩)) else (look s.row x).map fun k => .pointer (some ⟨k.id, 0, none⟩)) (s.row.length + 1)
  ne : hm ≠ c ∧ k.id ≠ c ∧ k.id ≠ hm ∧ ∀ y ∈ s.row, y.id ≠ hm ∧ y.id ≠ k.id
  ats : (s.row.map (·.at_)).Nodup ∧ ∀ y ∈ s.row, y.at_ ≠ k.at_
  len : (∀ y ∈ s.row, y.data.length = 1024) ∧ k.data.length = 1024
  cnt : s.fast = ((s.row.filter (·.fast)).length : Nat) + (if k.fast then 1 else 0)
  size : (s.row.length : Int) + 1 ≤ s.size
  size2 : s.size ≤ 4096
variable {σ σ' : Store} {c hm d m : Nat} {s : CS} {k : Lk} {t : DS} {F : List Nat} {Q : Value → Store → Prop}
theorem mid_leave (h : CAt σ c hm s) {i : Nat} (hk : s.row[i]? = some k)
    (hq : ∀ σ', CMid σ' c hm { s with row := s.row.eraseIdx i } k → σ'.next = σ.next → (∀ j, j ∉ cids c hm s.row → σ'.get j = σ.get j) → Q (.tuple #[]) σ') :
    Does Try.prog 60 [.pointer (some ⟨k.id, 0, none⟩)] σ Q := by
  have hi : i < s.row.length := (List.getElem?_eq_some_iff.1 hk).1
  have e7 : s.nd c hm (i + 1) = k.nd := CS.nd_succ hk
  have key := leave_ (Q := Q) (i := i + 1) h.ring (by omega) (by omega) (fun σ1 n1 r1 g1 => ?_)
  · rw [e7] at key; exact key
  have gx : σ1.get k.id = σ.get k.id := g1 _ fun j hj hji e => hji (h.ring.inj _ _ hj (by omega) (by rw [e7]; exact e.symm))
  have hb : ∀ j, j < s.row.length + 1 → (s.nd c hm j).blk ∈ c :: s.row.map (·.id) := fun j hj => CS.nd_blk hj
  have hmnd : ∀ j, j < s.row.length + 1 → hm ≠ (s.nd c hm j).blk := fun j hj e => by
    have hb := hb j hj
    rw [← e] at hb
    rcases List.mem_cons.1 hb with h2 | h2
    · exact h.ne.1 h2
    · obtain ⟨y, hy, e⟩ := List.mem_map.1 h2
      exact h.ne.2 y hy e
  have gh : σ1.get hm = σ.get hm := g1 _ fun j hj _ => hmnd j hj
  obtain ⟨A, B, e1, e2, e3⟩ := split_row hk
  have hlen : (s.row.eraseIdx i).length + 1 = s.row.length := by rw [List.length_eraseIdx_of_lt hi]; omega
  have ats := h.ats
  rw [e1] at ats
  have hmem : ∀ y, y ∈ s.row.eraseIdx i → y ∈ s.row := fun y hy => List.mem_of_mem_eraseIdx hy
  have hats : ∀ y ∈ s.row.eraseIdx i, y.at_ ≠ k.at_ := by
    rw [e3]
    intro y hy e
    have := look_none.1 (show look (A ++ B) k.at_ = none by rw [look_mid ats, if_pos rfl]) y hy
    exact this e
  refine hq σ1 ⟨?_, ?_, ?_, ?_, ?_, ?_, ?_, ?_, h.size2⟩ n1 fun j hj => g1 j fun q hq _ e => ?_
  · show Ring σ1 ((s.row.eraseIdx i).length + 1) _
    rw [hlen]
    exact r1.congr fun j hj => nd_erase j
  · have := h.link hk
    exact ⟨_, _, this.same gx⟩
  · show MapC σ1 hm _ ((s.row.eraseIdx i).length + 1)
    rw [hlen]
    refine (h.has.same gh).ext (fun x => ?_) rfl
    show (if x = k.at_ then _ else (look (s.row.eraseIdx i) x).map _) = _
    rw [e3, look_mid ats, e1]
    by_cases hx : x = k.at_
    · rw [if_pos hx, hx, ← e1, (look_iff h.ats).2 ⟨List.mem_of_getElem? hk, rfl⟩]; rfl
    · rw [if_neg hx, if_neg hx]
  · refine ⟨h.ne.1, fun e => ?_, h.ne.2 k (List.mem_of_getElem? hk), fun y hy => ⟨h.ne.2 y (hmem y hy), fun e => ?_⟩⟩
    · have := h.ring.inj 0 (i + 1) (by omega) (by omega) (by rw [e7]; exact e.symm)
      omega
    · obtain ⟨j, hj, e4⟩ := List.getElem_of_mem (hmem y hy)
      have e5 : s.nd c hm (j + 1) = y.nd := CS.nd_succ (by rw [List.getElem?_eq_getElem hj, e4])
      have := h.ring.inj (j + 1) (i + 1) (by omega) (by omega) (by rw [e5, e7]; exact e)
      have : j = i := by omega
      subst this
      have : y = k := by rw [List.getElem?_eq_getElem hj, e4] at hk; cases hk; rfl
      exact hats y hy (by rw [this])
  · exact ⟨h.ats.sublist (List.Sublist.map _ (List.eraseIdx_sublist _ _)), hats⟩
  · exact ⟨fun y hy => h.len y (hmem y hy), h.len k (List.mem_of_getElem? hk)⟩
  · show s.fast = (((s.row.eraseIdx i).filter (·.fast)).length : Nat) + (if k.fast then 1 else 0)
    rw [h.cnt, e3, e1]
    cases hf : k.fast <;> simp [List.filter_append, hf] <;> omega
  · show ((s.row.eraseIdx i).length : Int) + 1 ≤ s.size
    have := h.size
    omega
  · have hb := hb q hq
    rw [← e] at hb
    simp only [cids, List.mem_cons, not_or] at hj
    rcases List.mem_cons.1 hb with h2 | h2
    · exact hj.1 h2
    · exact hj.2.2 h2
theorem nd_append {j : Nat} (hj : j < s.row.length + 2) : ({ s with row := s.row ++ [k] } : CS).nd c hm j = ext (s.row.length + 1) (s.nd c hm) k.nd j := by
  cases j with
  | zero => rw [ext_lt (by omega)]; rfl
  | succ j =>
    unfold ext
    by_cases h : j = s.row.length
    · rw [if_pos (by omega)]
      exact CS.nd_succ (by show (s.row ++ [k])[j]? = _; rw [h, List.getElem?_append_right (Nat.le_refl _)]; simp)
    · rw [if_neg (by omega)]
      have hj' : j < s.row.length := by omega
      rw [CS.nd_succ (List.getElem?_eq_getElem hj')]
      exact CS.nd_succ (by show (s.row ++ [k])[j]? = _; rw [List.getElem?_append_left hj', List.getElem?_eq_getElem hj'])
theorem look_app {row : List Lk} (x : Int) (h : ∀ y ∈ row, y.at_ ≠ k.at_) : look (row ++ [k]) x = if x = k.at_ then some k else look row x := by
  unfold look
  rw [List.find?_append]
  by_cases hx : x = k.at_
  · rw [if_pos hx]
    have : row.find? (fun k => decide (k.at_ = x)) = none := by
      rw [List.find?_eq_none]
      intro y hy
      have := h y hy
      simp [hx, this]
    rw [this]
    simp [hx]
  · rw [if_neg hx]
    have : [k].find? (fun k => decide (k.at_ = x)) = none := by
      have : ¬ k.at_ = x := fun e => hx e.symm
      simp [this]
    rw [this, Option.or_none]
theorem mid_last (h : CMid σ c hm s k)
    (hq : ∀ σ', CAt σ' c hm { s with row := s.row ++ [k] } → σ'.next = σ.next → (∀ j, j ≠ k.id → j ∉ cids c hm s.row → σ'.get j = σ.get j) → Q (.tuple #[]) σ') :
    Does Try.prog 62 [.pointer (some ⟨c, 0, none⟩), .pointer (some ⟨k.id, 0, none⟩)] σ Q := by
  obtain ⟨p, n, hn⟩ := h.node
  have hb : ∀ j, j < s.row.length + 1 → (s.nd c hm j).blk ∈ c :: s.row.map (·.id) := fun j hj => CS.nd_blk hj
  have hnew : ∀ j, j < s.row.length + 1 → (s.nd c hm j).blk ≠ k.nd.blk := fun j hj e => by
    have hb := hb j hj
    rw [e] at hb
    rcases List.mem_cons.1 hb with h2 | h2
    · exact h.ne.2.1 h2
    · obtain ⟨y, hy, e⟩ := List.mem_map.1 h2
      exact (h.ne.2.2.2 y hy).2 e
  refine last_ (x := k.nd) h.ring rfl rfl hn hnew fun σ1 n1 r1 g1 => ?_
  have gh : σ1.get hm = σ.get hm := g1 _ (fun e => h.ne.2.2.1 e.symm) fun j hj e => by
    have hb := hb j hj
    rw [← e] at hb
    rcases List.mem_cons.1 hb with h2 | h2
    · exact h.ne.1 h2
    · obtain ⟨y, hy, e⟩ := List.mem_map.1 h2
      exact (h.ne.2.2.2 y hy).1 e
  have hlen : (s.row ++ [k]).length = s.row.length + 1 := by simp
  refine hq σ1 ⟨?_, ?_, ?_, ?_, ?_, ?_, ?_, h.size2⟩ n1 fun j hj hjc => g1 j hj fun q hq e => ?_
  · show Ring σ1 ((s.row ++ [k]).length + 1) _
    rw [hlen]
    exact r1.congr fun j hj => nd_append hj
  · show MapC σ1 hm _ (s.row ++ [k]).length
    rw [hlen]
    refine (h.has.same gh).ext (fun x => ?_) rfl
    show (look (s.row ++ [k]) x).map _ = _
    rw [look_app x h.ats.2]
    by_cases hx : x = k.at_
    · rw [if_pos hx, if_pos hx]; rfl
    · rw [if_neg hx, if_neg hx]
  · refine ⟨h.ne.1, fun y hy => ?_⟩
    rcases List.mem_append.1 hy with hy | hy
    · exact (h.ne.2.2.2 y hy).1
    · have : y = k := by simpa using hy
      rw [this]; exact h.ne.2.2.1
  · show ((s.row ++ [k]).map (·.at_)).Nodup
    rw [List.map_append, List.nodup_append]
    refine ⟨h.ats.1, by simp, fun a ha b hb => ?_⟩
    obtain ⟨y, hy, e⟩ := List.mem_map.1 ha
    have : b = k.at_ := by simpa using hb
    rw [← e, this]; exact h.ats.2 y hy
  · intro y hy
    rcases List.mem_append.1 hy with hy | hy
    · exact h.len.1 y hy
    · have : y = k := by simpa using hy
      rw [this]; exact h.len.2
  · show s.fast = (((s.row ++ [k]).filter (·.fast)).length : Nat)
    rw [h.cnt, List.filter_append, List.length_append]
    cases hf : k.fast <;> simp [hf]
  · show ((s.row ++ [k]).length : Int) ≤ s.size
    rw [hlen]
    have := h.size
    omega
  · have hb := hb q hq
    rw [← e] at hb
    simp only [cids, List.mem_cons, not_or] at hjc
    rcases List.mem_cons.1 hb with h2 | h2
    · exact hjc.1 h2
    · exact hjc.2.2 h2
theorem base_cells : k.nd.cells (.pointer none) (.pointer none) = k.base ∨ k.data.length ≠ 1024 := by
  by_cases hl : k.data.length = 1024
  · left
    unfold Nd.cells Lk.nd Lk.base
    simp only [Nat.zero_add, List.set_cons_succ]
    rw [List.set_append_right _ _ (by rw [bc_len, hl]; omega), List.set_append_right _ _ (by rw [bc_len, hl]; omega), bc_len, hl]
    rfl
  · exact .inr hl
/-- A new link, that the map knows. -/
theorem mid_new (h : CAt σ c hm s) (hs : (s.row.length : Int) < s.size) {x : Int} (hx : look s.row x = none) {b : List Int} (hb : b.length = 1024) :
    ∃ o, updH (.int .i64) (.map (some hm)) (.int .i64 x) (.pointer (some ⟨σ.next, 0, none⟩)) (σ.push (.cells (Lk.mk σ.next x b false).base none)) = some (junk, (σ.push (.cells (Lk.mk σ.next x b false).base none)).put hm (some o)) ∧
      CMid ((σ.push (.cells (Lk.mk σ.next x b false).base none)).put hm (some o)) c hm s ⟨σ.next, x, b, false⟩ := by
  have hlt := h.lt
  have hh : hm < σ.next := h.has.lt
  have h1 := h.same (σ' := σ.push (.cells (Lk.mk σ.next x b false).base none)) fun j hj => get_push_ne (hlt j hj)
  obtain ⟨o, u1, u2⟩ := h1.has.upd x (.pointer (some ⟨σ.next, 0, none⟩))
  have hbl : ∀ j, j < s.row.length + 1 → (s.nd c hm j).blk ∈ c :: s.row.map (·.id) := fun j hj => CS.nd_blk hj
  have hcl : c < σ.next := hlt c (by simp [cids])
  have hrl : ∀ y ∈ s.row, y.id < σ.next := fun y hy => hlt _ (by simp only [cids, List.mem_cons, List.mem_map]; exact .inr (.inr ⟨y, hy, rfl⟩))
  refine ⟨o, u1, ⟨h1.ring.same fun j hj => get_put_ne' ?_, ⟨.pointer none, .pointer none, ?_, ?_⟩, ?_, ?_, ⟨h.ats, look_none.1 hx⟩, ⟨h.len, hb⟩, ?_, by omega, h.size2⟩⟩
  · have hb := hbl j hj
    rcases List.mem_cons.1 hb with h2 | h2
    · rw [h2]; exact h.ne.1.symm
    · obtain ⟨y, hy, e⟩ := List.mem_map.1 h2
      rw [← e]; exact h.ne.2 y hy
  · show (Store.put _ hm (some o)).get σ.next = _
    rw [get_put_ne' (by omega), Store.get_push_same]
    rcases base_cells (k := Lk.mk σ.next x b false) with e | e
    · rw [e]
    · exact absurd hb e
  · show 1027 < (Lk.mk σ.next x b false).base.length
    rw [base_len hb]; omega
  · refine u2.ext (fun y => rfl) ?_
    rw [hx]; rfl
  · refine ⟨h.ne.1, by show σ.next ≠ c; omega, by show σ.next ≠ hm; omega, fun y hy => ⟨h.ne.2 y hy, ?_⟩⟩
    have := hrl y hy
    show y.id ≠ σ.next
    omega
  · rw [h.cnt]; simp
/-- The link's bytes are written. -/
theorem mid_data (h : CMid σ c hm s k) {b : List Int} (hb : b.length = 1024) :
    ∃ o, storeV 1024 (.pointer (some ⟨k.id, 1, none⟩)) (.agg ⟨bc b⟩) σ = some (junk, σ.put k.id (some o)) ∧ CMid (σ.put k.id (some o)) c hm s { k with data := b } := by
  obtain ⟨p, n, hn⟩ := h.node
  have h0 : σ.get k.id = some (.cells (k.nd.cells p n) none) := hn.at_
  have hl := h.len.2
  have hsp : splice (k.nd.cells p n) 1 (bc b) = ({ k with data := b } : Lk).nd.cells p n := by
    unfold Nd.cells Lk.nd Lk.base
    simp only [Nat.zero_add, List.set_cons_succ]
    rw [List.set_append_right _ _ (by rw [bc_len, hl]; omega), List.set_append_right _ _ (by rw [bc_len, hl]; omega), List.set_append_right _ _ (by rw [bc_len, hb]; omega), List.set_append_right _ _ (by rw [bc_len, hb]; omega)]
    simp only [splice, bc_len, hb, hl]
    rw [show 1 + 1024 = 1024 + 1 from rfl, List.drop_succ_cons, List.drop_left' (by rw [bc_len, hl])]
    rfl
  have hst : storeV 1024 (.pointer (some ⟨k.id, 1, none⟩)) (.agg ⟨bc b⟩) σ = some (junk, σ.put k.id (some (.cells (({ k with data := b } : Lk).nd.cells p n) none))) := by
    have h1 : asCells 1024 (.agg ⟨bc b⟩) = some (bc b) := as_agg (by rw [bc_len, hb])
    have hle : Nat.ble (1 + 1024) (k.nd.cells p n).length = true := Nat.ble_eq_true_of_le (by rw [Nd.cells_len]; show _ ≤ k.base.length; rw [base_len hl]; omega)
    unfold storeV
    simp only [h1, h0, hle, cond_true, hsp]
  have hbl : ∀ j, j < s.row.length + 1 → (s.nd c hm j).blk ∈ c :: s.row.map (·.id) := fun j hj => CS.nd_blk hj
  refine ⟨_, hst, ⟨h.ring.same fun j hj => get_put_ne' ?_, ⟨p, n, Store.get_put_same _ _ _, ?_⟩, h.has.same (get_put_ne' (fun e => h.ne.2.2.1 e.symm)), h.ne, h.ats, ⟨h.len.1, hb⟩, h.cnt, h.size, h.size2⟩⟩
  · have hb := hbl j hj
    rcases List.mem_cons.1 hb with h2 | h2
    · rw [h2]; exact h.ne.2.1.symm
    · obtain ⟨y, hy, e⟩ := List.mem_map.1 h2
      rw [← e]; exact (h.ne.2.2.2 y hy).2
  · show 1027 < (Lk.mk k.id k.at_ b k.fast).base.length
    rw [base_len hb]; omega
theorem base_set_fast {f : Bool} (hl : k.data.length = 1024) : k.base.set 1025 (.bool f) = ({ k with fast := f } : Lk).base := by
  unfold Lk.base
  rw [show (1025 : Nat) = 1024 + 1 from rfl, List.set_cons_succ, List.set_append_right _ _ (by rw [bc_len, hl]; omega), bc_len, hl]
  rfl
/-- The ring, its root's number written anew. -/
theorem ring_fast {v : Int} {p n : Value} (h : Ring σ (s.row.length + 1) (s.nd c hm)) (h0 : NodeAt σ (s.nd c hm 0) p n) :
    wrOne (σ.get c) σ c 2 (.int .i64 v) = some (junk, σ.put c (some (.cells ((({ s with fast := v } : CS).nd c hm 0).cells p n) none))) ∧ Ring (σ.put c (some (.cells ((({ s with fast := v } : CS).nd c hm 0).cells p n) none))) (s.row.length + 1) (({ s with fast := v } : CS).nd c hm) := by
  have e0 : σ.get c = some (.cells ((s.nd c hm 0).cells p n) none) := h0.at_
  have hn0 : ∀ j, (({ s with fast := v } : CS).nd c hm j).p = (s.nd c hm j).p := fun j => by cases j <;> rfl
  have hb0 : ∀ j, (({ s with fast := v } : CS).nd c hm j).blk = (s.nd c hm j).blk := fun j => by cases j <;> rfl
  refine ⟨?_, h.pos, fun i hi => ?_, fun i j hi hj e => h.inj i j hi hj (by rw [← hb0 i, ← hb0 j]; exact e)⟩
  · rw [e0, wrOne_cells (by rw [Nd.cells_len]; show 2 < (s.root hm).length; rw [root_len]; omega), Nd.set_other (by show 2 ≠ 3 + 1026; omega) (by show 2 ≠ 3 + 1027; omega)]
    rfl
  · have hi0 := h.at_ i hi
    rw [hn0, hn0]
    cases i with
    | zero =>
      have e1 : (s.nd c hm (pv (s.row.length + 1) 0)).p = p ∧ (s.nd c hm (nx (s.row.length + 1) 0)).p = n := by
        have q1 := hi0.prev
        have q2 := hi0.next
        rw [h0.prev] at q1
        rw [h0.next] at q2
        exact ⟨(Option.some.inj q1).symm, (Option.some.inj q2).symm⟩
      rw [e1.1, e1.2]
      exact ⟨Store.get_put_same _ _ _, by show 3 + 1027 < (CS.root _ hm).length; rw [root_len]; omega⟩
    | succ i =>
      refine (show NodeAt σ (({ s with fast := v } : CS).nd c hm (i + 1)) _ _ from hi0).same (get_put_ne' fun e => ?_)
      have := h.inj (i + 1) 0 hi (by omega) e
      omega
/-- The link is held fast. -/
theorem mid_fast (h : CMid σ c hm s k) (hf : k.fast = false) :
    ∃ o o2, wrOne (σ.get k.id) σ k.id 1025 (.bool true) = some (junk, σ.put k.id (some o)) ∧ rdOne ((σ.put k.id (some o)).get c) 2 = some (.int .i64 s.fast) ∧ rdOne (σ.get k.id) 1025 = some (.bool false) ∧
      wrOne ((σ.put k.id (some o)).get c) (σ.put k.id (some o)) c 2 (.int .i64 (s.fast + 1)) = some (junk, (σ.put k.id (some o)).put c (some o2)) ∧ CMid ((σ.put k.id (some o)).put c (some o2)) c hm { s with fast := s.fast + 1 } { k with fast := true } := by
  obtain ⟨p, n, hn⟩ := h.node
  have h0 : σ.get k.id = some (.cells (k.nd.cells p n) none) := hn.at_
  have hl := h.len.2
  obtain ⟨f0, f1, f2, f3, f4⟩ := link_get hn hl
  rw [hf] at f1
  have hw : wrOne (σ.get k.id) σ k.id 1025 (.bool true) = some (junk, σ.put k.id (some (.cells (({ k with fast := true } : Lk).nd.cells p n) none))) := by
    rw [h0, wrOne_cells (by rw [Nd.cells_len]; show 1025 < k.base.length; rw [base_len hl]; omega), Nd.set_other (by show 1025 ≠ 0 + 1026; omega) (by show 1025 ≠ 0 + 1027; omega)]
    have : ({ k.nd with base := k.nd.base.set 1025 (.bool true) } : Nd) = ({ k with fast := true } : Lk).nd := by
      show Nd.mk k.id 0 (k.base.set 1025 (.bool true)) = _
      rw [base_set_fast hl]; rfl
    rw [this]
  obtain ⟨σ1, hσ1⟩ : ∃ σ1, σ1 = σ.put k.id (some (.cells (({ k with fast := true } : Lk).nd.cells p n) none)) := ⟨_, rfl⟩
  have hbl : ∀ j, j < s.row.length + 1 → (s.nd c hm j).blk ∈ c :: s.row.map (·.id) := fun j hj => CS.nd_blk hj
  have hnk : ∀ j, j < s.row.length + 1 → (s.nd c hm j).blk ≠ k.id := fun j hj e => by
    have hb := hbl j hj
    rw [e] at hb
    rcases List.mem_cons.1 hb with h2 | h2
    · exact h.ne.2.1 h2
    · obtain ⟨y, hy, e⟩ := List.mem_map.1 h2
      exact (h.ne.2.2.2 y hy).2 e
  have r1 : Ring σ1 (s.row.length + 1) (s.nd c hm) := h.ring.same fun j hj => by rw [hσ1]; exact get_put_ne' (hnk j hj)
  have a0 := r1.at_ 0 (by omega)
  obtain ⟨w1, w2⟩ := ring_fast (v := s.fast + 1) r1 a0
  obtain ⟨g0, g1, g2, g3⟩ := root_get a0
  have hkc := h.ne.2.1
  have hkh := h.ne.2.2.1
  refine ⟨_, _, hw, by rw [← hσ1]; exact g2, f1, by rw [← hσ1]; exact w1, ?_⟩
  rw [← hσ1]
  refine ⟨w2, ⟨p, n, ?_, ?_⟩, h.has.same ?_, h.ne, h.ats, h.len, ?_, h.size, h.size2⟩
  · show (Store.put _ c _).get k.id = _
    rw [get_put_ne' hkc, hσ1, Store.get_put_same]
  · show 1027 < (Lk.mk k.id k.at_ k.data true).base.length
    rw [base_len (k := Lk.mk k.id k.at_ k.data true) hl]; omega
  · rw [get_put_ne' h.ne.1, hσ1, get_put_ne' hkh.symm]
  · show s.fast + 1 = ((s.row.filter (·.fast)).length : Nat) + (if true = true then 1 else 0)
    rw [h.cnt, hf]; simp
end Go.Proofs.Ytiaonndafhfkmaa
