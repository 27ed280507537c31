/- The package cache: what stands in a store. -/
import Derived.Test.YtiaonndafhfkmaaRing
import Derived.Test.YtiaonndafhfkmaaOpq
import Derived.Test.YtiaonndafhfkmaaMapc
set_option linter.all false
set_option maxRecDepth 100000
set_option maxHeartbeats 400000
namespace Go.Proofs.Ytiaonndafhfkmaa
open Go.Am
/-- A block in the row. -/
structure Lk where
  id : Nat
  at_ : Int
  data : List Int
  fast : Bool
deriving Inhabited
def Lk.base (x : Lk) : List Value := .int .i64 x.at_ :: (bc x.data ++ [.bool x.fast, .pointer none, .pointer none])
def Lk.nd (x : Lk) : Nd := ⟨x.id, 0, x.base⟩
structure CS where
  d : Nat
  size : Int
  fast : Int
  row : List Lk
def CS.root (s : CS) (hm : Nat) : List Value := .pointer (some ⟨s.d, 0, none⟩) :: .int .i64 s.size :: .int .i64 s.fast :: .int .i64 0 :: (bc zb ++ [.bool false, .pointer none, .pointer none, .map (some hm)])
def CS.nd (s : CS) (c hm : Nat) (i : Nat) : Nd := match i with | 0 => ⟨c, 3, s.root hm⟩ | i + 1 => (s.row.getD i default).nd
def look (row : List Lk) (x : Int) : Option Lk := row.find? fun k => decide (k.at_ = x)
theorem look_iff {row : List Lk} (hn : (row.map (·.at_)).Nodup) {x : Int} {k : Lk} : look row x = some k ↔ k ∈ row ∧ k.at_ = x := by
  induction row with
  | nil => simp [look]
  | cons p row ih =>
    simp only [List.map_cons, List.nodup_cons] at hn
    have ih := ih hn.2
    unfold look at ih ⊢
    rw [List.find?_cons]
    by_cases hp : p.at_ = x
    · rw [decide_eq_true hp]
      constructor
      · intro h; cases h; exact ⟨List.mem_cons_self, hp⟩
      · rintro ⟨h1, h2⟩
        rcases List.mem_cons.1 h1 with h3 | h3
        · rw [h3]
        · exact absurd (List.mem_map.2 ⟨k, h3, h2.trans hp.symm⟩) hn.1
    · rw [decide_eq_false hp, ih]
      constructor
      · rintro ⟨h1, h2⟩; exact ⟨List.mem_cons_of_mem _ h1, h2⟩
      · rintro ⟨h1, h2⟩
        rcases List.mem_cons.1 h1 with h3 | h3
        · rw [h3] at h2; exact absurd h2 hp
        · exact ⟨h3, h2⟩
theorem look_none {row : List Lk} {x : Int} : look row x = none ↔ ∀ k ∈ row, k.at_ ≠ x := by
  unfold look
  simp [List.find?_eq_none]
/-- A cache stands in a store. -/
structure CAt (σ : Store) (c hm : Nat) (s : CS) : Prop where
  ring : Ring σ (s.row.length + 1) (s.nd c hm)
  has : MapC σ hm (fun x => (look s.row x).map fun k => .pointer (some ⟨k.id, 0, none⟩)) s.row.length
  ne : hm ≠ c ∧ ∀ k ∈ s.row, k.id ≠ hm
  ats : (s.row.map (·.at_)).Nodup
  len : ∀ k ∈ s.row, k.data.length = 1024
  cnt : s.fast = ((s.row.filter (·.fast)).length : Nat)
  size : (s.row.length : Int) ≤ s.size
  size2 : s.size ≤ 4096
def cids (c hm : Nat) (row : List Lk) : List Nat := c :: hm :: row.map (·.id)
variable {σ σ' : Store} {c hm d m : Nat} {s : CS} {t : DS} {F : List Nat} {Q : Value → Store → Prop}
theorem CS.nd_succ {i : Nat} {k : Lk} (h : s.row[i]? = some k) : s.nd c hm (i + 1) = k.nd := by
  show (s.row.getD i default).nd = k.nd
  rw [List.getD_eq_getElem?_getD, h]; rfl
theorem root_len : (s.root hm).length = 1032 := by simp [CS.root, zb_len]
theorem CAt.at0 (h : CAt σ c hm s) : ∃ p n, NodeAt σ (s.nd c hm 0) p n := ⟨_, _, h.ring.at_ 0 (by omega)⟩
theorem root_get {p n : Value} (h : NodeAt σ (s.nd c hm 0) p n) : rdOne (σ.get c) 0 = some (.pointer (some ⟨s.d, 0, none⟩)) ∧ rdOne (σ.get c) 1 = some (.int .i64 s.size) ∧ rdOne (σ.get c) 2 = some (.int .i64 s.fast) ∧ rdOne (σ.get c) 1031 = some (.map (some hm)) := by
  have h0 : σ.get c = _ := h.at_
  have key : ∀ i, i ≠ 1029 → i ≠ 1030 → rdOne (σ.get c) i = (s.root hm)[i]? := fun i h1 h2 => by
    rw [h0, rdOne_cells, Nd.get_other (by show i ≠ 3 + 1026; omega) (by show i ≠ 3 + 1027; omega)]; rfl
  refine ⟨key 0 (by omega) (by omega), key 1 (by omega) (by omega), key 2 (by omega) (by omega), ?_⟩
  rw [key 1031 (by omega) (by omega)]
  unfold CS.root
  simp only [List.getElem?_cons_succ]
  rw [List.getElem?_append_right (by rw [bc_len, zb_len]; omega), bc_len, zb_len]
  rfl
theorem CAt.lt (h : CAt σ c hm s) : ∀ j ∈ cids c hm s.row, j < σ.next := by
  intro j hj
  simp only [cids, List.mem_cons, List.mem_map] at hj
  rcases hj with rfl | rfl | ⟨k, hk, rfl⟩
  · have := (h.ring.at_ 0 (by omega)).lt
    exact this
  · exact h.has.lt
  · obtain ⟨i, hi, e⟩ := List.getElem_of_mem hk
    have := (h.ring.at_ (i + 1) (by omega)).lt
    rw [CS.nd_succ (k := k) (by rw [List.getElem?_eq_getElem hi, e])] at this
    exact this
theorem CS.nd_blk {i : Nat} (hi : i < s.row.length + 1) : (s.nd c hm i).blk ∈ c :: s.row.map (·.id) := by
  cases i with
  | zero => exact List.mem_cons_self
  | succ i =>
    have hi' : i < s.row.length := by omega
    rw [CS.nd_succ (List.getElem?_eq_getElem hi')]
    exact List.mem_cons_of_mem _ (List.mem_map.2 ⟨_, List.getElem_mem hi', rfl⟩)
theorem CAt.same (h : CAt σ c hm s) (hg : ∀ j ∈ cids c hm s.row, σ'.get j = σ.get j) : CAt σ' c hm s where
  ring := h.ring.same fun i hi => hg _ (by
    have := CS.nd_blk (c := c) (hm := hm) hi
    simp only [cids, List.mem_cons] at this ⊢
    rcases this with h1 | h1
    · exact .inl h1
    · exact .inr (.inr h1))
  has := h.has.same (hg _ (by simp [cids]))
  ne := h.ne
  ats := h.ats
  len := h.len
  cnt := h.cnt
  size := h.size
  size2 := h.size2
theorem ccheck_ (h : CAt σ c hm s) (hd : Disk σ s.d t F) (hC : t.C m) (x : Int) (hq : Q (.int .i64 (if t.dead then 3 else if x < 0 ∨ t.n ≤ x then 2 else 0)) σ) :
    Does Try.prog 59 [.pointer (some ⟨c, 0, none⟩), .int .i64 x] σ Q := by
  refine d59 ?_
  obtain ⟨p, n, h0⟩ := h.at0
  obtain ⟨e0, e1, e2, e3⟩ := root_get h0
  simp -implicitDefEqProofs (maxSteps := 2000000) (disch := first|assumption|omega|rfl|(simp only[RD];done)|(simp only[RD];omega)) only [RN,Int.reduceBEq,Int.reduceBNe,Int.reduceLT,Int.reduceLE,Int.reduceAdd,Int.reduceSub,Int.reduceMul,Nat.reduceAdd,↓bc_flatz,↓bc_flat16,↓agg_bytez, p59, e0]
  refine stopped_o hd hC ?_
  cases hdd : t.dead
  case true =>
    simp -implicitDefEqProofs (maxSteps := 2000000) (disch := first|assumption|omega|rfl|(simp only[RD];done)|(simp only[RD];omega)) only [RN,Int.reduceBEq,Int.reduceBNe,Int.reduceLT,Int.reduceLE,Int.reduceAdd,Int.reduceSub,Int.reduceMul,Nat.reduceAdd,↓bc_flatz,↓bc_flat16,↓agg_bytez]
    simpa [hdd] using hq
  case false =>
    by_cases h1 : x < 0
    · simp -implicitDefEqProofs (maxSteps := 2000000) (disch := first|assumption|omega|rfl|(simp only[RD];done)|(simp only[RD];omega)) only [RN,Int.reduceBEq,Int.reduceBNe,Int.reduceLT,Int.reduceLE,Int.reduceAdd,Int.reduceSub,Int.reduceMul,Nat.reduceAdd,↓bc_flatz,↓bc_flat16,↓agg_bytez, decide_eq_true h1]
      simpa [hdd, h1] using hq
    · simp -implicitDefEqProofs (maxSteps := 2000000) (disch := first|assumption|omega|rfl|(simp only[RD];done)|(simp only[RD];omega)) only [RN,Int.reduceBEq,Int.reduceBNe,Int.reduceLT,Int.reduceLE,Int.reduceAdd,Int.reduceSub,Int.reduceMul,Nat.reduceAdd,↓bc_flatz,↓bc_flat16,↓agg_bytez, decide_eq_false h1, e0]
      refine len_o hd hC ?_
      by_cases h2 : t.n ≤ x
      · simp -implicitDefEqProofs (maxSteps := 2000000) (disch := first|assumption|omega|rfl|(simp only[RD];done)|(simp only[RD];omega)) only [RN,Int.reduceBEq,Int.reduceBNe,Int.reduceLT,Int.reduceLE,Int.reduceAdd,Int.reduceSub,Int.reduceMul,Nat.reduceAdd,↓bc_flatz,↓bc_flat16,↓agg_bytez, decide_eq_true h2]
        simpa [hdd, h1, h2] using hq
      · simp -implicitDefEqProofs (maxSteps := 2000000) (disch := first|assumption|omega|rfl|(simp only[RD];done)|(simp only[RD];omega)) only [RN,Int.reduceBEq,Int.reduceBNe,Int.reduceLT,Int.reduceLE,Int.reduceAdd,Int.reduceSub,Int.reduceMul,Nat.reduceAdd,↓bc_flatz,↓bc_flat16,↓agg_bytez, decide_eq_false h2]
        simpa [hdd, h1, h2] using hq
theorem base_len {k : Lk} (h : k.data.length = 1024) : k.base.length = 1028 := by simp [Lk.base, h]
theorem link_get {k : Lk} {p n : Value} (h : NodeAt σ k.nd p n) (hl : k.data.length = 1024) : rdOne (σ.get k.id) 0 = some (.int .i64 k.at_) ∧ rdOne (σ.get k.id) 1025 = some (.bool k.fast) ∧ rdOne (σ.get k.id) 1026 = some p ∧ rdOne (σ.get k.id) 1027 = some n ∧ rdPart (σ.get k.id) 1 1024 = some (.agg ⟨bc k.data⟩) := by
  have h0 : σ.get k.id = some (.cells (k.nd.cells p n) none) := h.at_
  have key : ∀ i, i ≠ 1026 → i ≠ 1027 → rdOne (σ.get k.id) i = k.base[i]? := fun i h1 h2 => by
    rw [h0, rdOne_cells, Nd.get_other (by show i ≠ 0 + 1026; omega) (by show i ≠ 0 + 1027; omega)]; rfl
  have e1 : ∀ v, k.base[1025 + v]? = ([.bool k.fast, .pointer none, .pointer none] : List Value)[v]? := fun v => by
    unfold Lk.base
    rw [show 1025 + v = (1024 + v) + 1 by omega, List.getElem?_cons_succ, List.getElem?_append_right (by rw [bc_len, hl]; omega), bc_len, hl, Nat.add_sub_cancel_left]
  refine ⟨key 0 (by omega) (by omega), ?_, ?_, ?_, ?_⟩
  · rw [key 1025 (by omega) (by omega)]; exact e1 0
  · exact h.prev
  · exact h.next
  · rw [h0]
    have h1 : Nat.ble (1 + 1024) (k.nd.cells p n).length = true := Nat.ble_eq_true_of_le (by rw [Nd.cells_len]; show _ ≤ k.base.length; rw [base_len hl]; omega)
    simp only [rdPart, part?, h1, cond_true]
    have e2 : ((k.nd.cells p n).drop 1).take 1024 = bc k.data := by
      unfold Nd.cells Lk.nd Lk.base
      simp only [Nat.zero_add, List.set_cons_succ, List.drop_succ_cons, List.drop_zero]
      rw [List.set_append_right _ _ (by rw [bc_len, hl]; omega), List.set_append_right _ _ (by rw [bc_len, hl]; omega), List.take_left' (by rw [bc_len, hl])]
    rw [e2]
theorem split_row {row : List Lk} {i : Nat} {k : Lk} (h : row[i]? = some k) : ∃ A B, row = A ++ k :: B ∧ A.length = i ∧ row.eraseIdx i = A ++ B := by
  have hi : i < row.length := (List.getElem?_eq_some_iff.1 h).1
  have he := (List.getElem?_eq_some_iff.1 h).2
  refine ⟨row.take i, row.drop (i + 1), ?_, by simp; omega, List.eraseIdx_eq_take_drop_succ _ _⟩
  rw [← he, ← List.drop_eq_getElem_cons hi, List.take_append_drop]
theorem look_mid {A B : List Lk} {k : Lk} (hn : ((A ++ k :: B).map (·.at_)).Nodup) (x : Int) : look (A ++ B) x = if x = k.at_ then none else look (A ++ k :: B) x := by
  have hn2 : ((A ++ B).map (·.at_)).Nodup := by
    refine List.Nodup.sublist ?_ hn
    exact List.Sublist.map _ (List.Sublist.append_left (List.sublist_cons_self _ _) _)
  by_cases hx : x = k.at_
  · rw [if_pos hx, look_none]
    intro k' hk' e
    rw [List.map_append, List.map_cons, List.nodup_append] at hn
    obtain ⟨h1, h2, h3⟩ := hn
    rw [List.nodup_cons] at h2
    rcases List.mem_append.1 hk' with h4 | h4
    · exact h3 _ (List.mem_map.2 ⟨k', h4, rfl⟩) _ List.mem_cons_self (e.trans hx)
    · exact h2.1 (List.mem_map.2 ⟨k', h4, e.trans hx⟩)
  · rw [if_neg hx]
    cases hl : look (A ++ k :: B) x with
    | none =>
      rw [look_none] at hl ⊢
      intro k' hk'
      refine hl k' ?_
      rcases List.mem_append.1 hk' with h4 | h4
      · exact List.mem_append_left _ h4
      · exact List.mem_append_right _ (List.mem_cons_of_mem _ h4)
    | some k' =>
      rw [look_iff hn] at hl
      rw [look_iff hn2]
      refine ⟨?_, hl.2⟩
      rcases List.mem_append.1 hl.1 with h4 | h4
      · exact List.mem_append_left _ h4
      · rcases List.mem_cons.1 h4 with h5 | h5
        · rw [h5] at hl; exact absurd hl.2.symm hx
        · exact List.mem_append_right _ h5
theorem nd_erase {i : Nat} (j : Nat) : ({ s with row := s.row.eraseIdx i } : CS).nd c hm j = s.nd c hm (sk (i + 1) j) := by
  cases j with
  | zero => rfl
  | succ j =>
    show ((s.row.eraseIdx i).getD j default).nd = _
    rw [List.getD_eq_getElem?_getD, List.getElem?_eraseIdx]
    unfold sk
    by_cases h : j < i
    · rw [if_pos h, if_pos (by omega)]
      show _ = (s.row.getD j default).nd
      rw [List.getD_eq_getElem?_getD]
    · rw [if_neg h, if_neg (by omega)]
      show _ = (s.row.getD (j + 1) default).nd
      rw [List.getD_eq_getElem?_getD]
theorem CAt.link (h : CAt σ c hm s) {i : Nat} {k : Lk} (hk : s.row[i]? = some k) : NodeAt σ k.nd (s.nd c hm (pv (s.row.length + 1) (i + 1))).p (s.nd c hm (nx (s.row.length + 1) (i + 1))).p := by
  have hi : i < s.row.length := (List.getElem?_eq_some_iff.1 hk).1
  have := h.ring.at_ (i + 1) (by omega)
  rw [CS.nd_succ hk] at this
  exact this
/-- A link is taken out of the row and out of the map. -/
theorem CAt.erase (h : CAt σ c hm s) {i : Nat} {k : Lk} (hk : s.row[i]? = some k) {σ1 : Store} (hr : Ring σ1 s.row.length fun j => s.nd c hm (sk (i + 1) j)) (hg : σ1.get hm = σ.get hm) (hfast : k.fast = false) :
    ∃ o, delH (.int .i64) (.map (some hm)) (.int .i64 k.at_) σ1 = some (junk, σ1.put hm (some o)) ∧ CAt (σ1.put hm (some o)) c hm { s with row := s.row.eraseIdx i } := by
  have hi : i < s.row.length := (List.getElem?_eq_some_iff.1 hk).1
  obtain ⟨A, B, e1, e2, e3⟩ := split_row hk
  have hlk : look s.row k.at_ = some k := (look_iff h.ats).2 ⟨List.mem_of_getElem? hk, rfl⟩
  obtain ⟨o, d1, d2⟩ := (h.has.same hg).del k.at_
  refine ⟨o, d1, ⟨?_, ?_, ?_, ?_, ?_, ?_, ?_, h.size2⟩⟩
  · have hlen : (s.row.eraseIdx i).length + 1 = s.row.length := by rw [List.length_eraseIdx_of_lt hi]; omega
    show Ring _ ((s.row.eraseIdx i).length + 1) _
    rw [hlen]
    refine (hr.same fun j hj => ?_).congr fun j hj => nd_erase j
    refine get_put_ne' ?_
    have hs := (sk_lt (m := s.row.length + 1) (i := i + 1) (j := j) (by omega) (by omega)).1
    have hb := CS.nd_blk (c := c) (hm := hm) (s := s) hs
    rcases List.mem_cons.1 hb with h1 | h1
    · rw [h1]; exact h.ne.1.symm
    · obtain ⟨k', hk', e⟩ := List.mem_map.1 h1
      rw [← e]; exact h.ne.2 k' hk'
  · have ats := h.ats
    rw [e1] at ats
    refine d2.ext (fun x => ?_) ?_
    · show (look (s.row.eraseIdx i) x).map _ = _
      rw [e3, look_mid ats x, e1]
      by_cases hx : x = k.at_ <;> simp [hx]
    · show (s.row.eraseIdx i).length = _
      rw [List.length_eraseIdx_of_lt hi, hlk]; rfl
  · refine ⟨h.ne.1, fun k' hk' => h.ne.2 k' ?_⟩
    exact List.mem_of_mem_eraseIdx hk'
  · exact h.ats.sublist (List.Sublist.map _ (List.eraseIdx_sublist _ _))
  · exact fun k' hk' => h.len k' (List.mem_of_mem_eraseIdx hk')
  · show s.fast = (((s.row.eraseIdx i).filter (·.fast)).length : Nat)
    rw [h.cnt, e3, e1]
    simp [List.filter_append, hfast]
  · show ((s.row.eraseIdx i).length : Int) ≤ s.size
    rw [List.length_eraseIdx_of_lt hi]
    have := h.size
    omega
theorem all_fast {row : List Lk} (h : ∀ (j : Nat) (k : Lk), row[j]? = some k → k.fast = true) : (row.filter (·.fast)).length = row.length := by
  rw [List.filter_eq_self.2 fun k hk => ?_]
  obtain ⟨j, hj, e⟩ := List.getElem_of_mem hk
  exact h j k (by rw [List.getElem?_eq_getElem hj, e])
theorem room_ (h : CAt σ c hm s) (hf : s.fast < s.size)
    (hq : ∀ σ' row', CAt σ' c hm { s with row := row' } → (row'.length : Int) < s.size → (row' = s.row ∨ ∃ i k, s.row[i]? = some k ∧ k.fast = false ∧ row' = s.row.eraseIdx i) → σ'.next = σ.next → (∀ j, j ∉ cids c hm s.row → σ'.get j = σ.get j) → Q (.bool true) σ') :
    Does Try.prog 61 [.pointer (some ⟨c, 0, none⟩)] σ Q := by
  refine d61 ?_
  obtain ⟨p, n, h0⟩ := h.at0
  obtain ⟨e0, e1, e2, e3⟩ := root_get h0
  have e4 := h.has.len
  by_cases h1 : (s.row.length : Int) < s.size
  · simp -implicitDefEqProofs (maxSteps := 2000000) (disch := first|assumption|omega|rfl|(simp only[RD];done)|(simp only[RD];omega)) only [RN,Int.reduceBEq,Int.reduceBNe,Int.reduceLT,Int.reduceLE,Int.reduceAdd,Int.reduceSub,Int.reduceMul,Nat.reduceAdd,↓bc_flatz,↓bc_flat16,↓agg_bytez, p61, e0, e1, e2, e3, e4, decide_eq_false (show ¬ s.size ≤ s.fast by omega), decide_eq_true h1]
    exact hq σ s.row h h1 (.inl rfl) rfl fun _ _ => rfl
  · have a0 := (h.ring.at_ 0 (by omega)).next
    have e5 : rdOne (σ.get c) 1030 = some (.pointer (some ⟨(s.nd c hm (nx (s.row.length + 1) 0)).blk, (s.nd c hm (nx (s.row.length + 1) 0)).off, none⟩)) := a0
    have hsz := h.size
    have hcnt := h.cnt
    have hfl : (s.row.filter (·.fast)).length < s.row.length := by omega
    have nofast : ¬ ∀ (j : Nat) (k : Lk), s.row[j]? = some k → k.fast = true := fun hh => by have := all_fast hh; omega
    simp -implicitDefEqProofs (maxSteps := 2000000) (disch := first|assumption|omega|rfl|(simp only[RD];done)|(simp only[RD];omega)) only [RN,Int.reduceBEq,Int.reduceBNe,Int.reduceLT,Int.reduceLE,Int.reduceAdd,Int.reduceSub,Int.reduceMul,Nat.reduceAdd,↓bc_flatz,↓bc_flat16,↓agg_bytez, p61, e0, e1, e2, e3, e4, e5, decide_eq_false (show ¬ s.size ≤ s.fast by omega), decide_eq_false h1]
    refine lop1 (fun k v st => ∃ i : Nat, i + k = s.row.length ∧ 0 < k ∧ (∃ x, s.row[i]? = some x ∧ v = .pointer (some ⟨x.id, 0, none⟩)) ∧ st = σ ∧ ∀ j x, j < i → s.row[j]? = some x → x.fast = true) s.row.length ⟨0, by omega, by omega, ?_, rfl, fun j x hj => by omega⟩ ?_
    · have hl : 0 < s.row.length := by omega
      refine ⟨s.row[0], List.getElem?_eq_getElem hl, ?_⟩
      have : nx (s.row.length + 1) 0 = 0 + 1 := by unfold nx; rw [if_neg (by omega)]
      rw [this, CS.nd_succ (List.getElem?_eq_getElem hl)]; rfl
    · rintro kk v st next ⟨i, hi, hk0, ⟨x, hx, rfl⟩, rfl, hall⟩ hn
      have hxl := h.len x (List.mem_of_getElem? hx)
      have nx0 := h.link hx
      obtain ⟨f0, f1, f2, f3, f4⟩ := link_get nx0 hxl
      cases hxf : x.fast with
      | true =>
        rw [hxf] at f1
        have hall2 : ∀ j y, j < i + 1 → s.row[j]? = some y → y.fast = true := fun j y hj hy => by
          by_cases hji : j = i
          · subst hji; rw [hx] at hy; cases hy; exact hxf
          · exact hall j y (by omega) hy
        have hlt : i + 1 < s.row.length := by
          by_cases hc : i + 1 < s.row.length
          · exact hc
          · exact absurd (fun j y hy => hall2 j y (by have := (List.getElem?_eq_some_iff.1 hy).1; omega) hy) nofast
        have e6 : nx (s.row.length + 1) (i + 1) = (i + 1) + 1 := by unfold nx; rw [if_neg (by omega)]
        rw [e6, CS.nd_succ (List.getElem?_eq_getElem hlt)] at f3
        have f3 : rdOne (st.get x.id) 1027 = some (.pointer (some ⟨s.row[i + 1].id, 0, none⟩)) := f3
        simp -implicitDefEqProofs (maxSteps := 2000000) (disch := first|assumption|omega|rfl|(simp only[RD];done)|(simp only[RD];omega)) only [RN,Int.reduceBEq,Int.reduceBNe,Int.reduceLT,Int.reduceLE,Int.reduceAdd,Int.reduceSub,Int.reduceMul,Nat.reduceAdd,↓bc_flatz,↓bc_flat16,↓agg_bytez, f1, f3]
        exact hn _ _ (by omega) ⟨i + 1, by omega, by omega, ⟨_, List.getElem?_eq_getElem hlt, rfl⟩, rfl, hall2⟩
      | false =>
        rw [hxf] at f1
        simp -implicitDefEqProofs (maxSteps := 2000000) (disch := first|assumption|omega|rfl|(simp only[RD];done)|(simp only[RD];omega)) only [RN,Int.reduceBEq,Int.reduceBNe,Int.reduceLT,Int.reduceLE,Int.reduceAdd,Int.reduceSub,Int.reduceMul,Nat.reduceAdd,↓bc_flatz,↓bc_flat16,↓agg_bytez, f1]
        have e7 : s.nd c hm (i + 1) = x.nd := CS.nd_succ hx
        have hil : i < s.row.length := by omega
        have key : ∀ Q' : Value → Store → Prop, (∀ σ', σ'.next = st.next → Ring σ' s.row.length (fun j => s.nd c hm (sk (i + 1) j)) → (∀ b, (∀ k, k < s.row.length + 1 → k ≠ i + 1 → b ≠ (s.nd c hm k).blk) → σ'.get b = st.get b) → Q' (.tuple #[]) σ') → Does Try.prog 60 [.pointer (some ⟨x.id, 0, none⟩)] st Q' := fun Q' hq' => by
          have := leave_ (Q := Q') (i := i + 1) h.ring (by omega) (by omega) hq'
          rw [e7] at this
          exact this
        refine key _ fun σ1 n1 r1 g1 => ?_
        have r0 := r1.at_ 0 (by omega)
        rw [show sk (i + 1) 0 = 0 from rfl] at r0
        obtain ⟨g0, g2, g3, g4⟩ := root_get r0
        have gx : σ1.get x.id = st.get x.id := g1 _ fun k hk hki e => hki (h.ring.inj _ _ hk (by omega) (by rw [e7]; exact e.symm))
        have hmnd : ∀ k, k < s.row.length + 1 → hm ≠ (s.nd c hm k).blk := fun k hk e => by
          have hb := CS.nd_blk (c := c) (hm := hm) (s := s) hk
          rw [← e] at hb
          rcases List.mem_cons.1 hb with h2 | h2
          · exact h.ne.1 h2
          · obtain ⟨y, hy, e⟩ := List.mem_map.1 h2
            exact h.ne.2 y hy e
        have gh : σ1.get hm = st.get hm := g1 _ fun k hk _ => hmnd k hk
        obtain ⟨o, d1, d2⟩ := h.erase hx r1 gh hxf
        rw [← gx] at f0
        simp -implicitDefEqProofs (maxSteps := 2000000) (disch := first|assumption|omega|rfl|(simp only[RD];done)|(simp only[RD];omega)) only [RN,Int.reduceBEq,Int.reduceBNe,Int.reduceLT,Int.reduceLE,Int.reduceAdd,Int.reduceSub,Int.reduceMul,Nat.reduceAdd,↓bc_flatz,↓bc_flat16,↓agg_bytez, f0, g4, d1]
        refine hq _ _ d2 ?_ (.inr ⟨i, x, hx, hxf, rfl⟩) ?_ fun j hj => ?_
        · rw [List.length_eraseIdx_of_lt hil]; omega
        · rw [next_max, n1]; have := h.has.lt; omega
        · simp only [cids, List.mem_cons, not_or] at hj
          rw [get_put_ne' hj.2.1]
          refine g1 j fun k hk _ e => ?_
          have hb := CS.nd_blk (c := c) (hm := hm) (s := s) hk
          rw [← e] at hb
          rcases List.mem_cons.1 hb with h2 | h2
          · exact hj.1 h2
          · exact hj.2.2 h2
end Go.Proofs.Ytiaonndafhfkmaa
