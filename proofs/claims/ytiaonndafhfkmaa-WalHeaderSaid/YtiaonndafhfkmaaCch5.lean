/- Contracts of the package cache: flushing, a new one. -/
import Derived.Test.YtiaonndafhfkmaaCch4
set_option linter.all false
set_option maxRecDepth 100000
set_option maxHeartbeats 400000
namespace Go.Proofs.Ytiaonndafhfkmaa
open Go.Am
variable {σ σ' : Store} {c hm d m : Nat} {s : CS} {k : Lk} {t : DS} {F G : List Nat} {Q : Value → Store → Prop} {size fast : Int} {v : View}
theorem look_two {A B : List Lk} {k k' : Lk} (hn : ((A ++ k :: B).map (·.at_)).Nodup) (he : k'.at_ = k.at_) (x : Int) : look (A ++ k' :: B) x = if x = k.at_ then some k' else look (A ++ k :: B) x := by
  have hn' : ((A ++ k' :: B).map (·.at_)).Nodup := by
    rw [List.map_append, List.map_cons] at hn ⊢
    rw [he]; exact hn
  by_cases hx : x = k.at_
  · rw [if_pos hx]
    exact (look_iff hn').2 ⟨by simp, by rw [he, hx]⟩
  · rw [if_neg hx]
    have h1 := look_mid hn x
    have h2 := look_mid hn' x
    rw [if_neg hx] at h1
    rw [if_neg (by rw [he]; exact hx)] at h2
    rw [← h2, h1]
theorem nd_set {i : Nat} (hi : i < s.row.length) (j : Nat) : ({ s with row := s.row.set i k } : CS).nd c hm j = if j = i + 1 then k.nd else s.nd c hm j := by
  cases j with
  | zero => rw [if_neg (by omega)]; rfl
  | succ j =>
    show ((s.row.set i k).getD j default).nd = _
    rw [List.getD_eq_getElem?_getD, List.getElem?_set]
    by_cases h : i = j
    · subst h
      rw [if_pos rfl, if_pos rfl]
      rw [if_pos hi]; rfl
    · rw [if_neg h, if_neg (by omega)]
      show _ = (s.row.getD j default).nd
      rw [List.getD_eq_getElem?_getD]
/-- A link in the row is let go. -/
theorem CAt.slack (h : CAt σ c hm s) {i : Nat} (hk : s.row[i]? = some k) (hf : k.fast = true) :
    ∃ σa σb, wrOne (σ.get k.id) σ k.id 1025 (.bool false) = some (junk, σa) ∧ rdOne (σa.get c) 2 = some (.int .i64 s.fast) ∧ wrOne (σa.get c) σa c 2 (.int .i64 (s.fast - 1)) = some (junk, σb) ∧
      CAt σb c hm { s with fast := s.fast - 1, row := s.row.set i { k with fast := false } } ∧ σb.next = σ.next ∧ ∀ j, j ≠ k.id → j ≠ c → σb.get j = σ.get j := by
  have hi : i < s.row.length := (List.getElem?_eq_some_iff.1 hk).1
  have hl := h.len k (List.mem_of_getElem? hk)
  have hn := h.link hk
  have e7 : s.nd c hm (i + 1) = k.nd := CS.nd_succ hk
  have h0 : σ.get k.id = some (.cells (k.nd.cells _ _) none) := hn.at_
  have hkl := hn.lt
  have hw : wrOne (σ.get k.id) σ k.id 1025 (.bool false) = some (junk, σ.put k.id (some (.cells (({ k with fast := false } : Lk).nd.cells (s.nd c hm (pv (s.row.length + 1) (i + 1))).p (s.nd c hm (nx (s.row.length + 1) (i + 1))).p) none))) := by
    rw [h0, wrOne_cells (by rw [Nd.cells_len]; show 1025 < k.base.length; rw [base_len hl]; omega), Nd.set_other (by show 1025 ≠ 0 + 1026; omega) (by show 1025 ≠ 0 + 1027; omega)]
    have : ({ k.nd with base := k.nd.base.set 1025 (.bool false) } : Nd) = ({ k with fast := false } : Lk).nd := by
      show Nd.mk k.id 0 (k.base.set 1025 (.bool false)) = _
      rw [base_set_fast hl]; rfl
    rw [this]
  obtain ⟨σ1, hσ1⟩ : ∃ σ1, σ1 = σ.put k.id (some (.cells (({ k with fast := false } : Lk).nd.cells (s.nd c hm (pv (s.row.length + 1) (i + 1))).p (s.nd c hm (nx (s.row.length + 1) (i + 1))).p) none)) := ⟨_, rfl⟩
  rw [← hσ1] at hw
  have g1 : ∀ j, j ≠ k.id → σ1.get j = σ.get j := fun j hj => by rw [hσ1, get_put_ne' hj]
  have n1 : σ1.next = σ.next := by rw [hσ1, next_max]; have : k.id < σ.next := hkl; omega
  have hlen : (s.row.set i { k with fast := false }).length = s.row.length := List.length_set
  have hp : ∀ j, (({ s with row := s.row.set i { k with fast := false } } : CS).nd c hm j).p = (s.nd c hm j).p := fun j => by
    rw [nd_set hi]
    by_cases hj : j = i + 1
    · rw [if_pos hj, hj, e7]; rfl
    · rw [if_neg hj]
  have hbk : ∀ j, (({ s with row := s.row.set i { k with fast := false } } : CS).nd c hm j).blk = (s.nd c hm j).blk := fun j => by
    rw [nd_set hi]
    by_cases hj : j = i + 1
    · rw [if_pos hj, hj, e7]; rfl
    · rw [if_neg hj]
  have r1 : Ring σ1 (s.row.length + 1) (({ s with row := s.row.set i { k with fast := false } } : CS).nd c hm) := by
    refine ⟨by omega, fun j hj => ?_, fun a b ha hb e => h.ring.inj a b ha hb (by rw [← hbk a, ← hbk b]; exact e)⟩
    rw [hp, hp, nd_set hi]
    by_cases hj' : j = i + 1
    · rw [if_pos hj', hj']
      refine ⟨by rw [hσ1]; exact Store.get_put_same _ _ _, ?_⟩
      show 1027 < (Lk.mk k.id k.at_ k.data false).base.length
      rw [base_len (k := Lk.mk k.id k.at_ k.data false) hl]; omega
    · rw [if_neg hj']
      exact (h.ring.at_ j hj).same (g1 _ fun e => hj' (h.ring.inj j (i + 1) hj (by omega) (by rw [e7]; exact e)))
  have r1' : Ring σ1 (({ s with row := s.row.set i { k with fast := false } } : CS).row.length + 1) (({ s with row := s.row.set i { k with fast := false } } : CS).nd c hm) := by
    show Ring σ1 ((s.row.set i { k with fast := false }).length + 1) _
    rw [hlen]; exact r1
  have a0 := r1'.at_ 0 (by omega)
  obtain ⟨w1, w2⟩ := ring_fast (v := s.fast - 1) r1' a0
  obtain ⟨_, _, g2, _⟩ := root_get a0
  have hkc : k.id ≠ c := fun e => by
    have := h.ring.inj 0 (i + 1) (by omega) (by omega) (by rw [e7]; exact e.symm)
    omega
  have hkh : k.id ≠ hm := h.ne.2 k (List.mem_of_getElem? hk)
  have hcl : c < σ.next := h.lt c (by simp [cids])
  obtain ⟨A, B, e1, e2, e3⟩ := split_row hk
  have es : s.row.set i { k with fast := false } = A ++ { k with fast := false } :: B := by
    rw [e1, List.set_append_right _ _ (by omega), e2, Nat.sub_self]; rfl
  have ats := h.ats
  rw [e1] at ats
  refine ⟨σ1, _, hw, g2, w1, ⟨w2, ?_, ?_, ?_, ?_, ?_, ?_, h.size2⟩, by rw [next_max]; omega, fun j ha hb => by rw [get_put_ne' hb, g1 j ha]⟩
  · show MapC _ hm _ (s.row.set i { k with fast := false }).length
    rw [hlen]
    refine (h.has.same (by rw [get_put_ne' h.ne.1, g1 hm hkh.symm])).ext (fun x => ?_) rfl
    show (look (s.row.set i { k with fast := false }) x).map _ = _
    rw [es, look_two (k := k) (k' := { k with fast := false }) ats rfl, e1]
    by_cases hx : x = k.at_
    · rw [if_pos hx, hx, ← e1, (look_iff h.ats).2 ⟨List.mem_of_getElem? hk, rfl⟩]; rfl
    · rw [if_neg hx]
  · refine ⟨h.ne.1, fun y hy => ?_⟩
    have hy : y ∈ s.row.set i { k with fast := false } := hy
    rcases List.mem_or_eq_of_mem_set hy with hy | hy
    · exact h.ne.2 y hy
    · rw [hy]; exact hkh
  · show ((s.row.set i { k with fast := false }).map (·.at_)).Nodup
    rw [es, List.map_append, List.map_cons]
    rw [List.map_append, List.map_cons] at ats
    exact ats
  · intro y hy
    have hy : y ∈ s.row.set i { k with fast := false } := hy
    rcases List.mem_or_eq_of_mem_set hy with hy | hy
    · exact h.len y hy
    · rw [hy]; exact hl
  · show s.fast - 1 = (((s.row.set i { k with fast := false }).filter (·.fast)).length : Nat)
    rw [h.cnt, es, e1]
    simp [List.filter_append, hf]
    omega
  · show ((s.row.set i { k with fast := false }).length : Int) ≤ s.size
    rw [hlen]; exact h.size
theorem cflush_ (h : Cache σ c d size fast v F) (hd : Disk σ d t G) (hA : Apart F G) (hC : t.C m) (hm0 : m < 2 ^ 29) (hdead : t.dead = false) {x : Int} (h0 : 0 ≤ x) (h1 : x < t.n) {b : List Int} (hv : v x = some (b, true))
    (hq : ∀ σ' G', Disk σ' d (t.write x b).2 G' → Apart F G' → Upd (F ++ G) σ σ' (F ++ G') → (if (t.write x b).1 = 0 then Cache σ' c d size (fast - 1) (fun y => if y = x then some (b, false) else v y) F else Cache σ' c d size fast v F) → Q (.int .i64 (t.write x b).1) σ') :
    Does Try.prog 58 [.pointer (some ⟨c, 0, none⟩), .int .i64 x] σ Q := by
  refine d58 ?_
  have hb : b.length = 1024 := h.data hv
  obtain ⟨hm, s, h, rfl, rfl, rfl, rfl, rfl⟩ := h
  have hlt := h.lt
  have hfb := cnt_le h
  simp -implicitDefEqProofs (maxSteps := 2000000) (disch := first|assumption|omega|rfl|(simp only[RD];done)|(simp only[RD];omega)) only [RN,Int.reduceBEq,Int.reduceBNe,Int.reduceLT,Int.reduceLE,Int.reduceAdd,Int.reduceSub,Int.reduceMul,Nat.reduceAdd,↓bc_flatz,↓bc_flat16,↓agg_bytez, p58]
  refine ccheck_ h hd hC x ?_
  rw [hdead]
  obtain ⟨p, n, hn0⟩ := h.at0
  obtain ⟨g0, g1, g2, g3⟩ := root_get hn0
  have hlk := h.has.look (.pointer none) x
  obtain ⟨k, hl, hkb⟩ : ∃ k, look s.row x = some k ∧ (k.data, k.fast) = (b, true) := by
    unfold viewOf at hv
    cases hl : look s.row x with
    | none => rw [hl] at hv; cases hv
    | some k => rw [hl] at hv; exact ⟨k, rfl, Option.some.inj hv⟩
  simp only [Prod.mk.injEq] at hkb
  obtain ⟨hkb, hkf⟩ := hkb
  obtain ⟨i, hi⟩ := look_get hl
  have hat := look_at hl
  obtain ⟨f0, f1, f2, f3, f4⟩ := link_get (h.link hi) (h.len k (List.mem_of_getElem? hi))
  rw [hl] at hlk
  rw [hkf] at f1
  rw [hkb] at f4
  simp -implicitDefEqProofs (maxSteps := 2000000) (disch := first|assumption|omega|rfl|(simp only[RD];done)|(simp only[RD];omega)) only [RN,Int.reduceBEq,Int.reduceBNe,Int.reduceLT,Int.reduceLE,Int.reduceAdd,Int.reduceSub,Int.reduceMul,Nat.reduceAdd,↓bc_flatz,↓bc_flat16,↓agg_bytez, if_neg (show ¬ (x < 0 ∨ t.n ≤ x) by omega), if_false, Bool.false_eq_true, g3, hlk, Option.map_some, f1, g0, f4]
  refine write_o hd hC hm0 hb fun σ1 G1 d1 u1 => ?_
  have h1' : CAt σ1 c hm s := h.same fun j hj => Upd.get u1 hA.symm hlt j hj
  have hA1 : Apart (cids c hm s.row) G1 := (hA.symm.upd u1 hlt).symm
  have hbad : ∀ r : Int, r = (t.write x b).1 → (r = 0 ∨ r ≠ 0) := fun r _ => by omega
  by_cases hr : (t.write x b).1 = 0
  · obtain ⟨σ2, σ3, w1, w2, w3, c3, n3, f5⟩ := h1'.slack hi hkf
    simp only [if_pos hr] at hq
    have hw := hr
    rw [hr] at hq ⊢
    simp -implicitDefEqProofs (maxSteps := 2000000) (disch := first|assumption|omega|rfl|(simp only[RD];done)|(simp only[RD];omega)) only [RN,Int.reduceBEq,Int.reduceBNe,Int.reduceLT,Int.reduceLE,Int.reduceAdd,Int.reduceSub,Int.reduceMul,Nat.reduceAdd,↓bc_flatz,↓bc_flat16,↓agg_bytez, w1, w2, w3]
    have hkid : k.id ∈ cids c hm s.row := by simp only [cids, List.mem_cons, List.mem_map]; exact .inr (.inr ⟨k, List.mem_of_getElem? hi, rfl⟩)
    have hcid : c ∈ cids c hm s.row := by simp [cids]
    have hids : cids c hm (s.row.set i { k with fast := false }) = cids c hm s.row := by
      unfold cids
      rw [List.map_set]
      have : (s.row.map (·.id)).set i k.id = s.row.map (·.id) := by
        refine List.ext_getElem? fun j => ?_
        rw [List.getElem?_set]
        by_cases hij : i = j
        · subst hij
          have hlt2 : i < s.row.length := (List.getElem?_eq_some_iff.1 hi).1
          have e4 := (List.getElem?_eq_some_iff.1 hi).2
          simp [hlt2, e4]
        · rw [if_neg hij]
      show c :: hm :: (s.row.map (·.id)).set i k.id = _
      rw [this]
    have hd3 : Disk σ3 s.d (t.write x b).2 G1 := d1.same fun j hj => f5 j (fun e => hA1 k.id hkid (e ▸ hj)) (fun e => hA1 c hcid (e ▸ hj))
    refine hq σ3 G1 hd3 hA1 ⟨by have := u1.next; omega, fun j hj => ?_, fun j hj hn => ?_⟩ ⟨hm, _, c3, rfl, rfl, rfl, ?_, hids.symm⟩
    · rcases List.mem_append.1 hj with h2 | h2
      · exact ⟨by have := hlt j h2; have := u1.next; omega, .inl (List.mem_append_left _ h2)⟩
      · obtain ⟨a1, a2⟩ := u1.ids j h2
        refine ⟨by omega, ?_⟩
        rcases a2 with a2 | a2
        · exact .inl (List.mem_append_right _ a2)
        · exact .inr a2
    · rw [f5 j (fun e => hn (List.mem_append_left _ (e ▸ hkid))) (fun e => hn (List.mem_append_left _ (e ▸ hcid))), u1.same j hj fun h => hn (List.mem_append_right _ h)]
    · funext y
      have ats := h.ats
      obtain ⟨A, B, e1, e2, e3⟩ := split_row hi
      have es : s.row.set i { k with fast := false } = A ++ { k with fast := false } :: B := by
        rw [e1, List.set_append_right _ _ (by omega), e2, Nat.sub_self]; rfl
      rw [e1] at ats
      show viewOf (s.row.set i { k with fast := false }) y = _
      unfold viewOf
      rw [es, look_two (k := k) (k' := { k with fast := false }) ats rfl, e1]
      by_cases hy : y = x
      · rw [if_pos (by rw [hat]; exact hy), if_pos hy]
        show some (k.data, false) = _
        rw [hkb]
      · rw [if_neg (by rw [hat]; exact hy), if_neg hy]
  · simp only [if_neg hr] at hq
    have e : ((t.write x b).1 != 0) = true := by simp [hr]
    simp -implicitDefEqProofs (maxSteps := 2000000) (disch := first|assumption|omega|rfl|(simp only[RD];done)|(simp only[RD];omega)) only [RN,Int.reduceBEq,Int.reduceBNe,Int.reduceLT,Int.reduceLE,Int.reduceAdd,Int.reduceSub,Int.reduceMul,Nat.reduceAdd,↓bc_flatz,↓bc_flat16,↓agg_bytez, e]
    refine hq σ1 G1 d1 hA1 ⟨u1.next, fun j hj => ?_, fun j hj hn => u1.same j hj fun h => hn (List.mem_append_right _ h)⟩ ⟨hm, s, h1', rfl, rfl, rfl, rfl, rfl⟩
    rcases List.mem_append.1 hj with h2 | h2
    · exact ⟨by have := hlt j h2; have := u1.next; omega, .inl (List.mem_append_left _ h2)⟩
    · obtain ⟨a1, a2⟩ := u1.ids j h2
      refine ⟨by omega, ?_⟩
      rcases a2 with a2 | a2
      · exact .inl (List.mem_append_right _ a2)
      · exact .inr a2
theorem cnew_ (hd : Disk σ d t G) (hC : t.C m) {n : Int} (h0 : 1 ≤ n) (h1 : n ≤ 4096)
    (hq : ∀ σ' c F, Cache σ' c d n 0 (fun _ => none) F → Upd [] σ σ' F → (∀ j ∈ F, σ.next ≤ j) → Q (.tuple #[.pointer (some ⟨c, 0, none⟩), .int .i64 0]) σ') :
    Does Try.prog 47 [.pointer (some ⟨d, 0, none⟩), .int .i64 n] σ Q := by
  refine d47 ?_
  simp -implicitDefEqProofs (maxSteps := 2000000) (disch := first|assumption|omega|rfl|(simp only[RD];done)|(simp only[RD];omega)) only [RN,Int.reduceBEq,Int.reduceBNe,Int.reduceLT,Int.reduceLE,Int.reduceAdd,Int.reduceSub,Int.reduceMul,Nat.reduceAdd,↓bc_flatz,↓bc_flat16,↓agg_bytez, p47]
  refine len_o hd hC ?_
  have hn := hC.ok.n
  have e : (t.n == 0) = false := by simp; omega
  have u4 : unrle [(1, Value.int .i64 0), (1024, .int .u8 0), (1, .bool false), (2, .pointer none)] = .int .i64 0 :: (bc zb ++ [.bool false, .pointer none, .pointer none]) := by
    have := bc_zb
    simp only [unrle, List.append_nil] at this ⊢
    rw [this]; rfl
  have l4 : (Value.int .i64 0 :: (bc zb ++ [.bool false, .pointer none, .pointer none])).length = 1028 := by simp [zb_len]
  simp -implicitDefEqProofs (maxSteps := 2000000) (disch := first|assumption|omega|rfl|(simp only[RD];done)|(simp only[RD];omega)) only [RN,Int.reduceBEq,Int.reduceBNe,Int.reduceLT,Int.reduceLE,Int.reduceAdd,Int.reduceSub,Int.reduceMul,Nat.reduceAdd,↓bc_flatz,↓bc_flat16,↓agg_bytez, e, decide_eq_false (show ¬ n < 1 by omega), decide_eq_false (show ¬ 4096 < n by omega), u4, l4]
  obtain ⟨S, hS⟩ : ∃ S : CS, S = ⟨d, n, 0, []⟩ := ⟨_, rfl⟩
  have hroot : S.root σ.next = Value.pointer (some ⟨d, 0, none⟩) :: .int .i64 n :: .int .i64 0 :: .int .i64 0 :: (bc zb ++ [.bool false, .pointer none, .pointer none] ++ [.map (some σ.next)]) := by
    rw [hS]; unfold CS.root; rw [List.append_assoc]; rfl
  have hcells : (S.nd (σ.next + 1) σ.next 0).cells (.pointer (some ⟨σ.next + 1, 3, none⟩)) (.pointer (some ⟨σ.next + 1, 3, none⟩)) = Value.pointer (some ⟨d, 0, none⟩) :: .int .i64 n :: .int .i64 0 :: .int .i64 0 :: (((bc zb ++ [Value.bool false, .pointer none, .pointer none] ++ [Value.map (some σ.next)] : List Value).set 1025 (.pointer (some ⟨σ.next + 1, 3, none⟩))).set 1026 (.pointer (some ⟨σ.next + 1, 3, none⟩))) := by
    show ((S.root σ.next).set 1029 _).set 1030 _ = _
    rw [hroot]; rfl
  rw [← hcells]
  have n2 : ((σ.push (.map [] 0)).push (.cells ((S.nd (σ.next + 1) σ.next 0).cells (.pointer (some ⟨σ.next + 1, 3, none⟩)) (.pointer (some ⟨σ.next + 1, 3, none⟩))) none)).next = σ.next + 2 := by rw [Store.next_push, Store.next_push]
  have hc : ((σ.push (.map [] 0)).push (.cells ((S.nd (σ.next + 1) σ.next 0).cells (.pointer (some ⟨σ.next + 1, 3, none⟩)) (.pointer (some ⟨σ.next + 1, 3, none⟩))) none)).get (σ.next + 1) = some (.cells ((S.nd (σ.next + 1) σ.next 0).cells (.pointer (some ⟨σ.next + 1, 3, none⟩)) (.pointer (some ⟨σ.next + 1, 3, none⟩))) none) := get_push_eq (by rw [Store.next_push])
  have hmm : ((σ.push (.map [] 0)).push (.cells ((S.nd (σ.next + 1) σ.next 0).cells (.pointer (some ⟨σ.next + 1, 3, none⟩)) (.pointer (some ⟨σ.next + 1, 3, none⟩))) none)).get σ.next = some (.map [] 0) := by
    rw [get_push_ne (by rw [Store.next_push]; omega), Store.get_push_same]
  have hk : ∀ j, j < σ.next → ((σ.push (.map [] 0)).push (.cells ((S.nd (σ.next + 1) σ.next 0).cells (.pointer (some ⟨σ.next + 1, 3, none⟩)) (.pointer (some ⟨σ.next + 1, 3, none⟩))) none)).get j = σ.get j := fun j hj => by
    rw [get_push_ne (by rw [Store.next_push]; omega), get_push_ne hj]
  generalize (σ.push (.map [] 0)).push (.cells ((S.nd (σ.next + 1) σ.next 0).cells (.pointer (some ⟨σ.next + 1, 3, none⟩)) (.pointer (some ⟨σ.next + 1, 3, none⟩))) none) = σ2 at n2 hc hmm hk ⊢
  have hrow : S.row = [] := by rw [hS]
  have cat : CAt σ2 (σ.next + 1) σ.next S := by
    refine ⟨⟨by omega, fun i hi => ?_, fun i j hi hj _ => ?_⟩, ?_, ⟨by omega, fun y hy => ?_⟩, ?_, fun y hy => ?_, ?_, ?_, ?_⟩
    · rw [hrow] at hi ⊢
      have : i = 0 := by simpa using hi
      subst this
      exact ⟨hc, by show 3 + 1027 < (S.root σ.next).length; rw [root_len]; omega⟩
    · rw [hrow] at hi hj
      simp at hi hj
      omega
    · rw [hrow]; exact MapC.new hmm
    · rw [hrow] at hy; cases hy
    · rw [hrow]; exact List.nodup_nil
    · rw [hrow] at hy; cases hy
    · rw [hrow, hS]; rfl
    · rw [hrow, hS]; show (0 : Int) ≤ n; omega
    · rw [hS]; exact h1
  refine hq σ2 (σ.next + 1) (cids (σ.next + 1) σ.next S.row) ⟨_, S, cat, by rw [hS], by rw [hS], by rw [hS], by rw [hrow]; rfl, rfl⟩ ⟨by omega, fun j hj => ⟨cat.lt j hj, ?_⟩, fun j hj _ => hk j hj⟩ fun j hj => ?_
  all_goals
    rw [hrow] at hj
    simp only [cids, List.map_nil, List.mem_cons, List.not_mem_nil, or_false] at hj
  · right; omega
  · omega
end Go.Proofs.Ytiaonndafhfkmaa
