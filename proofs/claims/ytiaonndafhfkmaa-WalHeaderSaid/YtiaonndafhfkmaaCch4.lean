/- Contracts of the package cache: putting, flushing, a new one. -/
import Derived.Test.YtiaonndafhfkmaaCch3
set_option linter.all false
set_option maxRecDepth 100000
set_option maxHeartbeats 400000
namespace Go.Proofs.Ytiaonndafhfkmaa
open Go.Am
variable {σ σ' : Store} {c hm d m : Nat} {s : CS} {k : Lk} {t : DS} {F G : List Nat} {Q : Value → Store → Prop} {size fast : Int} {v : View}
theorem CMid.lt (h : CMid σ c hm s k) : k.id < σ.next ∧ hm < σ.next ∧ c < σ.next ∧ ∀ y ∈ s.row, y.id < σ.next := by
  obtain ⟨p, n, hn⟩ := h.node
  refine ⟨hn.lt, h.has.lt, (h.ring.at_ 0 (by omega)).lt, fun y hy => ?_⟩
  obtain ⟨i, hi, e⟩ := List.getElem_of_mem hy
  have := (h.ring.at_ (i + 1) (by omega)).lt
  rw [CS.nd_succ (k := y) (by rw [List.getElem?_eq_getElem hi, e])] at this
  exact this
theorem mid_fast' (h : CMid σ c hm s k) (hf : k.fast = false) :
    ∃ σa σb, wrOne (σ.get k.id) σ k.id 1025 (.bool true) = some (junk, σa) ∧ rdOne (σ.get k.id) 1025 = some (.bool false) ∧ rdOne (σa.get c) 2 = some (.int .i64 s.fast) ∧
      wrOne (σa.get c) σa c 2 (.int .i64 (s.fast + 1)) = some (junk, σb) ∧ CMid σb c hm { s with fast := s.fast + 1 } { k with fast := true } ∧ σb.next = σ.next ∧ ∀ j, j ≠ k.id → j ≠ c → σb.get j = σ.get j := by
  obtain ⟨o, o2, h1, h2, h3, h4, h5⟩ := mid_fast h hf
  obtain ⟨l1, l2, l3, _⟩ := h.lt
  exact ⟨_, _, h1, h3, h2, h4, h5, by simp only [next_max]; omega, fun j ha hb => by rw [get_put_ne' hb, get_put_ne' ha]⟩
theorem mid_data' (h : CMid σ c hm s k) {b : List Int} (hb : b.length = 1024) :
    ∃ σa, storeV 1024 (.pointer (some ⟨k.id, 1, none⟩)) (.agg ⟨bc b⟩) σ = some (junk, σa) ∧ CMid σa c hm s { k with data := b } ∧ σa.next = σ.next ∧ ∀ j, j ≠ k.id → σa.get j = σ.get j := by
  obtain ⟨o, h1, h2⟩ := mid_data h hb
  obtain ⟨l1, l2, l3, _⟩ := h.lt
  exact ⟨_, h1, h2, by simp only [next_max]; omega, fun j ha => get_put_ne' ha⟩
theorem mid_fastv (h : CMid σ c hm s k) : rdOne (σ.get k.id) 1025 = some (.bool k.fast) := by
  obtain ⟨p, n, hn⟩ := h.node
  exact (link_get hn h.len.2).2.1
theorem cnt_le (h : CAt σ c hm s) : 0 ≤ s.fast ∧ s.fast ≤ 4096 := by
  have h1 := h.cnt
  have h2 := h.size
  have h3 := h.size2
  have h4 := List.length_filter_le (fun k : Lk => k.fast) s.row
  omega
/-- Putting: the place is held fast from then on. -/
theorem cput_ (h : Cache σ c d size fast v F) (hd : Disk σ d t G) (hA : Apart F G) (hC : t.C m) (hdead : t.dead = false) {x : Int} (h0 : 0 ≤ x) (h1 : x < t.n) {b : List Int} (hb : b.length = 1024) (hv : (v x).isSome ∨ fast < size)
    (hq : ∀ σ' v' F', Cache σ' c d size (match v x with | some (_, true) => fast | _ => fast + 1) v' F' → Disk σ' d t G → Apart F' G → Upd (F ++ G) σ σ' (F' ++ G) → Shrink v v' x → v' x = some (b, true) → Q (.int .i64 0) σ') :
    Does Try.prog 39 [.pointer (some ⟨c, 0, none⟩), .int .i64 x, .agg ⟨bc b⟩] σ Q := by
  refine d39 ?_
  obtain ⟨hm, s, h, rfl, rfl, rfl, rfl, rfl⟩ := h
  have hlt := h.lt
  have hfb := cnt_le h
  have k1 : Keeps σ (σ.push (.cells (bc b) none)) := (Keeps.refl σ).push _
  have h' := h.same (σ' := σ.push (.cells (bc b) none)) fun j hj => k1.2 j (hlt j hj)
  have hd' := hd.later k1
  have hz : (σ.push (.cells (bc b) none)).get σ.next = some (.cells (bc b) none) := Store.get_push_same _ _
  have hn1 : (σ.push (.cells (bc b) none)).next = σ.next + 1 := Store.next_push _ _
  simp -implicitDefEqProofs (maxSteps := 2000000) (disch := first|assumption|omega|rfl|(simp only[RD];done)|(simp only[RD];omega)) only [RN,Int.reduceBEq,Int.reduceBNe,Int.reduceLT,Int.reduceLE,Int.reduceAdd,Int.reduceSub,Int.reduceMul,Nat.reduceAdd,↓bc_flatz,↓bc_flat16,↓agg_bytez, p39]
  generalize hσ1 : σ.push (.cells (bc b) none) = σ1 at h' hd' hz hn1 k1 ⊢
  clear hσ1
  refine ccheck_ h' hd' hC x ?_
  rw [hdead]
  obtain ⟨p, n, hn0⟩ := h'.at0
  obtain ⟨g0, g1, g2, g3⟩ := root_get hn0
  have hlk := h'.has.look (.pointer none) x
  simp -implicitDefEqProofs (maxSteps := 2000000) (disch := first|assumption|omega|rfl|(simp only[RD];done)|(simp only[RD];omega)) only [RN,Int.reduceBEq,Int.reduceBNe,Int.reduceLT,Int.reduceLE,Int.reduceAdd,Int.reduceSub,Int.reduceMul,Nat.reduceAdd,↓bc_flatz,↓bc_flat16,↓agg_bytez, if_neg (show ¬ (x < 0 ∨ t.n ≤ x) by omega), if_false, Bool.false_eq_true, g3, hlk]
  -- the end, out of the state in which the link is out of the row
  have fin : ∀ (σ2 : Store) (s2 : CS) (k2 : Lk), CMid σ2 c hm s2 { k2 with data := b, fast := true } → s2.d = s.d → s2.size = s.size → s2.fast = (match viewOf s.row x with | some (_, true) => s.fast | _ => s.fast + 1) → k2.at_ = x → σ.next ≤ σ2.next → (k2.id ∈ cids c hm s.row ∨ σ.next ≤ k2.id) →
      (∀ y ∈ s2.row, y.id ∈ cids c hm s.row) → (∀ j, j < σ.next → j ∉ cids c hm s.row → σ2.get j = σ.get j) → (∀ y, y ≠ x → viewOf s2.row y = viewOf s.row y ∨ (viewOf s2.row y = none ∧ ∃ b, viewOf s.row y = some (b, false))) →
      Does Try.prog 62 [.pointer (some ⟨c, 0, none⟩), .pointer (some ⟨k2.id, 0, none⟩)] σ2 fun _ s' => Q (.int .i64 0) s' := fun σ2 s2 k2 m2 a1 a2 a3 a4 a5 a6 a7 a8 a9 => by
    have hl2 := m2.lt
    refine mid_last (k := { k2 with data := b, fast := true }) m2 fun σ3 c3 n3 f3 => ?_
    have hfr : ∀ j, j < σ.next → j ∉ cids c hm s.row → σ3.get j = σ.get j := fun j hj hjc => by
      rw [f3 j (fun e => ?_) (fun hj2 => ?_), a8 j hj hjc]
      · have e : j = k2.id := e
        rcases a6 with a6 | a6
        · exact hjc (e ▸ a6)
        · omega
      · simp only [cids, List.mem_cons, List.mem_map] at hj2
        rcases hj2 with hj2 | hj2 | ⟨y, hy, e⟩
        · exact hjc (by rw [hj2]; simp [cids])
        · exact hjc (by rw [hj2]; simp [cids])
        · exact hjc (e ▸ a7 y hy)
    obtain ⟨u1, u2⟩ := fin_upd (F' := cids c hm (s2.row ++ [{ k2 with data := b, fast := true }])) hlt hd.lt hA (fun j hj => by
      simp only [cids, List.mem_cons, List.mem_map, List.mem_append] at hj
      rcases hj with hj | hj | ⟨y, hy | hy, e⟩
      · exact .inl (by rw [hj]; simp [cids])
      · exact .inl (by rw [hj]; simp [cids])
      · exact .inl (e ▸ a7 y hy)
      · rcases hy with hy | hy
        · rw [← e, hy]; exact a6
        · exact absurd hy List.not_mem_nil) c3.lt (by omega) fun j hj hj1 _ => hfr j hj hj1
    have hats : ∀ y ∈ s2.row, y.at_ ≠ k2.at_ := m2.ats.2
    refine hq σ3 (viewOf (s2.row ++ [{ k2 with data := b, fast := true }])) _ ⟨hm, _, c3, a1, a2, a3, rfl, rfl⟩ (hd.same fun j hj => hfr j (hd.lt j hj) (hA.symm j hj)) u1 u2 (fun y hy => ?_) ?_
    · have e : viewOf (s2.row ++ [{ k2 with data := b, fast := true }]) y = viewOf s2.row y := by
        unfold viewOf
        rw [look_app (k := { k2 with data := b, fast := true }) y hats, if_neg (by rw [show ({ k2 with data := b, fast := true } : Lk).at_ = x from a4]; exact hy)]
      rw [e]; exact a9 y hy
    · unfold viewOf
      rw [look_app (k := { k2 with data := b, fast := true }) x hats, if_pos (show x = k2.at_ from a4.symm)]; rfl
  cases hl : look s.row x with
  | some k =>
    obtain ⟨i, hi⟩ := look_get hl
    have hat := look_at hl
    have hlen := h.len k (List.mem_of_getElem? hi)
    have hv1 : viewOf s.row x = some (k.data, k.fast) := by unfold viewOf; rw [hl]; rfl
    rw [hv1] at fin
    simp -implicitDefEqProofs (maxSteps := 2000000) (disch := first|assumption|omega|rfl|(simp only[RD];done)|(simp only[RD];omega)) only [RN,Int.reduceBEq,Int.reduceBNe,Int.reduceLT,Int.reduceLE,Int.reduceAdd,Int.reduceSub,Int.reduceMul,Nat.reduceAdd,↓bc_flatz,↓bc_flat16,↓agg_bytez, Option.map_some, p39_3]
    simp -implicitDefEqProofs (maxSteps := 2000000) (disch := first|assumption|omega|rfl|(simp only[RD];done)|(simp only[RD];omega)) only [RN,Int.reduceBEq,Int.reduceBNe,Int.reduceLT,Int.reduceLE,Int.reduceAdd,Int.reduceSub,Int.reduceMul,Nat.reduceAdd,↓bc_flatz,↓bc_flat16,↓agg_bytez, p39_2]
    refine mid_leave h' hi fun σ2 m2 n2 f2 => ?_
    have hzk : σ.next ≠ k.id := fun e => by
      have := hlt k.id (by simp only [cids, List.mem_cons, List.mem_map]; exact .inr (.inr ⟨k, List.mem_of_getElem? hi, rfl⟩))
      omega
    have hz2 : σ2.get σ.next = some (.cells (bc b) none) := by rw [f2 _ (fun hj => by have := hlt _ hj; omega), hz]
    have hkid : k.id ∈ cids c hm s.row := by simp only [cids, List.mem_cons, List.mem_map]; exact .inr (.inr ⟨k, List.mem_of_getElem? hi, rfl⟩)
    have hrow : ∀ y ∈ s.row.eraseIdx i, y.id ∈ cids c hm s.row := fun y hy => by
      simp only [cids, List.mem_cons, List.mem_map]; exact .inr (.inr ⟨y, List.mem_of_mem_eraseIdx hy, rfl⟩)
    have hvw : ∀ y, y ≠ x → viewOf (s.row.eraseIdx i) y = viewOf s.row y := fun y hy => by
      have hats := h.ats
      obtain ⟨A, B, e1, e2, e3⟩ := split_row hi
      rw [e1] at hats
      unfold viewOf
      rw [e3, look_mid hats, if_neg (by rw [hat]; exact hy), e1]
    have hf1 := mid_fastv m2
    cases hkf : k.fast with
    | true =>
      rw [hkf] at hf1
      obtain ⟨σ3, w1, m3, n3, f3⟩ := mid_data' m2 hb
      simp -implicitDefEqProofs (maxSteps := 2000000) (disch := first|assumption|omega|rfl|(simp only[RD];done)|(simp only[RD];omega)) only [RN,Int.reduceBEq,Int.reduceBNe,Int.reduceLT,Int.reduceLE,Int.reduceAdd,Int.reduceSub,Int.reduceMul,Nat.reduceAdd,↓bc_flatz,↓bc_flat16,↓agg_bytez, hf1, p39_1, hz2, w1]
      refine fin σ3 { s with row := s.row.eraseIdx i } k ?_ rfl rfl ?_ hat (by omega) (.inl hkid) hrow (fun j hj hjc => ?_) fun y hy => .inl (hvw y hy)
      · rw [← hkf]; exact m3
      · rw [hkf]
      · rw [f3 j (fun e => hjc (e ▸ hkid)), f2 j hjc, k1.2 j hj]
    | false =>
      rw [hkf] at hf1
      obtain ⟨σ3, σ4, w1, w2, w3, w4, m4, n4, f4⟩ := mid_fast' m2 hkf
      have hz4 : σ4.get σ.next = some (.cells (bc b) none) := by
        rw [f4 _ hzk (fun e => by have := hlt c (by simp [cids]); omega), hz2]
      obtain ⟨σ5, w5, m5, n5, f5⟩ := mid_data' m4 hb
      have w3 : rdOne (σ3.get c) 2 = some (.int .i64 s.fast) := w3
      have w4 : wrOne (σ3.get c) σ3 c 2 (.int .i64 (s.fast + 1)) = some (junk, σ4) := w4
      simp -implicitDefEqProofs (maxSteps := 2000000) (disch := first|assumption|omega|rfl|(simp only[RD];done)|(simp only[RD];omega)) only [RN,Int.reduceBEq,Int.reduceBNe,Int.reduceLT,Int.reduceLE,Int.reduceAdd,Int.reduceSub,Int.reduceMul,Nat.reduceAdd,↓bc_flatz,↓bc_flat16,↓agg_bytez, hf1, p39_1, w1, w3, w4, hz4, w5]
      refine fin σ5 _ k m5 rfl rfl ?_ hat (by omega) (.inl hkid) hrow (fun j hj hjc => ?_) fun y hy => .inl (hvw y hy)
      · rw [hkf]
      · rw [f5 j (fun e => hjc (e ▸ hkid)), f4 j (fun e => hjc (e ▸ hkid)) (fun e => hjc (by rw [e]; simp [cids])), f2 j hjc, k1.2 j hj]
  | none =>
    have hv1 : viewOf s.row x = none := by unfold viewOf; rw [hl]; rfl
    rw [hv1] at fin hv
    have hroom : s.fast < s.size := by rcases hv with hv | hv <;> first | exact hv | cases hv
    simp -implicitDefEqProofs (maxSteps := 2000000) (disch := first|assumption|omega|rfl|(simp only[RD];done)|(simp only[RD];omega)) only [RN,Int.reduceBEq,Int.reduceBNe,Int.reduceLT,Int.reduceLE,Int.reduceAdd,Int.reduceSub,Int.reduceMul,Nat.reduceAdd,↓bc_flatz,↓bc_flat16,↓agg_bytez, Option.map_none, p39_3]
    simp -implicitDefEqProofs (maxSteps := 2000000) (disch := first|assumption|omega|rfl|(simp only[RD];done)|(simp only[RD];omega)) only [RN,Int.reduceBEq,Int.reduceBNe,Int.reduceLT,Int.reduceLE,Int.reduceAdd,Int.reduceSub,Int.reduceMul,Nat.reduceAdd,↓bc_flatz,↓bc_flat16,↓agg_bytez, p39_2]
    refine room_ h' hroom fun σ2 row' c2 hsz hrow n2 f2 => ?_
    have hlk2 : look row' x = none := by
      rcases hrow with rfl | ⟨i, k, hk, _, rfl⟩
      · exact hl
      · rw [look_none] at hl ⊢
        exact fun y hy => hl y (List.mem_of_mem_eraseIdx hy)
    have hsub : ∀ y ∈ row', y.id ∈ cids c hm s.row := fun y hy => by
      simp only [cids, List.mem_cons, List.mem_map]
      rcases hrow with rfl | ⟨i, k, hk, _, rfl⟩
      · exact .inr (.inr ⟨y, hy, rfl⟩)
      · exact .inr (.inr ⟨y, List.mem_of_mem_eraseIdx hy, rfl⟩)
    obtain ⟨p2, q2, r2⟩ := c2.at0
    obtain ⟨_, _, _, g4⟩ := root_get r2
    obtain ⟨o, w1, w2⟩ := mid_new c2 (by exact hsz) (x := x) (by exact hlk2) zb_len
    have hbase : (Lk.mk σ2.next x zb false).base = .int .i64 x :: (bc zb ++ [.bool false, .pointer none, .pointer none]) := rfl
    rw [hbase] at w1 w2
    have hltc : c < σ2.next := by have := hlt c (by simp [cids]); omega
    have hlth : hm < σ2.next := by have := hlt hm (by simp [cids]); omega
    have hz2 : σ2.get σ.next = some (.cells (bc b) none) := by rw [f2 _ (fun hj => by have := hlt _ hj; omega), hz]
    have hn6 : ((σ2.push (.cells (.int .i64 x :: (bc zb ++ [.bool false, .pointer none, .pointer none])) none)).put hm (some o)).next = σ2.next + 1 := by
      rw [next_max, Store.next_push]; omega
    have hg6 : ∀ j, j < σ2.next → j ≠ hm → ((σ2.push (.cells (.int .i64 x :: (bc zb ++ [.bool false, .pointer none, .pointer none])) none)).put hm (some o)).get j = σ2.get j := fun j hj hne => by
      rw [get_put_ne' hne, get_push_ne hj]
    simp -implicitDefEqProofs (maxSteps := 2000000) (disch := first|assumption|omega|rfl|(simp only[RD];done)|(simp only[RD];omega)) only [RN,Int.reduceBEq,Int.reduceBNe,Int.reduceLT,Int.reduceLE,Int.reduceAdd,Int.reduceSub,Int.reduceMul,Nat.reduceAdd,↓bc_flatz,↓bc_flat16,↓agg_bytez]
    have hpg : (σ2.push (.cells (.int .i64 x :: (bc zb ++ [.bool false, .pointer none, .pointer none])) none)).get c = σ2.get c := get_push_ne hltc
    generalize hσp : σ2.push (.cells (.int .i64 x :: (bc zb ++ [.bool false, .pointer none, .pointer none])) none) = σp at w1 w2 hn6 hg6 hpg ⊢
    clear hσp
    generalize hσ6 : σp.put hm (some o) = σ6 at w1 w2 hn6 hg6
    clear hσ6
    simp -implicitDefEqProofs (maxSteps := 2000000) (disch := first|assumption|omega|rfl|(simp only[RD];done)|(simp only[RD];omega)) only [RN,Int.reduceBEq,Int.reduceBNe,Int.reduceLT,Int.reduceLE,Int.reduceAdd,Int.reduceSub,Int.reduceMul,Nat.reduceAdd,↓bc_flatz,↓bc_flat16,↓agg_bytez, g4, hpg, w1]
    have hf1 := mid_fastv w2
    obtain ⟨σ3, σ4, w3, w4, w5, w6, m4, n4, f4⟩ := mid_fast' w2 rfl
    have hz4 : σ4.get σ.next = some (.cells (bc b) none) := by
      rw [f4 _ (by show σ.next ≠ σ2.next; omega) (fun e => by have := hlt c (by simp [cids]); omega), hg6 _ (by omega) (fun e => by have := hlt hm (by simp [cids]); omega), hz2]
    obtain ⟨σ5, w7, m5, n5, f5⟩ := mid_data' m4 hb
    have hf1 : rdOne (σ6.get σ2.next) 1025 = some (.bool false) := hf1
    have w3 : wrOne (σ6.get σ2.next) σ6 σ2.next 1025 (.bool true) = some (junk, σ3) := w3
    have w5 : rdOne (σ3.get c) 2 = some (.int .i64 s.fast) := w5
    have w6 : wrOne (σ3.get c) σ3 c 2 (.int .i64 (s.fast + 1)) = some (junk, σ4) := w6
    have w7 : storeV 1024 (.pointer (some ⟨σ2.next, 1, none⟩)) (.agg ⟨bc b⟩) σ4 = some (junk, σ5) := w7
    simp -implicitDefEqProofs (maxSteps := 2000000) (disch := first|assumption|omega|rfl|(simp only[RD];done)|(simp only[RD];omega)) only [RN,Int.reduceBEq,Int.reduceBNe,Int.reduceLT,Int.reduceLE,Int.reduceAdd,Int.reduceSub,Int.reduceMul,Nat.reduceAdd,↓bc_flatz,↓bc_flat16,↓agg_bytez, hf1, p39_1, w3, w5, w6, hz4, w7]
    refine fin σ5 _ (Lk.mk σ2.next x zb false) m5 rfl rfl rfl rfl (by omega) (.inr (by show σ.next ≤ σ2.next; omega)) hsub (fun j hj hjc => ?_) fun y hy => shrink_room h.ats hrow y
    rw [f5 j (by show j ≠ σ2.next; omega), f4 j (by show j ≠ σ2.next; omega) (fun e => hjc (by rw [e]; simp [cids])), hg6 j (by omega) (fun e => hjc (by rw [e]; simp [cids])), f2 j hjc, k1.2 j hj]
end Go.Proofs.Ytiaonndafhfkmaa
