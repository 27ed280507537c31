/- WalHeader, walked. -/
import Derived.Test.YtiaonndafhfkmaaKhd
import Derived.Test.YtiaonndafhfkmaaWith8
set_option linter.all false
set_option maxRecDepth 100000
set_option maxHeartbeats 1600000
namespace Go.Proofs.Ytiaonndafhfkmaa
open Go.Am
variable {σ st st' : Store} {Q : Value → Store → Prop} {n : Int} {v : Value} {L : List HB} {g : Geo} {l : List (Nat × DS)} {os : List (Nat × SObj)}
def vO (v : Value) (c : List Value) (sz : Nat) : List (Nat × SObj) := (idsV v).map fun j => (j, .cells c (some sz))
theorem Dks.slv {k sz : Nat} {c : List Value} (h : Dks σ st l os) (hs : ∀ p ∈ vO v c sz, p ∈ os) {st0 : Store} (h0 : SlG st0 sz v k c) : SlG st sz v k c := by
  refine ⟨h0.1, ?_⟩
  rcases h0.2 with h1 | ⟨i, rfl, h2, h3⟩
  · exact .inl h1
  · refine .inr ⟨i, rfl, ?_, h3⟩
    exact h.get (hs (i, .cells c (some sz)) (by simp [vO, idsV]))
theorem Dks.addv {k sz : Nat} {c : List Value} (h : Dks σ st l os) (kk : Keeps st st') (hs : SlG st' sz v k c) (hi : ∀ j ∈ idsV v, st.next ≤ j) : Dks σ st' l (vO v c sz ++ os) := by
  obtain ⟨h1, A, h2, h3⟩ := h
  refine ⟨h1.trans kk, A, h2.frame fun j hj => kk.2 j (h2.lt j hj), fun p hp => ?_⟩
  rcases List.mem_append.1 hp with hp | hp
  · obtain ⟨j, hj, rfl⟩ := List.mem_map.1 hp
    refine ⟨fun hx => by have := h2.lt j hx; have := hi j hj; omega, ?_⟩
    rcases hs.2 with ⟨_, rfl⟩ | ⟨i, rfl, h4, _⟩
    · simp [idsV] at hj
    · have : j = i := by simpa [idsV] using hj
      rw [this]; exact h4
  · exact ⟨(h3 p hp).1, kk.get (h3 p hp).2⟩
theorem Dks.put {j : Nat} {o o' : SObj} (h : Dks σ st l ((j, o) :: os)) (hj : σ.next ≤ j) (hne : ∀ p ∈ os, p.1 ≠ j) : Dks σ (st.put j (some o')) l ((j, o') :: os) := by
  obtain ⟨h1, A, h2, h3⟩ := h
  have hjA := (h3 _ (List.mem_cons_self ..)).1
  refine ⟨⟨by rw [next_max]; have := h1.1; omega, fun i hi => by rw [get_put_ne' (by omega)]; exact h1.2 i hi⟩, A, h2.frame fun i hi => get_put_ne' fun e => hjA (e ▸ hi), fun p hp => ?_⟩
  rcases List.mem_cons.1 hp with rfl | hp
  · exact ⟨hjA, Store.get_put_same _ _ _⟩
  · have := h3 p (List.mem_cons_of_mem _ hp)
    exact ⟨this.1, by rw [get_put_ne' (hne p hp)]; exact this.2⟩
theorem walheader_ (hv : SlR σ 1025 v L.length (waitC L)) (hl : ∀ p ∈ L, p.2.length = 1024) (hby : ∀ p ∈ L, BytesOk p.2) (hq : ∀ σ', Q (.bool true) σ') : Does Try.prog 4 [.agg ⟨sceneC n v g⟩] σ Q := by
  refine d4 ?_
  have bx : boxN (.agg ⟨sceneC n v g⟩) = some (.cells (sceneC n v g) none, ptrTo) := rfl
  have rg : rdPart (some (.cells (sceneC n v g) none)) 2 3 = some (.agg ⟨ic g.cells⟩) := rfl
  have ra : rdPart (some (.cells (sceneC n v g) none)) 0 5 = some (.agg ⟨sceneC n v g⟩) := rfl
  have ri : rdPart (some (.cells (sceneC n v g) none)) 0 2 = some (.agg ⟨[.int .i64 n, v]⟩) := rfl
  have r0 : rdOne (some (.cells (sceneC n v g) none)) 0 = some (.int .i64 n) := rfl
  have r2 : rdOne (some (.cells (sceneC n v g) none)) 2 = some (.int .i64 g.blocks) := rfl
  have u9 : (unrle [(9, .int .i64 0)]).length = 9 := rfl
  have lof : (ic g.of).length = 9 := by unfold Geo.of; split <;> rfl
  have l9 : (ic g.lay).length = 9 := rfl
  have l3 : rdOne (some (.cells (ic g.lay) none)) 3 = some (.int .i64 1) := rfl
  obtain ⟨s1, hs1⟩ : ∃ s1, s1 = σ.push (.cells (sceneC n v g) none) := ⟨_, rfl⟩
  have k1 : Keeps σ s1 := by rw [hs1]; exact (Keeps.refl _).push _
  have c1 : s1.get σ.next = some (.cells (sceneC n v g) none) := by rw [hs1]; exact Store.get_push_same _ _
  unfold p4
  rw [bx, nop_some, ← hs1]
  simp -implicitDefEqProofs (maxSteps := 2000000) (disch := first|assumption|omega|rfl|(simp only[RD];done)|(simp only[RD];omega)) only [RN,Int.reduceBEq,Int.reduceBNe,Int.reduceLT,Int.reduceLE,Int.reduceAdd,Int.reduceSub,Int.reduceMul,Nat.reduceAdd,↓bc_flatz,↓bc_flat16,↓agg_bytez, c1, rg]
  refine rof_ ?_
  obtain ⟨s2, hs2⟩ : ∃ s2, s2 = s1.push (.cells (ic g.of) none) := ⟨_, rfl⟩
  have k2 : Keeps s1 s2 := by rw [hs2]; exact (Keeps.refl _).push _
  have c2 : s2.get s1.next = some (.cells (ic g.of) none) := by rw [hs2]; exact Store.get_push_same _ _
  simp -implicitDefEqProofs (maxSteps := 2000000) (disch := first|assumption|omega|rfl|(simp only[RD];done)|(simp only[RD];omega)) only [RN,Int.reduceBEq,Int.reduceBNe,Int.reduceLT,Int.reduceLE,Int.reduceAdd,Int.reduceSub,Int.reduceMul,Nat.reduceAdd,↓bc_flatz,↓bc_flat16,↓agg_bytez, p4_12, u9, lof]
  rw [← hs2]
  have g0 : ∀ st, Keeps s2 st → st.get σ.next = some (.cells (sceneC n v g) none) ∧ st.get s1.next = some (.cells (ic g.of) none) ∧ SlR st 1025 v L.length (waitC L) := fun st k =>
    ⟨(k2.trans k).get c1, k.get c2, hv.keeps fun i o h => ((k1.trans k2).trans k).get h⟩
  obtain ⟨a1, a2, a3⟩ := g0 s2 (Keeps.refl _)
  simp -implicitDefEqProofs (maxSteps := 2000000) (disch := first|assumption|omega|rfl|(simp only[RD];done)|(simp only[RD];omega)) only [RN,Int.reduceBEq,Int.reduceBNe,Int.reduceLT,Int.reduceLE,Int.reduceAdd,Int.reduceSub,Int.reduceMul,Nat.reduceAdd,↓bc_flatz,↓bc_flat16,↓agg_bytez, a1, ra]
  refine large_ a3.len (fun s3 k3 => ?_) (fun q1 q2 s3 k3 => ?_)
  · simp -implicitDefEqProofs (maxSteps := 2000000) (disch := first|assumption|omega|rfl|(simp only[RD];done)|(simp only[RD];omega)) only [RN,Int.reduceBEq,Int.reduceBNe,Int.reduceLT,Int.reduceLE,Int.reduceAdd,Int.reduceSub,Int.reduceMul,Nat.reduceAdd,↓bc_flatz,↓bc_flat16,↓agg_bytez, p4_11]
    exact hq _
  obtain ⟨b1, b2, b3⟩ := g0 s3 k3
  by_cases hg : ¬ g.ok
  · have e : (g.err != 0) = true := by unfold Geo.err; rw [if_neg hg]; rfl
    simp -implicitDefEqProofs (maxSteps := 2000000) (disch := first|assumption|omega|rfl|(simp only[RD];done)|(simp only[RD];omega)) only [RN,Int.reduceBEq,Int.reduceBNe,Int.reduceLT,Int.reduceLE,Int.reduceAdd,Int.reduceSub,Int.reduceMul,Nat.reduceAdd,↓bc_flatz,↓bc_flat16,↓agg_bytez, e, p4_11]
    exact hq _
  have hg := Classical.not_not.1 hg
  have e : (g.err != 0) = false := by unfold Geo.err; rw [if_pos hg]; rfl
  have eo : g.of = g.lay := if_pos hg
  rw [eo] at g0
  simp -implicitDefEqProofs (maxSteps := 2000000) (disch := first|assumption|omega|rfl|(simp only[RD];done)|(simp only[RD];omega)) only [RN,Int.reduceBEq,Int.reduceBNe,Int.reduceLT,Int.reduceLE,Int.reduceAdd,Int.reduceSub,Int.reduceMul,Nat.reduceAdd,↓bc_flatz,↓bc_flat16,↓agg_bytez, e, b1, ri]
  refine whole_ b3 hl (by omega) (fun hok s5 k5 => ?_) (fun _ s5 k5 => (by simp -implicitDefEqProofs (maxSteps := 2000000) (disch := first|assumption|omega|rfl|(simp only[RD];done)|(simp only[RD];omega)) only [RN,Int.reduceBEq,Int.reduceBNe,Int.reduceLT,Int.reduceLE,Int.reduceAdd,Int.reduceSub,Int.reduceMul,Nat.reduceAdd,↓bc_flatz,↓bc_flat16,↓agg_bytez, p4_11]; exact hq _))
  have k35 := k3.trans k5
  obtain ⟨d1, d2, d3⟩ := g0 s5 k35
  by_cases hn : n < g.blocks
  · simp -implicitDefEqProofs (maxSteps := 2000000) (disch := first|assumption|omega|rfl|(simp only[RD];done)|(simp only[RD];omega)) only [RN,Int.reduceBEq,Int.reduceBNe,Int.reduceLT,Int.reduceLE,Int.reduceAdd,Int.reduceSub,Int.reduceMul,Nat.reduceAdd,↓bc_flatz,↓bc_flat16,↓agg_bytez, d1, r2, r0, p4_11, decide_eq_true hn]
    exact hq _
  simp -implicitDefEqProofs (maxSteps := 2000000) (disch := first|assumption|omega|rfl|(simp only[RD];done)|(simp only[RD];omega)) only [RN,Int.reduceBEq,Int.reduceBNe,Int.reduceLT,Int.reduceLE,Int.reduceAdd,Int.reduceSub,Int.reduceMul,Nat.reduceAdd,↓bc_flatz,↓bc_flat16,↓agg_bytez, d1, r2, r0, p4_11, decide_eq_false hn, ri]
  have hgg := hg
  unfold Geo.ok at hgg
  refine kload_ (Dks.none k35) d3 hl (by omega) hok fun s6 d hD6 => ?_
  simp -implicitDefEqProofs (maxSteps := 2000000) (disch := first|assumption|omega|rfl|(simp only[RD];done)|(simp only[RD];omega)) only [RN,Int.reduceBEq,Int.reduceBNe,Int.reduceLT,Int.reduceLE,Int.reduceAdd,Int.reduceSub,Int.reduceMul,Nat.reduceAdd,↓bc_flatz,↓bc_flat16,↓agg_bytez, p4_10]
  refine lives_ fun s8 k8 => ?_
  have hD8 := hD6.later k8
  obtain ⟨f1, f2, f3⟩ := g0 s8 hD8.keeps
  obtain ⟨s, hs⟩ : ∃ s, s = DS.load n L := ⟨_, rfl⟩
  have sC : s.C 0 := by rw [hs]; exact load_C hok hl
  have sW : s.W := by rw [hs]; exact load_W hok
  have sl : s.live := by rw [hs]; exact ⟨rfl, by show (-1 : Int) < 0; decide⟩
  have sw : s.wait = [] := by rw [hs]; rfl
  have sn : s.n = n := by rw [hs]; rfl
  have sm : s.made = 0 := by rw [hs]; rfl
  have hH : HeldL s.held L := by rw [hs]; exact load_held hok
  rw [← hs] at hD8
  have hat : ∀ y, s.at y = (s.held y).getD zb := at_held sw
  have hbo : ∀ y, BytesOk (s.at y) := fun y => by
    rw [hat]
    cases hy : s.held y with
    | none => exact zb_bytes
    | some b => exact hby _ ((hH.mem (y, b)).2 hy)
  simp -implicitDefEqProofs (maxSteps := 2000000) (disch := first|assumption|omega|rfl|(simp only[RD];done)|(simp only[RD];omega)) only [RN,Int.reduceBEq,Int.reduceBNe,Int.reduceLT,Int.reduceLE,Int.reduceAdd,Int.reduceSub,Int.reduceMul,Nat.reduceAdd,↓bc_flatz,↓bc_flat16,↓agg_bytez, p4_9, f1, ri, f2, l3]
  refine at_ f3 hl (by omega) hH fun s9 k9 => ?_
  have hD9 := hD8.later k9
  obtain ⟨j1, j2, j3⟩ := g0 s9 hD9.keeps
  rw [← hat]
  simp -implicitDefEqProofs (maxSteps := 2000000) (disch := first|assumption|omega|rfl|(simp only[RD];done)|(simp only[RD];omega)) only [RN,Int.reduceBEq,Int.reduceBNe,Int.reduceLT,Int.reduceLE,Int.reduceAdd,Int.reduceSub,Int.reduceMul,Nat.reduceAdd,↓bc_flatz,↓bc_flat16,↓agg_bytez, f2, j2, l9]
  -- what is behind Recover
  have main : ∀ (st : Store) (t : DS) (vh : Nat) (tv : Value) (T : List Int) (mm : Nat), T.length ≤ 255 → mm ≤ 10000 → Dks s2 st [(d, t)] ((vh, .cells [tv] none) :: vO tv (ic T) 1) → s2.next ≤ vh → SlG st 1 tv T.length (ic T) → t.C mm → t.W → t.live → t.wait = [] → t.n = n →
      t.held = (if T = [] then s.held else keepF (barHeld s.held (prW s T T.length)) 1 zb) → BytesOk (t.at 1) → DecOk g (t.at 1) → decL (t.at 1) = [] →
      p4_6 (.bool false) (.int .i64 0) st Q (.int .i64 (T.length : Nat)) (.pointer (some ⟨d, 0, none⟩)) (.pointer (some ⟨σ.next, 0, none⟩)) (.pointer (some ⟨vh, 0, none⟩)) (.pointer (some ⟨s1.next, 0, none⟩)) := by
    intro st t vh tv T mm hTl hmm hD hvh hsl tC tW tl tw tn th tb td te
    have u2 : unrle [(1, Value.int .i64 0), (1, .slice none 0 0)] = [.int .i64 0, .slice none 0 0] := rfl
    have g2 : ([.int .i64 0, .slice none 0 0] : List Value).length = 2 := rfl
    have gw : ∀ w : Value, ([.int .i64 n, w] : List Value).length = 2 := fun _ => rfl
    have rw2 : ∀ w : Value, rdPart (some (.cells [.int .i64 n, w] none)) 0 2 = some (.agg ⟨[.int .i64 n, w]⟩) := fun _ => rfl
    obtain ⟨i1, i2, i3⟩ := g0 st hD.keeps
    have hD1 := hD.push (.cells [.int .i64 n, v] none)
    obtain ⟨sa, hsa⟩ : ∃ sa, sa = st.push (.cells [.int .i64 n, v] none) := ⟨_, rfl⟩
    rw [← hsa] at hD1
    have hlt : ∀ p ∈ (vh, SObj.cells [tv] none) :: vO tv (ic T) 1, p.1 < st.next := fun p hp => Store.lt_of_get (hD.get (j := p.1) (o := p.2) hp)
    have hwge : s2.next ≤ st.next := hD.keeps.1
    obtain ⟨os0, hos0⟩ : ∃ os0, os0 = (vh, SObj.cells [tv] none) :: vO tv (ic T) 1 := ⟨_, rfl⟩
    rw [← hos0] at hD1 hlt
    have mh : (vh, SObj.cells [tv] none) ∈ os0 := by rw [hos0]; exact List.mem_cons_self ..
    have mt : ∀ p ∈ vO tv (ic T) 1, p ∈ os0 := fun p hp => by rw [hos0]; exact List.mem_cons_of_mem _ hp
    simp -implicitDefEqProofs (maxSteps := 2000000) (disch := first|assumption|omega|rfl|(simp only[RD];done)|(simp only[RD];omega)) only [RN,Int.reduceBEq,Int.reduceBNe,Int.reduceLT,Int.reduceLE,Int.reduceAdd,Int.reduceSub,Int.reduceMul,Nat.reduceAdd,↓bc_flatz,↓bc_flat16,↓agg_bytez, p4_6, i1, ri, p4_5, u2, g2]
    rw [← hsa]
    refine lop1 (fun k x st' => ∃ (i : Nat) (wv : Value) (W : List HB) (X : List (Nat × SObj)), k + i = T.length ∧ x = .int .i64 i ∧ Dks s2 st' [(d, t)] ((st.next, .cells [.int .i64 n, wv] none) :: (X ++ os0)) ∧ (∀ p ∈ X, p.1 ≠ st.next) ∧ (∀ st2 l2 os2, Dks s2 st2 l2 os2 → (∀ p ∈ X, p ∈ os2) → SlR st2 1025 wv W.length (waitC W)) ∧ HeldL (barHeld s.held (prW s T i)) W ∧ (∀ p ∈ W, p.2.length = 1024) ∧ W.length ≤ 300 + i) T.length
      ⟨0, v, L, [], rfl, rfl, hD1, (fun p hp => by cases hp), fun st2 l2 os2 h _ => (g0 st2 h.keeps).2.2, hH, hl, by omega⟩ ?_
    rintro k x st2 next ⟨i, wv, W, X, hi, rfl, hD2, hXn, hX, hW, hWl, hWn⟩ hnx
    obtain ⟨e1, e2, e3⟩ := g0 st2 hD2.keeps
    have ch := hD2.get (List.mem_cons_of_mem _ (List.mem_append_right _ mh))
    have cw := hD2.get (List.mem_cons_self ..)
    have st2T : SlG st2 1 tv T.length (ic T) := hD2.slv (fun p hp => List.mem_cons_of_mem _ (List.mem_append_right _ (mt p hp))) hsl
    have hXm : ∀ p ∈ X, p ∈ (st.next, SObj.cells [.int .i64 n, wv] none) :: (X ++ os0) := fun p hp => List.mem_cons_of_mem _ (List.mem_append_left _ hp)
    by_cases h5 : (i : Int) < (T.length : Nat)
    · have h6 : i < T.length := by omega
      obtain ⟨tt, ht⟩ : ∃ tt, T[i]? = some tt := ⟨_, List.getElem?_eq_getElem h6⟩
      have hgd : T.getD i 0 = tt := by rw [List.getD_eq_getElem?_getD, ht]; rfl
      obtain ⟨a, o, y1, y2, y3⟩ := slr_get st2T.r ht
      simp -implicitDefEqProofs (maxSteps := 2000000) (disch := first|assumption|omega|rfl|(simp only[RD];done)|(simp only[RD];omega)) only [RN,Int.reduceBEq,Int.reduceBNe,Int.reduceLT,Int.reduceLE,Int.reduceAdd,Int.reduceSub,Int.reduceMul,Nat.reduceAdd,↓bc_flatz,↓bc_flat16,↓agg_bytez, ch, st2T.len, decide_eq_true h5, e1, ri, e2, l3, p4_1]
      refine at_ e3 hl (by omega) hH fun st3 k3' => ?_
      have hD3 := hD2.later k3'
      have ch3 := k3'.get ch
      have cw3 := k3'.get cw
      have y3' : rdOne (st3.get a) o = some (.int .i64 tt) := by
        rw [k3'.2 a y2]; exact y3
      rw [← hat]
      simp -implicitDefEqProofs (maxSteps := 2000000) (disch := first|assumption|omega|rfl|(simp only[RD];done)|(simp only[RD];omega)) only [RN,Int.reduceBEq,Int.reduceBNe,Int.reduceLT,Int.reduceLE,Int.reduceAdd,Int.reduceSub,Int.reduceMul,Nat.reduceAdd,↓bc_flatz,↓bc_flat16,↓agg_bytez, cw, cw3, rw2, ch, ch3, y1, y3, y3']
      have hbl : (s.at (2 + (i : Nat))).length = 1024 := at_1024 sC _
      refine with_ (hX st3 _ _ hD3 hXm) hWl (by omega) hbl fun st4 ov k4 ho hoi => ?_
      have hD4 := hD3.addv k4 ho hoi
      have cw4 := k4.get cw3
      simp -implicitDefEqProofs (maxSteps := 2000000) (disch := first|assumption|omega|rfl|(simp only[RD];done)|(simp only[RD];omega)) only [RN,Int.reduceBEq,Int.reduceBNe,Int.reduceLT,Int.reduceLE,Int.reduceAdd,Int.reduceSub,Int.reduceMul,Nat.reduceAdd,↓bc_flatz,↓bc_flat16,↓agg_bytez, cw4, gw]
      have hD5 : Dks s2 st4 [(d, t)] ((st.next, .cells [.int .i64 n, wv] none) :: (vO ov (waitC (withL tt (s.at (2 + (i : Nat))) W)) 1025 ++ os0)) := hD4.less fun p hp => by
        rcases List.mem_cons.1 hp with rfl | hp
        · exact List.mem_append_right _ (List.mem_cons_self ..)
        · rcases List.mem_append.1 hp with hp | hp
          · exact List.mem_append_left _ hp
          · exact List.mem_append_right _ (List.mem_cons_of_mem _ (List.mem_append_right _ hp))
      have hge3 : st.next < st3.next := Store.lt_of_get cw3
      have hne : ∀ p ∈ vO ov (waitC (withL tt (s.at (2 + (i : Nat))) W)) 1025, p.1 ≠ st.next := fun p hp => by
        obtain ⟨j, hj, rfl⟩ := List.mem_map.1 hp
        have := hoi j hj
        show j ≠ st.next
        omega
      refine hnx _ _ (by omega) ⟨i + 1, ov, withL tt (s.at (2 + (i : Nat))) W, _, by omega, by congr 1, hD5.put (o' := .cells [.int .i64 n, ov] none) hwge (fun p hp => ?_), hne, fun st6 l6 os6 h6 hm => (h6.slv hm ho).r, ?_, withL_lens hbl hWl, ?_⟩
      · rcases List.mem_append.1 hp with hp | hp
        · exact hne p hp
        · have := hlt p hp; omega
      · rw [prW_succ, barHeld_app, hgd]
        exact withL_held hW
      · have := withL_len (x := tt) (b := s.at (2 + (i : Nat))) (L := W); omega
    · have hiT : i = T.length := by omega
      subst hiT
      -- recovered once more, a new log, nothing waits, the image
      have tail : ∀ (st3 : Store) (wv : Value) (W : List HB) (X : List (Nat × SObj)), Dks s2 st3 [(d, t)] ((st.next, .cells [.int .i64 n, wv] none) :: (X ++ os0)) → (∀ st2 l2 os2, Dks s2 st2 l2 os2 → (∀ p ∈ X, p ∈ os2) → SlR st2 1025 wv W.length (waitC W)) → HeldL t.held W → (∀ p ∈ W, p.2.length = 1024) → W.length ≤ 600 →
          vop (loadV true 9 (.pointer (some ⟨s1.next, 0, none⟩)) st3.get) st3 fun v233 s234 =>
          Does Try.prog 26 [.pointer (some ⟨d, 0, none⟩), v233] s234 fun v235 s236 =>
          vop (extractV v235 0) s236 fun v237 s238 =>
          vop (extractV v235 1) s238 fun v239 s240 =>
          vop (loadV true 9 (.pointer (some ⟨s1.next, 0, none⟩)) s240.get) s240 fun v241 s242 =>
          Does Try.prog 25 [.pointer (some ⟨d, 0, none⟩), v241] s242 fun v243 s244 =>
          vop (extractV v243 0) s244 fun v245 s246 =>
          vop (extractV v243 1) s246 fun v247 s248 =>
          vop (binI .eql (.int .i64 0) (.int .i64 0)) s248 fun v249 s250 =>
          p4_3 v249 s250 Q (.int .i64 (T.length : Nat)) (.pointer (some ⟨vh, 0, none⟩)) s248 v239 v237 v247 (.pointer (some ⟨d, 0, none⟩)) (.pointer (some ⟨st.next, 0, none⟩)) := by
        intro st3 wv W X hD3 hX hW hWl hWn
        obtain ⟨e1, e2, e3⟩ := g0 st3 hD3.keeps
        simp -implicitDefEqProofs (maxSteps := 2000000) (disch := first|assumption|omega|rfl|(simp only[RD];done)|(simp only[RD];omega)) only [RN,Int.reduceBEq,Int.reduceBNe,Int.reduceLT,Int.reduceLE,Int.reduceAdd,Int.reduceSub,Int.reduceMul,Nat.reduceAdd,↓bc_flatz,↓bc_flat16,↓agg_bytez, e2, l9]
        refine krec_ hD3 tC (by omega) hg (by omega) tb tl.1 (fun _ h => absurd te h) (fun h => absurd td h) (fun _ _ st4 hD4 => ?_) (fun _ h => absurd te h)
        obtain ⟨e4, e5, e6⟩ := g0 st4 hD4.keeps
        simp -implicitDefEqProofs (maxSteps := 2000000) (disch := first|assumption|omega|rfl|(simp only[RD];done)|(simp only[RD];omega)) only [RN,Int.reduceBEq,Int.reduceBNe,Int.reduceLT,Int.reduceLE,Int.reduceAdd,Int.reduceSub,Int.reduceMul,Nat.reduceAdd,↓bc_flatz,↓bc_flat16,↓agg_bytez, e5, l9]
        refine kwnew_ hD4 (readed_C tC) (by omega) hg (by show _ ≤ t.n; omega) tb tl.1 (fun h => absurd ⟨td, te⟩ h) (fun _ _ st5 p5 hD5 => ?_)
        have ch := hD5.get (List.mem_cons_of_mem _ (List.mem_append_right _ mh))
        have st5T : SlG st5 1 tv T.length (ic T) := hD5.slv (fun p hp => List.mem_cons_of_mem _ (List.mem_append_right _ (mt p hp))) hsl
        have en : (((T.length : Nat) : Int) == (T.length : Nat)) = true := by simp
        simp -implicitDefEqProofs (maxSteps := 2000000) (disch := first|assumption|omega|rfl|(simp only[RD];done)|(simp only[RD];omega)) only [RN,Int.reduceBEq,Int.reduceBNe,Int.reduceLT,Int.reduceLE,Int.reduceAdd,Int.reduceSub,Int.reduceMul,Nat.reduceAdd,↓bc_flatz,↓bc_flat16,↓agg_bytez, p4_3, ch, st5T.len, en, p4_2]
        have tC5 := claimed_C (readed_C (readed_C tC))
        have tW5 : t.readed.readed.claimed.W := ⟨tW.held, tW.wait⟩
        refine kpend0_ hD5 tC5 tw ?_
        have z0 : (((0 : Nat) : Int) == 0) = true := rfl
        simp -implicitDefEqProofs (maxSteps := 2000000) (disch := first|assumption|omega|rfl|(simp only[RD];done)|(simp only[RD];omega)) only [RN,Int.reduceBEq,Int.reduceBNe,Int.reduceLT,Int.reduceLE,Int.reduceAdd,Int.reduceSub,Int.reduceMul,Nat.reduceAdd,↓bc_flatz,↓bc_flat16,↓agg_bytez, z0]
        refine kimg_ hD5 tC5 tW5 fun L1 st6 v1 hL1 hD6 hv1 => ?_
        have cw6 := hD6.get (List.mem_append_right _ (List.mem_cons_self ..))
        have cw5 := hD5.get (List.mem_cons_self ..)
        have en5 : t.readed.readed.claimed.n = n := tn
        rw [en5]
        simp -implicitDefEqProofs (maxSteps := 2000000) (disch := first|assumption|omega|rfl|(simp only[RD];done)|(simp only[RD];omega)) only [RN,Int.reduceBEq,Int.reduceBNe,Int.reduceLT,Int.reduceLE,Int.reduceAdd,Int.reduceSub,Int.reduceMul,Nat.reduceAdd,↓bc_flatz,↓bc_flat16,↓agg_bytez, cw5, cw6, rw2]
        have hS := hX st6 _ _ hD6 fun p hp => List.mem_append_right _ (List.mem_cons_of_mem _ (List.mem_append_left _ hp))
        have few := hL1.few tW5 (by have := hok.1; omega)
        refine sameim_ hv1.r hS (hL1.lens tC5) hWl (by omega) fun st7 k7 => ?_
        have el : L1 = W := HeldL.uniq hL1 hW
        rw [decide_eq_true el]
        try simp -implicitDefEqProofs (maxSteps := 2000000) (disch := first|assumption|omega|rfl|(simp only[RD];done)|(simp only[RD];omega)) only [RN,Int.reduceBEq,Int.reduceBNe,Int.reduceLT,Int.reduceLE,Int.reduceAdd,Int.reduceSub,Int.reduceMul,Nat.reduceAdd,↓bc_flatz,↓bc_flat16,↓agg_bytez]
        exact hq _
      by_cases hT0 : T = []
      · have e0 : decide ((0 : Int) < (T.length : Nat)) = false := by rw [hT0]; rfl
        simp -implicitDefEqProofs (maxSteps := 2000000) (disch := first|assumption|omega|rfl|(simp only[RD];done)|(simp only[RD];omega)) only [RN,Int.reduceBEq,Int.reduceBNe,Int.reduceLT,Int.reduceLE,Int.reduceAdd,Int.reduceSub,Int.reduceMul,Nat.reduceAdd,↓bc_flatz,↓bc_flat16,↓agg_bytez, ch, st2T.len, decide_eq_false h5, p4_4, e0]
        have := tail st2 wv W X hD2 hX (by rw [th, if_pos hT0]; have := hW; rw [hT0] at this; exact this) hWl (by omega)
        try simp -implicitDefEqProofs (maxSteps := 2000000) (disch := first|assumption|omega|rfl|(simp only[RD];done)|(simp only[RD];omega)) only [RN,Int.reduceBEq,Int.reduceBNe,Int.reduceLT,Int.reduceLE,Int.reduceAdd,Int.reduceSub,Int.reduceMul,Nat.reduceAdd,↓bc_flatz,↓bc_flat16,↓agg_bytez] at this
        exact this
      · have e0 : decide ((0 : Int) < (T.length : Nat)) = true := by
          have : T.length ≠ 0 := fun e => hT0 (List.eq_nil_of_length_eq_zero e)
          exact decide_eq_true (by omega)
        simp -implicitDefEqProofs (maxSteps := 2000000) (disch := first|assumption|omega|rfl|(simp only[RD];done)|(simp only[RD];omega)) only [RN,Int.reduceBEq,Int.reduceBNe,Int.reduceLT,Int.reduceLE,Int.reduceAdd,Int.reduceSub,Int.reduceMul,Nat.reduceAdd,↓bc_flatz,↓bc_flat16,↓agg_bytez, ch, st2T.len, decide_eq_false h5, p4_4, e0, cw, rw2, e2, l3]
        refine with_ (hX st2 _ _ hD2 hXm) hWl (by omega) zb_len fun st4 ov k4 ho hoi => ?_
        have hD4 := hD2.addv k4 ho hoi
        have cw4 := k4.get cw
        have hD5 : Dks s2 st4 [(d, t)] ((st.next, .cells [.int .i64 n, wv] none) :: (vO ov (waitC (withL 1 zb W)) 1025 ++ os0)) := hD4.less fun p hp => by
          rcases List.mem_cons.1 hp with rfl | hp
          · exact List.mem_append_right _ (List.mem_cons_self ..)
          · rcases List.mem_append.1 hp with hp | hp
            · exact List.mem_append_left _ hp
            · exact List.mem_append_right _ (List.mem_cons_of_mem _ (List.mem_append_right _ hp))
        have hge3 : st.next < st2.next := Store.lt_of_get cw
        have hD6 := hD5.put (o' := .cells [.int .i64 n, ov] none) hwge fun p hp => by
          rcases List.mem_append.1 hp with hp | hp
          · obtain ⟨j, hj, rfl⟩ := List.mem_map.1 hp
            have := hoi j hj
            show j ≠ st.next
            omega
          · have := hlt p hp; omega
        have := tail _ ov _ _ hD6 (fun st6 l6 os6 h6 hm => (h6.slv hm ho).r) (by rw [th, if_neg hT0]; exact withL_held hW) (withL_lens zb_len hWl) (by have := withL_len (x := 1) (b := zb) (L := W); omega)
        simp -implicitDefEqProofs (maxSteps := 2000000) (disch := first|assumption|omega|rfl|(simp only[RD];done)|(simp only[RD];omega)) only [RN,Int.reduceBEq,Int.reduceBNe,Int.reduceLT,Int.reduceLE,Int.reduceAdd,Int.reduceSub,Int.reduceMul,Nat.reduceAdd,↓bc_flatz,↓bc_flat16,↓agg_bytez, cw4, gw]
        try simp -implicitDefEqProofs (maxSteps := 2000000) (disch := first|assumption|omega|rfl|(simp only[RD];done)|(simp only[RD];omega)) only [RN,Int.reduceBEq,Int.reduceBNe,Int.reduceLT,Int.reduceLE,Int.reduceAdd,Int.reduceSub,Int.reduceMul,Nat.reduceAdd,↓bc_flatz,↓bc_flat16,↓agg_bytez] at this
        exact this
  have hb1 : (s.at 1).length = 1024 := at_1024 sC 1
  have hbn : g.blocks ≤ s.n := by omega
  have mk0 : ∀ r : DS, r.made = s.made → (r.made != 0) = false := fun r h => by rw [h, sm]; rfl
  have g1 : ∀ w : Value, ([w] : List Value).length = 1 := fun _ => rfl
  have u1 : unrle [(1, Value.slice none 0 0)] = [.slice none 0 0] := rfl
  have rd1 : ∀ w : Value, rdOne (some (.cells [w] none)) 0 = some w := fun _ => rfl
  refine hdecode_ hg hb1 (hbo 1) (fun hbad s10 k10 => ?_) (fun hok1 s10 tv k10 hsl hids => ?_)
  · have hD10 := hD9.later k10
    have hD11 := hD10.push (.cells [.slice none 0 0] none)
    obtain ⟨s11, hs11⟩ : ∃ s11, s11 = s10.push (.cells [.slice none 0 0] none) := ⟨_, rfl⟩
    rw [← hs11] at hD11
    obtain ⟨e1, e2, e3⟩ := g0 s11 hD11.keeps
    simp -implicitDefEqProofs (maxSteps := 2000000) (disch := first|assumption|omega|rfl|(simp only[RD];done)|(simp only[RD];omega)) only [RN,Int.reduceBEq,Int.reduceBNe,Int.reduceLT,Int.reduceLE,Int.reduceAdd,Int.reduceSub,Int.reduceMul,Nat.reduceAdd,↓bc_flatz,↓bc_flat16,↓agg_bytez, u1]
    rw [← hs11]
    simp -implicitDefEqProofs (maxSteps := 2000000) (disch := first|assumption|omega|rfl|(simp only[RD];done)|(simp only[RD];omega)) only [RN,Int.reduceBEq,Int.reduceBNe,Int.reduceLT,Int.reduceLE,Int.reduceAdd,Int.reduceSub,Int.reduceMul,Nat.reduceAdd,↓bc_flatz,↓bc_flat16,↓agg_bytez, e2, l9]
    refine kwnew_ hD11 sC (by decide) hg hbn (hbo 1) sl.1 (fun _ st12 hD12 => ?_) (fun h => absurd h hbad)
    simp -implicitDefEqProofs (maxSteps := 2000000) (disch := first|assumption|omega|rfl|(simp only[RD];done)|(simp only[RD];omega)) only [RN,Int.reduceBEq,Int.reduceBNe,Int.reduceLT,Int.reduceLE,Int.reduceAdd,Int.reduceSub,Int.reduceMul,Nat.reduceAdd,↓bc_flatz,↓bc_flat16,↓agg_bytez, p4_8, p4_7]
    refine kmade_ hD12 (readed_C sC) ?_
    obtain ⟨e4, e5, e6⟩ := g0 st12 hD12.keeps
    simp -implicitDefEqProofs (maxSteps := 2000000) (disch := first|assumption|omega|rfl|(simp only[RD];done)|(simp only[RD];omega)) only [RN,Int.reduceBEq,Int.reduceBNe,Int.reduceLT,Int.reduceLE,Int.reduceAdd,Int.reduceSub,Int.reduceMul,Nat.reduceAdd,↓bc_flatz,↓bc_flat16,↓agg_bytez, mk0 s.readed rfl, e5, l9]
    refine krec_ hD12 (readed_C sC) (by decide) hg hbn (hbo 1) sl.1 (fun h => absurd h hbad) (fun _ st13 hD13 => ?_) (fun h => absurd h hbad) (fun h => absurd h hbad)
    simp -implicitDefEqProofs (maxSteps := 2000000) (disch := first|assumption|omega|rfl|(simp only[RD];done)|(simp only[RD];omega)) only [RN,Int.reduceBEq,Int.reduceBNe,Int.reduceLT,Int.reduceLE,Int.reduceAdd,Int.reduceSub,Int.reduceMul,Nat.reduceAdd,↓bc_flatz,↓bc_flat16,↓agg_bytez, p4_6]
    refine kmade_ hD13 (readed_C (readed_C sC)) ?_
    have e7 : (s.readed.readed.made == 0) = true := by show (s.made == 0) = true; rw [sm]; rfl
    simp -implicitDefEqProofs (maxSteps := 2000000) (disch := first|assumption|omega|rfl|(simp only[RD];done)|(simp only[RD];omega)) only [RN,Int.reduceBEq,Int.reduceBNe,Int.reduceLT,Int.reduceLE,Int.reduceAdd,Int.reduceSub,Int.reduceMul,Nat.reduceAdd,↓bc_flatz,↓bc_flat16,↓agg_bytez, e7]
    exact hq _
  · obtain ⟨T, hT⟩ : ∃ T, T = decL (s.at 1) := ⟨_, rfl⟩
    rw [← hT] at hsl
    have hTl : T.length ≤ 255 := by have := hok1.1; rw [← hT] at this; omega
    have hD10 := hD9.addv k10 hsl hids
    have hD11 := hD10.push (.cells [tv] none)
    obtain ⟨s11, hs11⟩ : ∃ s11, s11 = s10.push (.cells [tv] none) := ⟨_, rfl⟩
    rw [← hs11] at hD11
    obtain ⟨e1, e2, e3⟩ := g0 s11 hD11.keeps
    have hvh : s2.next ≤ s10.next := hD10.keeps.1
    have hD11' : Dks s2 s11 [(d, s)] ((s10.next, .cells [tv] none) :: vO tv (ic T) 1) := hD11.less fun p hp => by
      rcases List.mem_cons.1 hp with rfl | hp
      · exact List.mem_cons_self ..
      · exact List.mem_cons_of_mem _ (List.mem_append_left _ hp)
    simp -implicitDefEqProofs (maxSteps := 2000000) (disch := first|assumption|omega|rfl|(simp only[RD];done)|(simp only[RD];omega)) only [RN,Int.reduceBEq,Int.reduceBNe,Int.reduceLT,Int.reduceLE,Int.reduceAdd,Int.reduceSub,Int.reduceMul,Nat.reduceAdd,↓bc_flatz,↓bc_flat16,↓agg_bytez, u1]
    try rw [← hs11]
    simp -implicitDefEqProofs (maxSteps := 2000000) (disch := first|assumption|omega|rfl|(simp only[RD];done)|(simp only[RD];omega)) only [RN,Int.reduceBEq,Int.reduceBNe,Int.reduceLT,Int.reduceLE,Int.reduceAdd,Int.reduceSub,Int.reduceMul,Nat.reduceAdd,↓bc_flatz,↓bc_flat16,↓agg_bytez, e2, l9]
    by_cases hT0 : T = []
    · refine kwnew_ hD11' sC (by decide) hg hbn (hbo 1) sl.1 (fun h => absurd ⟨hok1, hT.symm.trans hT0⟩ h) (fun _ _ st12 p12 hD12 => ?_)
      have ch := hD12.get (List.mem_cons_self ..)
      have st12T : SlG st12 1 tv T.length (ic T) := hD12.slv (fun p hp => List.mem_cons_of_mem _ hp) hsl
      have el : (((T.length : Nat) : Int) == 0) = true := by rw [hT0]; rfl
      obtain ⟨e4, e5, e6⟩ := g0 st12 hD12.keeps
      simp -implicitDefEqProofs (maxSteps := 2000000) (disch := first|assumption|omega|rfl|(simp only[RD];done)|(simp only[RD];omega)) only [RN,Int.reduceBEq,Int.reduceBNe,Int.reduceLT,Int.reduceLE,Int.reduceAdd,Int.reduceSub,Int.reduceMul,Nat.reduceAdd,↓bc_flatz,↓bc_flat16,↓agg_bytez, p4_8, ch, st12T.len, el, p4_7]
      have C2 := claimed_C (readed_C sC)
      refine kmade_ hD12 C2 ?_
      simp -implicitDefEqProofs (maxSteps := 2000000) (disch := first|assumption|omega|rfl|(simp only[RD];done)|(simp only[RD];omega)) only [RN,Int.reduceBEq,Int.reduceBNe,Int.reduceLT,Int.reduceLE,Int.reduceAdd,Int.reduceSub,Int.reduceMul,Nat.reduceAdd,↓bc_flatz,↓bc_flat16,↓agg_bytez, mk0 s.readed.claimed rfl, e5, l9]
      refine krec_ hD12 C2 (by decide) hg hbn (hbo 1) sl.1 (fun _ h => absurd (hT.symm.trans hT0) h) (fun h => absurd hok1 h) (fun _ _ st13 hD13 => ?_) (fun _ h => absurd (hT.symm.trans hT0) h)
      have st13T : SlG st13 1 tv T.length (ic T) := hD13.slv (fun p hp => List.mem_cons_of_mem _ hp) hsl
      have := main st13 s.readed.claimed.readed s10.next tv T 100 hTl (by omega) hD13 hvh st13T ((readed_C C2).le (by omega)) ⟨sW.held, sW.wait⟩ sl sw sn (by rw [if_pos hT0]; rfl) (hbo 1) hok1 (hT.symm.trans hT0)
      have e0 : ((T.length : Nat) : Int) = 0 := by rw [hT0]; rfl
      rw [e0] at this
      simp -implicitDefEqProofs (maxSteps := 2000000) (disch := first|assumption|omega|rfl|(simp only[RD];done)|(simp only[RD];omega)) only [RN,Int.reduceBEq,Int.reduceBNe,Int.reduceLT,Int.reduceLE,Int.reduceAdd,Int.reduceSub,Int.reduceMul,Nat.reduceAdd,↓bc_flatz,↓bc_flat16,↓agg_bytez]
      exact this
    · have hT1 : decL (s.at 1) ≠ [] := by rw [← hT]; exact hT0
      refine kwnew_ hD11' sC (by decide) hg hbn (hbo 1) sl.1 (fun _ st12 hD12 => ?_) (fun _ h => absurd h hT1)
      have ch := hD12.get (List.mem_cons_self ..)
      have st12T : SlG st12 1 tv T.length (ic T) := hD12.slv (fun p hp => List.mem_cons_of_mem _ hp) hsl
      have el : (((T.length : Nat) : Int) == 0) = false := by
        have : T.length ≠ 0 := fun e => hT0 (List.eq_nil_of_length_eq_zero e)
        simp; exact hT0
      obtain ⟨e4, e5, e6⟩ := g0 st12 hD12.keeps
      simp -implicitDefEqProofs (maxSteps := 2000000) (disch := first|assumption|omega|rfl|(simp only[RD];done)|(simp only[RD];omega)) only [RN,Int.reduceBEq,Int.reduceBNe,Int.reduceLT,Int.reduceLE,Int.reduceAdd,Int.reduceSub,Int.reduceMul,Nat.reduceAdd,↓bc_flatz,↓bc_flat16,↓agg_bytez, p4_8, ch, st12T.len, el, p4_7]
      have C2 := readed_C sC
      refine kmade_ hD12 C2 ?_
      simp -implicitDefEqProofs (maxSteps := 2000000) (disch := first|assumption|omega|rfl|(simp only[RD];done)|(simp only[RD];omega)) only [RN,Int.reduceBEq,Int.reduceBNe,Int.reduceLT,Int.reduceLE,Int.reduceAdd,Int.reduceSub,Int.reduceMul,Nat.reduceAdd,↓bc_flatz,↓bc_flat16,↓agg_bytez, mk0 s.readed rfl, e5, l9]
      have hM : MayL g T := by have := hok1; unfold DecOk at this; rw [← hT] at this; exact this
      obtain ⟨r1, r2', r3, r4, r5⟩ := rec_go (s := s.readed.readed) (T := T) (g := g) sl sw hg hbn hM
      have eT : decL (s.readed.at 1) = T := hT.symm
      refine krec_ hD12 C2 (by decide) hg hbn (hbo 1) sl.1 (fun _ _ => by rw [eT]; exact r1) (fun h => absurd hok1 h) (fun _ h => absurd h hT1) (fun _ _ st13 hD13 => ?_)
      rw [eT] at hD13 ⊢
      have st13T : SlG st13 1 tv T.length (ic T) := hD13.slv (fun p hp => List.mem_cons_of_mem _ hp) hsl
      have C3 := recover_C (readed_C C2) (l := T)
      have W3 : (s.readed.readed.recover T).2.W := recover_W (s := s.readed.readed) ⟨sW.held, sW.wait⟩
      generalize (s.readed.readed.recover T).2 = t at hD13 r2' r3 r4 r5 C3 W3
      have at1 : t.at 1 = zb := by
        rw [at_held r3, r5]
        unfold keepF
        rw [if_pos rfl, if_pos rfl]; rfl
      have := main st13 t s10.next tv T 10000 hTl (by omega) hD13 hvh st13T (C3.le (by omega)) W3 r2' r3 (r4.trans sn) (by rw [if_neg hT0]; exact r5) (by rw [at1]; exact zb_bytes) (by rw [at1]; exact dec_zb hg) (by rw [at1]; exact decL_zb)
      simp -implicitDefEqProofs (maxSteps := 2000000) (disch := first|assumption|omega|rfl|(simp only[RD];done)|(simp only[RD];omega)) only [RN,Int.reduceBEq,Int.reduceBNe,Int.reduceLT,Int.reduceLE,Int.reduceAdd,Int.reduceSub,Int.reduceMul,Nat.reduceAdd,↓bc_flatz,↓bc_flat16,↓agg_bytez]
      exact this
end Go.Proofs.Ytiaonndafhfkmaa
