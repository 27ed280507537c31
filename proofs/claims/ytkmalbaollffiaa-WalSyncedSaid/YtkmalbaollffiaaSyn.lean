/- Chapter 08: what WalSynced asks behind the run. -/
import Derived.Test.YtkmalbaollffiaaRun11
set_option linter.all false
set_option maxRecDepth 100000
set_option maxHeartbeats 800000
namespace Go.Proofs.Ytkmalbaollffiaa
open Go.Am
variable {σ st st' : Store} {l d : Nat} {w : WS} {s : DS} {m bn : Nat} {Q : Value → Store → Prop} {g : Geo} {T : List Int} {os : List (Nat × SObj)}
/-- No log. -/
def NL (σ : Store) (v : Value) : Prop := v = .pointer none ∨ ∃ i cs, v = .pointer (some ⟨i, 0, none⟩) ∧ σ.get i = some (.cells cs none) ∧ cs[2]? = some (.pointer none)
theorem nl_check {v : Value} (h : NL σ v) (hq : Q (.int .i64 1) σ) : Does Try.prog 27 [v] σ Q := by
  refine d27 ?_
  rcases h with rfl | ⟨i, cs, rfl, h2, h3⟩
  · simp -implicitDefEqProofs (maxSteps := 2000000) (disch := first|assumption|omega|rfl|(simp only[RD];done)|(simp only[RD];omega)) only [RN,Int.reduceBEq,Int.reduceBNe,Int.reduceLT,Int.reduceLE,Int.reduceAdd,Int.reduceSub,Int.reduceMul,Nat.reduceAdd,↓bc_flatz,↓bc_flat16,↓agg_bytez, p27]
    exact hq
  · simp -implicitDefEqProofs (maxSteps := 2000000) (disch := first|assumption|omega|rfl|(simp only[RD];done)|(simp only[RD];omega)) only [RN,Int.reduceBEq,Int.reduceBNe,Int.reduceLT,Int.reduceLE,Int.reduceAdd,Int.reduceSub,Int.reduceMul,Nat.reduceAdd,↓bc_flatz,↓bc_flat16,↓agg_bytez, p27, h2, h3]
    exact hq
theorem rn_pending0 (h : Rn σ st l d w s m os) (hw : s.wait = []) (hq : Q (.slice none 0 0) st) : Does Try.prog 31 [.pointer (some ⟨d, 0, none⟩)] st Q := by
  obtain ⟨⟨F, G, hX⟩, C, lv, M⟩ := h
  obtain ⟨hm, lm, pv, hv, hD, rfl⟩ := hX.2.1
  refine d31 ?_
  have c1 := hD.cells
  have hl := hD.wait.len
  rw [hw] at hl
  have hl' : lenSl pv = some (.int .i64 0) := hl
  simp -implicitDefEqProofs (maxSteps := 2000000) (disch := first|assumption|omega|rfl|(simp only[RD];done)|(simp only[RD];omega)) only [RN,Int.reduceBEq,Int.reduceBNe,Int.reduceLT,Int.reduceLE,Int.reduceAdd,Int.reduceSub,Int.reduceMul,Nat.reduceAdd,↓bc_flatz,↓bc_flat16,↓agg_bytez, p31]
  refine is_ c1 C.ok.n ?_
  simp -implicitDefEqProofs (maxSteps := 2000000) (disch := first|assumption|omega|rfl|(simp only[RD];done)|(simp only[RD];omega)) only [RN,Int.reduceBEq,Int.reduceBNe,Int.reduceLT,Int.reduceLE,Int.reduceAdd,Int.reduceSub,Int.reduceMul,Nat.reduceAdd,↓bc_flatz,↓bc_flat16,↓agg_bytez, c1, DS.cells, hl']
  refine lop2 (fun k x v st' => x = .slice none 0 0 ∧ v = .int .i64 0 ∧ st' = st) 0 ⟨rfl, rfl, rfl⟩ ?_
  rintro k x v st' next ⟨rfl, rfl, rfl⟩ hnx
  simp -implicitDefEqProofs (maxSteps := 2000000) (disch := first|assumption|omega|rfl|(simp only[RD];done)|(simp only[RD];omega)) only [RN,Int.reduceBEq,Int.reduceBNe,Int.reduceLT,Int.reduceLE,Int.reduceAdd,Int.reduceSub,Int.reduceMul,Nat.reduceAdd,↓bc_flatz,↓bc_flat16,↓agg_bytez]
  exact hq
theorem rn_recover0 (h : Rn σ st l d w s m os) (hm : m + 1000 < 2 ^ 29) (hg : g.ok) (hwg : w.g = g) (hz : s.at 1 = zb) (hq : ∀ st', Rn σ st' l d w s.readed (m + 1) os → Q (.tuple #[.int .i64 0, .int .i64 0]) st') : Does Try.prog 28 [.pointer (some ⟨d, 0, none⟩), .agg ⟨ic g.lay⟩] st Q := by
  have hn := h.n
  obtain ⟨⟨F, G, hX⟩, C, lv, M⟩ := h
  have h1 : DecOk g (s.at 1) := by rw [hz]; exact dec_zb hg
  have h2 : decL (s.at 1) = [] := by rw [hz]; exact decL_zb
  refine recover_ hX.2.1 C hm hg (by rw [← hwg]; exact hn) (by rw [hz]; exact zb_bytes) (fun h => by rw [lv.1] at h; cases h) (fun _ h => absurd h1 h) (fun _ _ _ st' D U => ?_) (fun _ _ h => absurd h2 h) (fun _ _ h => absurd h2 h)
  have L := hX.1
  have U2 : Upd (F ++ G) st st' (F ++ G) := ⟨U.next, fun j hj => by
    rcases List.mem_append.1 hj with h | h
    · exact ⟨Nat.lt_of_lt_of_le (L.lt j h) U.next, .inl (List.mem_append_left _ h)⟩
    · exact ⟨(U.ids j h).1, .inl (List.mem_append_right _ h)⟩, fun j hj hne => U.same j hj fun h => hne (List.mem_append_right _ h)⟩
  have L2 : Log st' l d w s.readed F := (L.same U.next fun j hj => U.same j (L.lt j hj) (hX.2.2.1 j hj)).disk rfl fun _ _ => rfl
  exact hq st' ⟨⟨F, G, hX.upd L2 D hX.2.2.1 U2⟩, readed_C C, lv, M⟩
theorem rn_close (h : Rn σ st l d w s m os) (hm : m + 1000 < 2 ^ 29) (ho : w.opn = false) (hgr : w.grp = []) (hc : w.commits < 2 ^ 62) (hq : ∀ st' G, Disk st' d s G → s.C m → NL st' (.pointer (some ⟨l, 0, none⟩)) → Q (.int .i64 0) st') : Does Try.prog 32 [.pointer (some ⟨l, 0, none⟩)] st Q := by
  refine d32 ?_
  simp -implicitDefEqProofs (maxSteps := 2000000) (disch := first|assumption|omega|rfl|(simp only[RD];done)|(simp only[RD];omega)) only [RN,Int.reduceBEq,Int.reduceBNe,Int.reduceLT,Int.reduceLE,Int.reduceAdd,Int.reduceSub,Int.reduceMul,Nat.reduceAdd,↓bc_flatz,↓bc_flat16,↓agg_bytez, p32]
  refine rn_sync h hm ho hc fun st' w' s' hR _ _ _ e => ?_
  obtain ⟨rfl, rfl, rfl⟩ := e hgr
  obtain ⟨⟨F, G, hX⟩, C, lv, M⟩ := h
  obtain ⟨c, hm', ov, wv, v, FC, hL, _, _, _, rfl⟩ := hX.1
  have cl := hL.cells
  obtain ⟨zl, hzl⟩ : ∃ zl : List Value, zl = [.slice none 0 0, .map none, .pointer none, .pointer none, .int .i64 0, .int .i64 0, .int .i64 0, .int .i64 0, .int .i64 0, .int .i64 0, .int .i64 0, .int .i64 0, .int .i64 0, .int .i64 0, .bool false, .int .i64 0, .map none, .int .i64 0, .int .i64 0] := ⟨_, rfl⟩
  have ep : aggOf (buildL [(unrle [(1, (.slice none 0 0)), (1, (.map none))]), (unrle [(1, (.pointer none))]), (unrle [(1, (.pointer none))]), (unrle [(9, (.int .i64 0))]), (unrle [(1, (.int .i64 0))]), (unrle [(1, (.bool false))]), (unrle [(1, (.int .i64 0))]), (unrle [(1, (.map none))]), (unrle [(1, (.int .i64 0))]), (unrle [(1, (.int .i64 0))])] []) = some (.agg ⟨zl⟩) := by rw [hzl]; rfl
  have l19 : zl.length = 19 := by rw [hzl]; rfl
  have w19 : (w'.cells d c hm' ov wv).length = 19 := rfl
  simp -implicitDefEqProofs (maxSteps := 2000000) (disch := first|assumption|omega|rfl|(simp only[RD];done)|(simp only[RD];omega)) only [RN,Int.reduceBEq,Int.reduceBNe,Int.reduceLT,Int.reduceLE,Int.reduceAdd,Int.reduceSub,Int.reduceMul,Nat.reduceAdd,↓bc_flatz,↓bc_flat16,↓agg_bytez, ↓ep, cl, l19, w19]
  refine hq _ G (hX.2.1.same fun j hj => get_put_ne' fun e => hX.2.2.1 l (by simp [lids]) (e ▸ hj)) C (.inr ⟨l, _, rfl, Store.get_put_same _ _ _, rfl⟩)
theorem flat_eq {A B : List Int} (ha : A.length = bn * 1024) (hb : B.length = bn * 1024) (h : ∀ x : Nat, x < bn → (A.drop (x * 1024)).take 1024 = (B.drop (x * 1024)).take 1024) : A = B := by
  refine List.ext_getElem? fun t => ?_
  by_cases ht : t < bn * 1024
  · have e := congrArg (fun l => l[t % 1024]?) (h (t / 1024) (by omega))
    simp only [List.getElem?_take, List.getElem?_drop] at e
    rw [if_pos (by omega), show t / 1024 * 1024 + t % 1024 = t by omega] at e
    rw [if_pos (by omega)] at e
    exact e
  · rw [List.getElem?_eq_none (by omega), List.getElem?_eq_none (by omega)]
/-- What is told is found. -/
theorem found_ {sid oid iid i : Nat} {og : Option Nat} {c : List Value} {least : Int} (R : Rm σ st l d w s m sid oid iid og c T bn i least []) (hg : g.ok) (wg : w.g = g) (hm : m + 1000 < 2 ^ 29) (h3 : g.blocks ≤ 300) (hbn : (bn : Int) = g.blocks - (1 + g.log)) (hgr : w.grp = []) (hT : TW bn T w s)
    (hq : ∀ st' r, Rn σ st' l d w { s with reads := r } (m + 300) [] → Q (.bool true) st') :
    Does Try.prog 29 [.pointer (some ⟨d, 0, none⟩), .agg ⟨ic g.lay⟩, .agg ⟨scC (.slice (some ⟨oid, 0, og⟩) (i + 1) (i + 1)) i i⟩] st Q := by
  have hgg := hg
  unfold Geo.ok at hgg
  refine d29 ?_
  have bx : ∀ tv a b, boxN (.agg ⟨scC tv a b⟩) = some (.cells (scC tv a b) none, ptrTo) := fun _ _ _ => rfl
  have l9 : (ic g.lay).length = 9 := rfl
  obtain ⟨s1, hs1⟩ : ∃ s1, s1 = st.push (.cells (ic g.lay) none) := ⟨_, rfl⟩
  have hR1 := R.r.push (.cells (ic g.lay) none)
  rw [← hs1] at hR1
  obtain ⟨s2, hs2⟩ : ∃ s2, s2 = s1.push (.cells (scC (.slice (some ⟨oid, 0, og⟩) (i + 1) (i + 1)) i i) none) := ⟨_, rfl⟩
  have hR2 := hR1.push (.cells (scC (.slice (some ⟨oid, 0, og⟩) (i + 1) (i + 1)) i i) none)
  rw [← hs2] at hR2
  have c1 : s2.get st.next = some (.cells (ic g.lay) none) := hR2.get (by simp)
  unfold p29
  rw [box_agg, nop_some, ← hs1, bx, nop_some, ← hs2]
  simp -implicitDefEqProofs (maxSteps := 2000000) (disch := first|assumption|omega|rfl|(simp only[RD];done)|(simp only[RD];omega)) only [RN,Int.reduceBEq,Int.reduceBNe,Int.reduceLT,Int.reduceLE,Int.reduceAdd,Int.reduceSub,Int.reduceMul,Nat.reduceAdd,↓bc_flatz,↓bc_flat16,↓agg_bytez, c1, l9]
  refine behind_ hR2 wg hg (by omega) h3 hbn fun st4 fid r hR4 hf hne4 => ?_
  have c2 : st4.get s1.next = some (.cells (scC (.slice (some ⟨oid, 0, og⟩) (i + 1) (i + 1)) i i) none) := hR4.get (by simp)
  have cO : st4.get oid = some (.cells c og) := hR4.get (by simp)
  have cI : st4.get iid = some (.cells (bc T) (some 1024)) := hR4.get (by simp)
  have cF : st4.get fid = some (.cells (bc (atB s (1 + g.log) bn)) (some 1024)) := hR4.get (by simp)
  have gi := R.gi
  have l2 := R.l2
  have eT : T = atB s (1 + g.log) bn := flat_eq hT.1 (atB_len R.r.C _ _) fun x hx => by
    rw [hT.2 x hx, atB_at R.r.C _ _ hx, wg]
    unfold WS.at
    rw [hgr]; rfl
  rw [← eT] at cF
  have hTl := hT.1
  simp -implicitDefEqProofs (maxSteps := 2000000) (disch := first|assumption|omega|rfl|(simp only[RD];done)|(simp only[RD];omega)) only [RN,Int.reduceBEq,Int.reduceBNe,Int.reduceLT,Int.reduceLE,Int.reduceAdd,Int.reduceSub,Int.reduceMul,Nat.reduceAdd,↓bc_flatz,↓bc_flat16,↓agg_bytez, c2, sc0, sc1, gi, cO, l2]
  refine sameblk_ (bn := bn) (B := T) (SlR.new (.inr rfl) cF (by rw [bc_len]; exact hTl)) (SlR.new (.inr rfl) cI (by rw [bc_len]; exact hTl)) hTl (by omega) ?_
  simp -implicitDefEqProofs (maxSteps := 2000000) (disch := first|assumption|omega|rfl|(simp only[RD];done)|(simp only[RD];omega)) only [RN,Int.reduceBEq,Int.reduceBNe,Int.reduceLT,Int.reduceLE,Int.reduceAdd,Int.reduceSub,Int.reduceMul,Nat.reduceAdd,↓bc_flatz,↓bc_flat16,↓agg_bytez]
  exact hq st4 r (hR4.less fun p hp => by cases hp)
end Go.Proofs.Ytkmalbaollffiaa
