/- WalWhole: the law. -/
import Derived.Test.YtkmalbaollffiaaWr11
set_option linter.all false
set_option maxRecDepth 100000
set_option maxHeartbeats 1600000
namespace Go.Proofs.Ytkmalbaollffiaa
open Go.Am
variable {σ st st' : Store} {l d : Nat} {s : DS} {m bn : Nat} {Q : Value → Store → Prop} {g : Geo} {os : List (Nat × SObj)} {L : LPt} {k : Int} {o : List (Int × List Int)} {Af Bf : Int → List Int}
theorem gi2 {oid i x : Nat} {og : Option Nat} (h : og = some 1 ∨ og = none ∧ i = 0) (hx : x ≤ i) : iaddrS 1 (.slice (some ⟨oid, 0, og⟩) (i + 1) (i + 1)) (.int .i64 ((x : Nat) : Int)) = some (.pointer (some ⟨oid, x, none⟩)) := by
  rcases h with rfl | ⟨rfl, _⟩
  · rw [iaddrS_grown (by omega) (by omega)]; simp
  · rw [iaddrS_eq (by omega) (by omega)]; simp
theorem at_eq {A : List Int} {f : Int → List Int} (hC : s.C m) (hA : AT g bn A f) (h : ∀ y, 1 + g.log ≤ y → s.at y = f y) : atB s (1 + g.log) bn = A :=
  blocks_ne (atB_len hC _ _) hA.1 fun x hx => by rw [hA.2 x hx, atB_at hC _ _ hx, h _ (by omega)]
theorem found_ {oid iid aid i ln : Nat} {og : Option Nat} {c : List Value} {A T : List Int} (h : Rg L σ st d s m os) (ho : (oid, SObj.cells c og) ∈ os) (hi : (iid, SObj.cells (bc T) (some 1024)) ∈ os) (ha : (aid, SObj.cells (bc A) (some 1024)) ∈ os) (hog : og = some 1 ∨ og = none ∧ i = 0)
    (hcl : c[i]? = some (.slice (some ⟨iid, 0, some 1024⟩) bn bn)) (hca : c[ln]? = some (.slice (some ⟨aid, 0, some 1024⟩) bn bn)) (hle : ln ≤ i) (hd : s.dead = false) (hn : g.blocks ≤ s.n) (hg : g.ok) (hm : m + 1000 < 2 ^ 29) (h3 : g.blocks ≤ 300) (hbn : (bn : Int) = g.blocks - (1 + g.log)) (la : A.length = bn * 1024) (lt : T.length = bn * 1024) (hf : atB s (1 + g.log) bn = A ∨ atB s (1 + g.log) bn = T)
    (hq : ∀ st' r, Rg L σ st' d { s with reads := r } (m + 300) [] → Q (.bool true) st') :
    Does Try.prog 29 [.pointer (some ⟨d, 0, none⟩), .agg ⟨ic g.lay⟩, .agg ⟨scC (.slice (some ⟨oid, 0, og⟩) (i + 1) (i + 1)) (ln : Nat) (i : Nat)⟩] st Q := by
  have hgg := hg
  unfold Geo.ok at hgg
  refine d29 ?_
  have bx : ∀ tv a b, boxN (.agg ⟨scC tv a b⟩) = some (.cells (scC tv a b) none, ptrTo) := fun _ _ _ => rfl
  have l9 : (ic g.lay).length = 9 := rfl
  obtain ⟨s1, hs1⟩ : ∃ s1, s1 = st.push (.cells (ic g.lay) none) := ⟨_, rfl⟩
  have hR1 := h.push (.cells (ic g.lay) none)
  rw [← hs1] at hR1
  obtain ⟨s2, hs2⟩ : ∃ s2, s2 = s1.push (.cells (scC (.slice (some ⟨oid, 0, og⟩) (i + 1) (i + 1)) (ln : Nat) (i : Nat)) none) := ⟨_, rfl⟩
  have hR2 := hR1.push (.cells (scC (.slice (some ⟨oid, 0, og⟩) (i + 1) (i + 1)) (ln : Nat) (i : Nat)) none)
  rw [← hs2] at hR2
  have c1 : s2.get st.next = some (.cells (ic g.lay) none) := hR2.get (by simp)
  unfold p29
  rw [box_agg, nop_some, ← hs1, bx, nop_some, ← hs2]
  simp -implicitDefEqProofs (maxSteps := 2000000) (disch := first|assumption|omega|rfl|(simp only[RD];done)|(simp only[RD];omega)) only [RN,Int.reduceBEq,Int.reduceBNe,Int.reduceLT,Int.reduceLE,Int.reduceAdd,Int.reduceSub,Int.reduceMul,Nat.reduceAdd,↓bc_flatz,↓bc_flat16,↓agg_bytez, c1, l9]
  refine behind_ hR2 hd hn hg (by omega) h3 hbn fun st4 fid r hR4 hf4 hne4 => ?_
  have c2 : st4.get s1.next = some (.cells (scC (.slice (some ⟨oid, 0, og⟩) (i + 1) (i + 1)) (ln : Nat) (i : Nat)) none) := hR4.get (by simp)
  have cO : st4.get oid = some (.cells c og) := hR4.get (List.mem_cons_of_mem _ (List.mem_cons_of_mem _ (List.mem_cons_of_mem _ ho)))
  have cI : st4.get iid = some (.cells (bc T) (some 1024)) := hR4.get (List.mem_cons_of_mem _ (List.mem_cons_of_mem _ (List.mem_cons_of_mem _ hi)))
  have cA : st4.get aid = some (.cells (bc A) (some 1024)) := hR4.get (List.mem_cons_of_mem _ (List.mem_cons_of_mem _ (List.mem_cons_of_mem _ ha)))
  obtain ⟨D, hD⟩ : ∃ D, D = atB s (1 + g.log) bn := ⟨_, rfl⟩
  have lD : D.length = bn * 1024 := by rw [hD]; exact atB_len h.C _ _
  rw [← hD] at hR4 hf
  have cF : st4.get fid = some (.cells (bc D) (some 1024)) := hR4.get (List.mem_cons_self ..)
  have g1 := gi2 (oid := oid) hog hle
  have g2 := gi2 (oid := oid) hog (Nat.le_refl i)
  have sF : SlR st4 1024 (.slice (some ⟨fid, 0, some 1024⟩) bn bn) bn (bc D) := SlR.new (.inr rfl) cF (by rw [bc_len]; exact lD)
  have sI : SlR st4 1024 (.slice (some ⟨iid, 0, some 1024⟩) bn bn) bn (bc T) := SlR.new (.inr rfl) cI (by rw [bc_len]; exact lt)
  have sA : SlR st4 1024 (.slice (some ⟨aid, 0, some 1024⟩) bn bn) bn (bc A) := SlR.new (.inr rfl) cA (by rw [bc_len]; exact la)
  simp -implicitDefEqProofs (maxSteps := 2000000) (disch := first|assumption|omega|rfl|(simp only[RD];done)|(simp only[RD];omega)) only [RN,Int.reduceBEq,Int.reduceBNe,Int.reduceLT,Int.reduceLE,Int.reduceAdd,Int.reduceSub,Int.reduceMul,Nat.reduceAdd,↓bc_flatz,↓bc_flat16,↓agg_bytez, c2, sc0, sc1, g1, cO, hca]
  refine sameblk_ (bn := bn) sF sA lD la (by omega) ?_
  by_cases e : D = A
  · rw [decide_eq_true e]
    simp -implicitDefEqProofs (maxSteps := 2000000) (disch := first|assumption|omega|rfl|(simp only[RD];done)|(simp only[RD];omega)) only [RN,Int.reduceBEq,Int.reduceBNe,Int.reduceLT,Int.reduceLE,Int.reduceAdd,Int.reduceSub,Int.reduceMul,Nat.reduceAdd,↓bc_flatz,↓bc_flat16,↓agg_bytez]
    exact hq st4 r (hR4.less fun p hp => by cases hp)
  · rw [decide_eq_false e]
    simp -implicitDefEqProofs (maxSteps := 2000000) (disch := first|assumption|omega|rfl|(simp only[RD];done)|(simp only[RD];omega)) only [RN,Int.reduceBEq,Int.reduceBNe,Int.reduceLT,Int.reduceLE,Int.reduceAdd,Int.reduceSub,Int.reduceMul,Nat.reduceAdd,↓bc_flatz,↓bc_flat16,↓agg_bytez, c2, sc0, sc2, g2, cO, hcl]
    refine sameblk_ (bn := bn) sF sI lD lt (by omega) ?_
    rw [decide_eq_true (hf.resolve_left e)]
    try simp -implicitDefEqProofs (maxSteps := 2000000) (disch := first|assumption|omega|rfl|(simp only[RD];done)|(simp only[RD];omega)) only [RN,Int.reduceBEq,Int.reduceBNe,Int.reduceLT,Int.reduceLE,Int.reduceAdd,Int.reduceSub,Int.reduceMul,Nat.reduceAdd,↓bc_flatz,↓bc_flat16,↓agg_bytez]
    exact hq st4 r (hR4.less fun p hp => by cases hp)
/-- Recovery of what may be left. -/
theorem rx_rec (h : Rg (LX l d k) σ st d s m os) (hm0 : m + 1000 < 2 ^ 29) (hg : g.ok) (hb : g.blocks ≤ s.n) (hd : s.dead = false) (hw : s.wait = []) (hG : GrpOk g o Bf) (hF : Fin8 g o Af Bf s)
    (hq : ∀ st' s' z e, Rg (LX l d k) σ st' d s' (m + 600) os → e = 0 ∨ e = 3 → g.blocks ≤ s'.n → (∀ ks, Fin8 g o Af Bf (s'.crash ks)) → (s.fuse < 0 → e = 0 ∧ s'.dead = false ∧ (Cl g Af s' ∨ Cl g Bf s')) → Q (.tuple #[.int .i64 z, .int .i64 e]) st') : Does Try.prog 28 [.pointer (some ⟨d, 0, none⟩), .agg ⟨ic g.lay⟩] st Q := by
  have z0 : s.at 1 = zb → BytesOk (s.at 1) ∧ DecOk g (s.at 1) ∧ decL (s.at 1) = [] := fun e => by rw [e]; exact ⟨zb_bytes, dec_zb hg, decL_zb⟩
  have fin0 : s.at 1 = zb → (Cl g Af s ∨ Cl g Bf s) → Does Try.prog 28 [.pointer (some ⟨d, 0, none⟩), .agg ⟨ic g.lay⟩] st Q := fun e hc => by
    obtain ⟨b1, b2, b3⟩ := z0 e
    exact rx_recover h hm0 hg hb hd b1 b2 (fun _ st' hR => hq st' s.readed _ _ hR (.inl rfl) hb (fun ks => Fin8.same hF (rest_crash (s := s.readed) hw ks)) fun _ => ⟨rfl, hd, hc⟩) (fun h => absurd b3 h) (fun h => absurd b3 h)
  rcases hF with hc | hc | ⟨hne, hL⟩
  · exact fin0 hc.1 (.inl hc)
  · exact fin0 hc.1 (.inr hc)
  · obtain ⟨b1, b2, b3⟩ := lg_dec hg hG hL
    have on : ordL o ≠ [] := fun e => hne (by have := ordL_len o; rw [e] at this; exact List.eq_nil_of_length_eq_zero this.symm)
    have hcut := rec_cut (s := s.readed) Af hd hw hg hb hG hne hL
    have hn2 : (s.readed.recover (ordL o)).2.n = s.n := recover_n _ _
    refine rx_recover h hm0 hg hb hd b1 b2 (fun e => absurd (b3.symm.trans e) on) (fun _ e0 st' z hR => ?_) (fun _ e0 st' hR => ?_)
    · rw [b3] at e0 hR
      rcases hcut with ⟨_, h2, h3, h4⟩ | ⟨h1, _⟩
      · exact hq st' _ z 0 hR (.inl rfl) (by rw [hn2]; exact hb) (fun ks => Fin8.same (.inr (.inl h4)) (rest_crash h3 ks)) fun _ => ⟨rfl, h2, .inr h4⟩
      · exact absurd e0 h1
    · rw [b3] at e0 hR
      rcases hcut with ⟨h1, _⟩ | ⟨_, h2, h3⟩
      · exact absurd h1 e0
      · exact hq st' _ 0 3 hR (.inr rfl) (by rw [hn2]; exact hb) h3 fun hf => absurd hf h2
theorem rx_rec0 (h : Rg L σ st d s m os) (hm0 : m + 1000 < 2 ^ 29) (hg : g.ok) (hb : g.blocks ≤ s.n) (hd : s.dead = false) (hz : s.at 1 = zb) (hq : ∀ st' G, Disk st' d s.readed G → s.readed.C (m + 1) → (∀ j ∈ G, σ.next ≤ j) → Keeps σ st' → Q (.tuple #[.int .i64 0, .int .i64 0]) st') : Does Try.prog 28 [.pointer (some ⟨d, 0, none⟩), .agg ⟨ic g.lay⟩] st Q := by
  obtain ⟨⟨F, G, hX⟩, C, _⟩ := h
  have h1 : DecOk g (s.at 1) := by rw [hz]; exact dec_zb hg
  have h2 : decL (s.at 1) = [] := by rw [hz]; exact decL_zb
  have h5 := hX.2.2.2.2.1
  have hge : ∀ j ∈ G, σ.next ≤ j := fun j hj => hX.2.2.2.1 j (List.mem_append_right _ hj)
  exact recover_ hX.2.1 C hm0 hg hb (by rw [hz]; exact zb_bytes) (fun h => by rw [hd] at h; cases h) (fun _ h => absurd h1 h) (fun _ _ _ st' D U => hq st' G D (readed_C C) hge ⟨Nat.le_trans h5.1 U.next, fun j hj => by rw [U.same j (Nat.lt_of_lt_of_le hj h5.1) (fun h => by have := hge j h; omega), h5.2 j hj]⟩) (fun _ _ h => absurd h2 h) (fun _ _ h => absurd h2 h)
theorem crash_mine {ks : List Bool} : (s.crash ks).mine k = false := by
  unfold DS.mine
  show (!false && decide (0 < k) && decide ((0 : Int) = k)) = false
  by_cases h : 0 < k
  · rw [decide_eq_false (show ¬ (0 : Int) = k by omega)]; simp
  · rw [decide_eq_false h]; simp
theorem walwhole_ {sv yv kv kv2 : Value} {x y : Int} {ls : List Value} {steps : List (List (Int × Int))} {sy : List Int} (hsyl : sy.length < 2 ^ 63) (hby : ∀ t ∈ steps, ∀ p ∈ t, 0 ≤ p.2 ∧ p.2 < 256) (hll : ls.length = steps.length) (hcap : steps.length < 2 ^ 63) (hlc : ∀ t ∈ steps, t.length < 2 ^ 63)
    (hls : SlR σ 1 sv ls.length ls) (hsy : SlR σ 1 yv sy.length (ic sy)) (hstp : ∀ (i : Nat) v t, ls[i]? = some v → steps[i]? = some t → StpV σ v t) (hq : ∀ st, Q (.bool true) st) {ks ks2 : List Bool} (hkv : SlR σ 1 kv ks.length (bC ks)) (hkv2 : SlR σ 1 kv2 ks2.length (bC ks2)) : Does Try.prog 4 [.agg ⟨playV g sv yv kv kv2 x y⟩] σ Q := by
  refine d4 ?_
  have bx : boxN (.agg ⟨playV g sv yv kv kv2 x y⟩) = some (.cells (playV g sv yv kv kv2 x y) none, ptrTo) := rfl
  have l9 : (ic g.lay).length = 9 := rfl
  have p9 : (playV g sv yv kv kv2 x y).length = 9 := rfl
  have u9 : (unrle [(9, .int .i64 0)]).length = 9 := rfl
  have rp : rdPart (some (.cells (playV g sv yv kv kv2 x y) none)) 0 3 = some (.agg ⟨ic g.cells⟩) := rfl
  have r0 : rdOne (some (.cells (playV g sv yv kv kv2 x y) none)) 0 = some (.int .i64 g.blocks) := rfl
  have e5 : rdOne (some (.cells (playV g sv yv kv kv2 x y) none)) 5 = some (.int .i64 x) := rfl
  have e6 : rdOne (some (.cells (playV g sv yv kv kv2 x y) none)) 6 = some kv := rfl
  have e7 : rdOne (some (.cells (playV g sv yv kv kv2 x y) none)) 7 = some (.int .i64 y) := rfl
  have e8 : rdOne (some (.cells (playV g sv yv kv kv2 x y) none)) 8 = some kv2 := rfl
  unfold p4
  obtain ⟨s1, hs1⟩ : ∃ s1, s1 = σ.push (.cells (playV g sv yv kv kv2 x y) none) := ⟨_, rfl⟩
  have k1 : Keeps σ s1 := by rw [hs1]; exact (Keeps.refl _).push _
  have c1 : s1.get σ.next = some (.cells (playV g sv yv kv kv2 x y) none) := by rw [hs1]; exact Store.get_push_same _ _
  rw [bx, nop_some, ← hs1]
  try simp -implicitDefEqProofs (maxSteps := 2000000) (disch := first|assumption|omega|rfl|(simp only[RD];done)|(simp only[RD];omega)) only [RN,Int.reduceBEq,Int.reduceBNe,Int.reduceLT,Int.reduceLE,Int.reduceAdd,Int.reduceSub,Int.reduceMul,Nat.reduceAdd,↓bc_flatz,↓bc_flat16,↓agg_bytez]
  refine lives_ fun s2 k2 => ?_
  have c2 := k2.get c1
  have k12 := k1.trans k2
  simp -implicitDefEqProofs (maxSteps := 2000000) (disch := first|assumption|omega|rfl|(simp only[RD];done)|(simp only[RD];omega)) only [RN,Int.reduceBEq,Int.reduceBNe,Int.reduceLT,Int.reduceLE,Int.reduceAdd,Int.reduceSub,Int.reduceMul,Nat.reduceAdd,↓bc_flatz,↓bc_flat16,↓agg_bytez, c2, p9]
  refine lfitsN_ hll hcap hlc (hls.keeps fun i o h => k12.get h) (fun i v t h1 h2 => (hstp i v t h1 h2).1) ?_
  by_cases hf : g.ok ∧ g.blocks ≤ 300 ∧ steps.length ≤ 40 ∧ ∀ t ∈ steps, t.length ≤ 31
  · rw [decide_eq_true hf]
    obtain ⟨hg, h3, h40, h31⟩ := hf
    have hgg := hg
    unfold Geo.ok at hgg
    have hda : g.dataAt = 1 + g.log + g.nodeBlocks + g.bitsBlocks := rfl
    have hnb : g.nodeBlocks = (g.inodes + 16) / 16 := rfl
    have hbb : g.bitsBlocks = (g.blocks + 8191) / 8192 := rfl
    have hof : g.of = g.lay := if_pos hg
    have herr : g.err = 0 := if_pos hg
    obtain ⟨bn, hbn⟩ : ∃ bn : Nat, (bn : Int) = g.blocks - (1 + g.log) := ⟨(g.blocks - (1 + g.log)).toNat, by omega⟩
    simp -implicitDefEqProofs (maxSteps := 2000000) (disch := first|assumption|omega|rfl|(simp only[RD];done)|(simp only[RD];omega)) only [RN,Int.reduceBEq,Int.reduceBNe,Int.reduceLT,Int.reduceLE,Int.reduceAdd,Int.reduceSub,Int.reduceMul,Nat.reduceAdd,↓bc_flatz,↓bc_flat16,↓agg_bytez, p4_9, c2, rp]
    refine rof_ ?_
    obtain ⟨s4, hs4⟩ : ∃ s4, s4 = s2.push (.cells (ic g.lay) none) := ⟨_, rfl⟩
    have k4 : Keeps s2 s4 := by rw [hs4]; exact (Keeps.refl _).push _
    have c4 : s4.get s2.next = some (.cells (ic g.lay) none) := by rw [hs4]; exact Store.get_push_same _ _
    have c24 := k4.get c2
    simp -implicitDefEqProofs (maxSteps := 2000000) (disch := first|assumption|omega|rfl|(simp only[RD];done)|(simp only[RD];omega)) only [RN,Int.reduceBEq,Int.reduceBNe,Int.reduceLT,Int.reduceLE,Int.reduceAdd,Int.reduceSub,Int.reduceMul,Nat.reduceAdd,↓bc_flatz,↓bc_flat16,↓agg_bytez, p4_8, hof, herr, u9, l9]
    rw [← hs4]
    simp -implicitDefEqProofs (maxSteps := 2000000) (disch := first|assumption|omega|rfl|(simp only[RD];done)|(simp only[RD];omega)) only [RN,Int.reduceBEq,Int.reduceBNe,Int.reduceLT,Int.reduceLE,Int.reduceAdd,Int.reduceSub,Int.reduceMul,Nat.reduceAdd,↓bc_flatz,↓bc_flat16,↓agg_bytez, c24, r0]
    refine new_o hg.2.2.2.2.1 hg.2.2.2.2.2.1 fun s5 d G d5 u5 => ?_
    have k5 : Keeps s4 s5 := ⟨u5.next, fun j hj => u5.same j hj List.not_mem_nil⟩
    have hG : ∀ j ∈ G, s4.next ≤ j := fun j hj => by
      rcases (u5.ids j hj).2 with h | h
      · exact absurd h List.not_mem_nil
      · exact h
    simp -implicitDefEqProofs (maxSteps := 2000000) (disch := first|assumption|omega|rfl|(simp only[RD];done)|(simp only[RD];omega)) only [RN,Int.reduceBEq,Int.reduceBNe,Int.reduceLT,Int.reduceLE,Int.reduceAdd,Int.reduceSub,Int.reduceMul,Nat.reduceAdd,↓bc_flatz,↓bc_flat16,↓agg_bytez, p4_8, k5.get c4, l9]
    refine wnew_ d5 (new_C hg.2.2.2.2.1 hg.2.2.2.2.2.1) (by omega) hg (Int.le_refl _) zb_bytes (fun h => by cases h) (fun _ h => absurd ⟨dec_zb hg, decL_zb⟩ h) fun _ _ _ s6 l F L6 d6 A6 u6 => ?_
    have k6 : Keeps s4 s6 := ⟨Nat.le_trans u5.next u6.next, fun j hj => by rw [u6.same j (Nat.lt_of_lt_of_le hj u5.next) (fun h => by have := hG _ h; omega), k5.2 j hj]⟩
    have hR : Rn s4 s6 l d (WS.new g 1) (fresh0 g) 2 [] := ⟨⟨F, G, ⟨L6, rfl⟩, d6, A6, fun j hj => by
      rcases (u6.ids j hj).2 with h | h
      · exact hG j h
      · exact Nat.le_trans u5.next h, k6, fun p hp => by cases hp⟩, fresh0_C hg, lw_ok⟩
    have hkk : ∀ st', Keeps s4 st' → Keeps σ st' := fun st' k => (k12.trans k4).trans k
    have hsv : ∀ st', Keeps s4 st' → SlR st' 1 sv ls.length ls ∧ SlR st' 1 yv sy.length (ic sy) ∧ ∀ (i : Nat) v t, ls[i]? = some v → steps[i]? = some t → StpV st' v t := fun st' k => ⟨hls.keeps fun i o h => (hkk st' k).get h, hsy.keeps fun i o h => (hkk st' k).get h, fun i v t hv ht => (hstp i v t hv ht).keep (hkk st' k).2 (hkk st' k).1⟩
    have hk1 : ∀ st', Keeps s4 st' → SlR st' 1 kv ks.length (bC ks) := fun st' k => hkv.keeps fun i o h => (hkk st' k).get h
    have hk2 : ∀ st', Keeps s4 st' → SlR st' 1 kv2 ks2.length (bC ks2) := fun st' k => hkv2.keeps fun i o h => (hkk st' k).get h
    simp -implicitDefEqProofs (maxSteps := 2000000) (disch := first|assumption|omega|rfl|(simp only[RD];done)|(simp only[RD];omega)) only [RN,Int.reduceBEq,Int.reduceBNe,Int.reduceLT,Int.reduceLE,Int.reduceAdd,Int.reduceSub,Int.reduceMul,Nat.reduceAdd,↓bc_flatz,↓bc_flat16,↓agg_bytez, p4_7, k6.get c24, e5]
    refine pick_ (by decide) (by decide) ?_
    have m1 := Int.emod_nonneg x (show (1000 : Int) ≠ 0 by decide)
    have m2 := Int.emod_lt_of_pos x (show (0 : Int) < 1000 by decide)
    refine rn_fuse hR (x := x % 1000) (by omega) fun s7 hR7 => ?_
    have k7 := hR7.keeps
    simp -implicitDefEqProofs (maxSteps := 2000000) (disch := first|assumption|omega|rfl|(simp only[RD];done)|(simp only[RD];omega)) only [RN,Int.reduceBEq,Int.reduceBNe,Int.reduceLT,Int.reduceLE,Int.reduceAdd,Int.reduceSub,Int.reduceMul,Nat.reduceAdd,↓bc_flatz,↓bc_flat16,↓agg_bytez, k7.get c4, l9, k7.get c24, p9]
    refine run_ (sy := sy) (steps := steps) (ls := ls) hg h3 hbn h40 h31 hby hll hsyl hR7 (by omega) rfl rfl rfl rfl rfl rfl rfl hsv fun st8 s8 sid oid iid aid og c A T i ln hD => ?_
    obtain ⟨⟨k, R⟩, hca, hle, hn8, o, Af, Bf, hG, hAf, hBf, hfin⟩ := hD
    obtain ⟨tv, htv⟩ : ∃ tv : Value, tv = .slice (some ⟨oid, 0, og⟩) (i + 1) (i + 1) := ⟨_, rfl⟩
    have u4 : unrle [(1, Value.slice none 0 0), (2, .int .i64 0), (1, .bool false)] = [.slice none 0 0, .int .i64 0, .int .i64 0, .bool false] := rfl
    have lC : (scC tv (ln : Nat) (i : Nat)).length = 4 := rfl
    have rC : rdPart (some (.cells (scC tv (ln : Nat) (i : Nat)) none)) 0 4 = some (.agg ⟨scC tv (ln : Nat) (i : Nat)⟩) := rfl
    have g4 : ([.slice none 0 0, .int .i64 0, .int .i64 0, .bool false] : List Value).length = 4 := rfl
    have hR9 := R.r.push (.cells (scC tv (ln : Nat) (i : Nat)) none)
    obtain ⟨s9, hs9⟩ : ∃ s9, s9 = st8.push (.cells (scC tv (ln : Nat) (i : Nat)) none) := ⟨_, rfl⟩
    rw [← hs9, ← htv] at hR9
    rw [← htv]
    generalize hos : (st8.next, SObj.cells (scC tv (ln : Nat) (i : Nat)) none) :: (sid, SObj.cells (scC tv (ln : Nat) (i : Nat)) none) :: (oid, SObj.cells c og) :: (iid, SObj.cells (bc T) (some 1024)) :: [(aid, SObj.cells (bc A) (some 1024))] = os at hR9
    have mS : (st8.next, SObj.cells (scC tv (ln : Nat) (i : Nat)) none) ∈ os := by rw [← hos]; simp
    have mO : (oid, SObj.cells c og) ∈ os := by rw [← hos]; simp
    have mI : (iid, SObj.cells (bc T) (some 1024)) ∈ os := by rw [← hos]; simp
    have mA : (aid, SObj.cells (bc A) (some 1024)) ∈ os := by rw [← hos]; simp
    simp -implicitDefEqProofs (maxSteps := 2000000) (disch := first|assumption|omega|rfl|(simp only[RD];done)|(simp only[RD];omega)) only [RN,Int.reduceBEq,Int.reduceBNe,Int.reduceLT,Int.reduceLE,Int.reduceAdd,Int.reduceSub,Int.reduceMul,Nat.reduceAdd,↓bc_flatz,↓bc_flat16,↓agg_bytez, p4_6, u4, lC, g4]
    rw [← hs9]
    simp -implicitDefEqProofs (maxSteps := 2000000) (disch := first|assumption|omega|rfl|(simp only[RD];done)|(simp only[RD];omega)) only [RN,Int.reduceBEq,Int.reduceBNe,Int.reduceLT,Int.reduceLE,Int.reduceAdd,Int.reduceSub,Int.reduceMul,Nat.reduceAdd,↓bc_flatz,↓bc_flat16,↓agg_bytez, hR9.get mS, sc3, hR9.keeps.get c24, e6]
    refine rx_crash hR9 (by omega) hk1 fun s10 hR10 => ?_
    simp -implicitDefEqProofs (maxSteps := 2000000) (disch := first|assumption|omega|rfl|(simp only[RD];done)|(simp only[RD];omega)) only [RN,Int.reduceBEq,Int.reduceBNe,Int.reduceLT,Int.reduceLE,Int.reduceAdd,Int.reduceSub,Int.reduceMul,Nat.reduceAdd,↓bc_flatz,↓bc_flat16,↓agg_bytez]
    refine rx_check hR10 crash_mine ?_
    simp -implicitDefEqProofs (maxSteps := 2000000) (disch := first|assumption|omega|rfl|(simp only[RD];done)|(simp only[RD];omega)) only [RN,Int.reduceBEq,Int.reduceBNe,Int.reduceLT,Int.reduceLE,Int.reduceAdd,Int.reduceSub,Int.reduceMul,Nat.reduceAdd,↓bc_flatz,↓bc_flat16,↓agg_bytez, p4_5]
    refine rx_used hR10 crash_mine ?_
    simp -implicitDefEqProofs (maxSteps := 2000000) (disch := first|assumption|omega|rfl|(simp only[RD];done)|(simp only[RD];omega)) only [RN,Int.reduceBEq,Int.reduceBNe,Int.reduceLT,Int.reduceLE,Int.reduceAdd,Int.reduceSub,Int.reduceMul,Nat.reduceAdd,↓bc_flatz,↓bc_flat16,↓agg_bytez, hR10.keeps.get c24, e7]
    refine pick_ (by decide) (by decide) ?_
    have m3 := Int.emod_nonneg y (show (80 : Int) ≠ 0 by decide)
    have m4 := Int.emod_lt_of_pos y (show (0 : Int) < 80 by decide)
    refine rx_fuse hR10 rfl (x := y % 80) (by omega) fun s11 hR11 => ?_
    simp -implicitDefEqProofs (maxSteps := 2000000) (disch := first|assumption|omega|rfl|(simp only[RD];done)|(simp only[RD];omega)) only [RN,Int.reduceBEq,Int.reduceBNe,Int.reduceLT,Int.reduceLE,Int.reduceAdd,Int.reduceSub,Int.reduceMul,Nat.reduceAdd,↓bc_flatz,↓bc_flat16,↓agg_bytez, hR11.keeps.get c4, l9, p4_4]
    refine rx_rec hR11 (by omega) hg hn8 rfl rfl hG (Fin8.same (hfin ks) fun _ => rfl) fun s12 d12 z e hR12 he hn12 hfin12 _ => ?_
    have c12 := hR12.keeps.get c24
    rcases he with rfl | rfl
    all_goals
      simp -implicitDefEqProofs (maxSteps := 2000000) (disch := first|assumption|omega|rfl|(simp only[RD];done)|(simp only[RD];omega)) only [RN,Int.reduceBEq,Int.reduceBNe,Int.reduceLT,Int.reduceLE,Int.reduceAdd,Int.reduceSub,Int.reduceMul,Nat.reduceAdd,↓bc_flatz,↓bc_flat16,↓agg_bytez, c12, e8]
      refine rx_crash hR12 (by omega) hk2 fun s13 hR13 => ?_
      simp -implicitDefEqProofs (maxSteps := 2000000) (disch := first|assumption|omega|rfl|(simp only[RD];done)|(simp only[RD];omega)) only [RN,Int.reduceBEq,Int.reduceBNe,Int.reduceLT,Int.reduceLE,Int.reduceAdd,Int.reduceSub,Int.reduceMul,Nat.reduceAdd,↓bc_flatz,↓bc_flat16,↓agg_bytez, p4_3, hR13.keeps.get c4, l9]
      refine rx_rec hR13 (by omega) hg hn12 rfl rfl hG (hfin12 ks2) fun s14 d14 z e hR14 _ hn14 _ hcl => ?_
      obtain ⟨rfl, hd14, hcl⟩ := hcl (by show (-1 : Int) < 0; decide)
      have hz14 : d14.at 1 = zb := by
        rcases hcl with h | h
        · exact h.1
        · exact h.1
      simp -implicitDefEqProofs (maxSteps := 2000000) (disch := first|assumption|omega|rfl|(simp only[RD];done)|(simp only[RD];omega)) only [RN,Int.reduceBEq,Int.reduceBNe,Int.reduceLT,Int.reduceLE,Int.reduceAdd,Int.reduceSub,Int.reduceMul,Nat.reduceAdd,↓bc_flatz,↓bc_flat16,↓agg_bytez, hR14.keeps.get c4, l9, hR14.get mS, rC]
      rw [htv]
      refine found_ hR14 mO mI mA R.og R.l2 hca hle hd14 hn14 hg (by omega) h3 hbn hAf.1 hBf.1 (by
        rcases hcl with h | h
        · exact .inl (at_eq hR14.C hAf h.2)
        · exact .inr (at_eq hR14.C hBf h.2)) fun s15 r hR15 => ?_
      simp -implicitDefEqProofs (maxSteps := 2000000) (disch := first|assumption|omega|rfl|(simp only[RD];done)|(simp only[RD];omega)) only [RN,Int.reduceBEq,Int.reduceBNe,Int.reduceLT,Int.reduceLE,Int.reduceAdd,Int.reduceSub,Int.reduceMul,Nat.reduceAdd,↓bc_flatz,↓bc_flat16,↓agg_bytez, p4_2]
      refine rg_made hR15 ?_
      simp -implicitDefEqProofs (maxSteps := 2000000) (disch := first|assumption|omega|rfl|(simp only[RD];done)|(simp only[RD];omega)) only [RN,Int.reduceBEq,Int.reduceBNe,Int.reduceLT,Int.reduceLE,Int.reduceAdd,Int.reduceSub,Int.reduceMul,Nat.reduceAdd,↓bc_flatz,↓bc_flat16,↓agg_bytez, hR15.keeps.get c4, l9]
      refine rx_rec0 hR15 (by omega) hg hn14 hd14 hz14 fun s16 G16 D16 C16 hge16 k16 => ?_
      simp -implicitDefEqProofs (maxSteps := 2000000) (disch := first|assumption|omega|rfl|(simp only[RD];done)|(simp only[RD];omega)) only [RN,Int.reduceBEq,Int.reduceBNe,Int.reduceLT,Int.reduceLE,Int.reduceAdd,Int.reduceSub,Int.reduceMul,Nat.reduceAdd,↓bc_flatz,↓bc_flat16,↓agg_bytez, k16.get c4, l9]
      have hz16 : (({ d14 with reads := r } : DS).readed).at 1 = zb := hz14
      refine wnew_ D16 C16 (by omega) hg hn14 (by rw [hz16]; exact zb_bytes) (fun h => by have h : d14.dead = true := h; rw [hd14] at h; cases h) (fun _ h => absurd ⟨by rw [hz16]; exact dec_zb hg, by rw [hz16]; exact decL_zb⟩ h) fun _ _ _ s17 l17 F17 L17 D17 A17 u17 => ?_
      simp -implicitDefEqProofs (maxSteps := 2000000) (disch := first|assumption|omega|rfl|(simp only[RD];done)|(simp only[RD];omega)) only [RN,Int.reduceBEq,Int.reduceBNe,Int.reduceLT,Int.reduceLE,Int.reduceAdd,Int.reduceSub,Int.reduceMul,Nat.reduceAdd,↓bc_flatz,↓bc_flat16,↓agg_bytez, p4_1]
      refine made_o D17 (claimed_C (readed_C C16)) ?_
      have em : (((({ d14 with reads := r } : DS).readed).readed.claimed).made == ({ d14 with reads := r } : DS).made) = true := by
        show (d14.made == d14.made) = true
        simp
      simp -implicitDefEqProofs (maxSteps := 2000000) (disch := first|assumption|omega|rfl|(simp only[RD];done)|(simp only[RD];omega)) only [RN,Int.reduceBEq,Int.reduceBNe,Int.reduceLT,Int.reduceLE,Int.reduceAdd,Int.reduceSub,Int.reduceMul,Nat.reduceAdd,↓bc_flatz,↓bc_flat16,↓agg_bytez, em]
      exact hq _
  · rw [decide_eq_false hf]
    simp -implicitDefEqProofs (maxSteps := 2000000) (disch := first|assumption|omega|rfl|(simp only[RD];done)|(simp only[RD];omega)) only [RN,Int.reduceBEq,Int.reduceBNe,Int.reduceLT,Int.reduceLE,Int.reduceAdd,Int.reduceSub,Int.reduceMul,Nat.reduceAdd,↓bc_flatz,↓bc_flat16,↓agg_bytez, p4_9]
    exact hq _
end Go.Proofs.Ytkmalbaollffiaa
