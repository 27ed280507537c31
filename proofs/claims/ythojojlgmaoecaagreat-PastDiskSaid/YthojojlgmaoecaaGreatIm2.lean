/- Contract of disk.Image. -/
import Derived.Test.YthojojlgmaoecaaGreatIm1
import Derived.Test.YthojojlgmaoecaaGreatDsm
set_option linter.all false
set_option maxRecDepth 100000
set_option maxHeartbeats 800000
namespace Go.Proofs.YthojojlgmaoecaaGreat
open Go.Am
variable {σ σ' : Store} {d m hm lm : Nat} {pv hv : Value} {s : DS} {F : List Nat} {Q : Value → Store → Prop}
/-- Where the list stands when so many entries are in it. -/
def imV (n0 i : Nat) : Value := if i = 0 then .slice none 0 0 else .slice (some ⟨n0 + 2 + 3 * i, 0, some 1025⟩) i i
/-- What stands behind Image. -/
def imS (σ : Store) (L : List HB) : Store where
  get j := if j = σ.next + 2 + 3 * L.length ∧ L ≠ [] then some (.cells (waitC L) (some 1025)) else if j < σ.next then σ.get j else none
  next := σ.next + 3 + 3 * L.length
  fresh j hj := by rw [if_neg (by omega), if_neg (by omega)]
theorem imV_ids {n0 k i : Nat} (h : i ∈ idsV (imV n0 k)) : i = n0 + 2 + 3 * k ∧ k ≠ 0 := by
  unfold imV at h
  split at h
  · simp [idsV] at h
  · rename_i h0
    exact ⟨by simpa [idsV] using h, h0⟩
theorem ofE_snoc (l : Ents) (p : Int × Value × Nat) : ofE (l ++ [p]) = ofE l ++ [(p.1, ofB p.2.1)] := by simp [ofE]
theorem ofE_len (l : Ents) : (ofE l).length = l.length := by simp [ofE]
theorem image_all (h : DAt σ d s hm lm pv hv) (hok : s.Ok) (hW : s.W) : ∃ L, HeldL s.held L ∧
    Does Tryz.prog 16 [.pointer (some ⟨d, 0, none⟩)] σ fun r st => r = .agg ⟨[.int .i64 s.n, imV σ.next L.length]⟩ ∧ st = imS σ L := by
  obtain ⟨l, ck, hg, hck, hf⟩ := h.held
  have hf : ∀ x, eget l x = (s.held x).map bv := hf
  have hH := srt_held hck.1 hf (List.Perm.refl l)
  obtain ⟨L, hL⟩ : ∃ L, L = srt (fun x y : HB => decide (x.1 < y.1)) (ofE l) := ⟨_, rfl⟩
  rw [← hL] at hH
  have hLl : L.length = l.length := by rw [hL, srt_len swo_ltH, ofE_len]
  have hfew := hH.few hW hok.n
  have hn2 := hok.n2
  refine ⟨L, hH, ?_⟩
  refine DoesD.does (σ' := imS σ L) (r := .agg ⟨[.int .i64 s.n, imV σ.next L.length]⟩) (show σ.next ≤ σ.next + 3 + 3 * L.length by omega) ?_ ⟨rfl, rfl⟩
  refine d16 ?_
  have hlt := h.lt
  have nhm := hlt hm (by simp [ids])
  have nd := hlt d (by simp [ids])
  have u2 : unrle [(1, Value.int .i64 0), (1, .slice none 0 0)] = [.int .i64 0, .slice none 0 0] := rfl
  have g2 : ([.int .i64 s.n, .slice none 0 0] : List Value).length = 2 := rfl
  simp -implicitDefEqProofs (maxSteps := 2000000) (disch := first|assumption|omega|rfl|(simp only[RD];done)|(simp only[RD];omega)) only [RN,Int.reduceBEq,Int.reduceBNe,Int.reduceLT,Int.reduceLE,Int.reduceAdd,Int.reduceSub,Int.reduceMul,Nat.reduceAdd,↓bc_flatz,↓bc_flat16,↓agg_bytez, p16, u2]
  refine is_ (hm := hm) (lm := lm) (pv := pv) (hv := hv) (by rw [get_push_ne nd, h.cells]) hok.n ?_
  have rg : ∀ st : Store, st.get hm = some (.map (ents l) ck) → rangeH (.map (some hm)) st = some (ptrTo st.next, st.push (.iter (some hm) ck [] ck)) := fun st hs => (range_map hs hck).1
  simp -implicitDefEqProofs (maxSteps := 2000000) (disch := first|assumption|omega|rfl|(simp only[RD];done)|(simp only[RD];omega)) only [RN,Int.reduceBEq,Int.reduceBNe,Int.reduceLT,Int.reduceLE,Int.reduceAdd,Int.reduceSub,Int.reduceMul,Nat.reduceAdd,↓bc_flatz,↓bc_flat16,↓agg_bytez, h.cells, DS.cells, u2, g2]
  obtain ⟨s2, hs2⟩ : ∃ s2, s2 = (σ.push (.cells [.int .i64 0, .slice none 0 0] none)).push (.cells [.int .i64 s.n, .slice none 0 0] none) := ⟨_, rfl⟩
  rw [← hs2]
  have k2 : Keeps σ s2 := by rw [hs2]; exact ((Keeps.refl _).push _).push _
  have n2 : s2.next = σ.next + 2 := by rw [hs2]; simp only [Store.next_push]
  have c0 : s2.get σ.next = some (.cells [.int .i64 0, .slice none 0 0] none) := by rw [hs2]; simp -implicitDefEqProofs (maxSteps := 2000000) (disch := first|assumption|omega|rfl|(simp only[RD];done)|(simp only[RD];omega)) only [RN,Int.reduceBEq,Int.reduceBNe,Int.reduceLT,Int.reduceLE,Int.reduceAdd,Int.reduceSub,Int.reduceMul,Nat.reduceAdd,↓bc_flatz,↓bc_flat16,↓agg_bytez]
  have c1 : s2.get (σ.next + 1) = some (.cells [.int .i64 s.n, .slice none 0 0] none) := by rw [hs2]; simp -implicitDefEqProofs (maxSteps := 2000000) (disch := first|assumption|omega|rfl|(simp only[RD];done)|(simp only[RD];omega)) only [RN,Int.reduceBEq,Int.reduceBNe,Int.reduceLT,Int.reduceLE,Int.reduceAdd,Int.reduceSub,Int.reduceMul,Nat.reduceAdd,↓bc_flatz,↓bc_flat16,↓agg_bytez]
  have m2 := k2.get hg
  have R0 := (range_map m2 hck).2
  have e0 := rg s2 m2
  simp -implicitDefEqProofs (maxSteps := 2000000) (disch := first|assumption|omega|rfl|(simp only[RD];done)|(simp only[RD];omega)) only [RN,Int.reduceBEq,Int.reduceBNe,Int.reduceLT,Int.reduceLE,Int.reduceAdd,Int.reduceSub,Int.reduceMul,Nat.reduceAdd,↓bc_flatz,↓bc_flat16,↓agg_bytez, e0, n2]
  rw [n2] at R0
  refine lop0 (fun k st => ∃ done, Rng st (σ.next + 2) hm l ck done ∧ k + done.length = l.length ∧ st.next = σ.next + 3 + 3 * done.length ∧ st.get σ.next = some (.cells [.int .i64 0, .slice none 0 0] none) ∧ st.get (σ.next + 1) = some (.cells [.int .i64 s.n, imV σ.next done.length] none) ∧
      SlG st 1025 (imV σ.next done.length) done.length (flatL encH (ofE done)) ∧ ∀ j, j < σ.next → st.get j = σ.get j) l.length ?_ ?_
  · refine ⟨[], R0, by simp, by rw [Store.next_push, n2]; simp, ?_, ?_, SlG.nil, fun j hj => ?_⟩
    · rw [get_push_ne (by omega), c0]
    · rw [get_push_ne (by omega), c1]; rfl
    · rw [get_push_ne (by omega), k2.2 j hj]
  rintro k st next ⟨done, R, hk, hn, b0, b1, hS, hgs⟩ hnx
  have hdl := R.len
  refine R.next_ (fun hperm => ?_) fun p st1 hp hpd R1 hn1 hg1 => ?_
  · -- all entries are there
    have hlen : done.length = l.length := hperm.length_eq
    simp -implicitDefEqProofs (maxSteps := 2000000) (disch := first|assumption|omega|rfl|(simp only[RD];done)|(simp only[RD];omega)) only [RN,Int.reduceBEq,Int.reduceBNe,Int.reduceLT,Int.reduceLE,Int.reduceAdd,Int.reduceSub,Int.reduceMul,Nat.reduceAdd,↓bc_flatz,↓bc_flat16,↓agg_bytez, b1]
    have hu := srt_held hck.1 hf hperm
    have hsL : srt (fun x y : HB => decide (x.1 < y.1)) (ofE done) = L := hu.uniq hH
    have hwl : ∀ p ∈ L, p.2.length = 1024 := fun p hp => hok.held p.1 p.2 ((hH.mem p).1 hp)
    have fin : ∀ st' : Store, st'.next = st.next → st'.get σ.next = st.get σ.next → st'.get (σ.next + 1) = st.get (σ.next + 1) → (∀ j, j < σ.next → st'.get j = st.get j) → (L ≠ [] → st'.get (σ.next + 2 + 3 * L.length) = some (.cells (waitC L) (some 1025))) →
        (Value.agg ⟨[.int .i64 s.n, imV σ.next done.length]⟩ = .agg ⟨[.int .i64 s.n, imV σ.next L.length]⟩ ∧ (st'.put σ.next (some (.cells [.int .i64 s.n, imV σ.next done.length] none))).next = (imS σ L).next ∧ ∀ i o, (imS σ L).get i = some o → (st'.put σ.next (some (.cells [.int .i64 s.n, imV σ.next done.length] none))).get i = some o) := fun st' f1 f2 f3 f4 f5 => by
      refine ⟨by rw [hLl, hlen], ?_, fun i o hi => ?_⟩
      · rw [next_max, f1, hn]
        show max _ _ = σ.next + 3 + 3 * L.length
        omega
      · have hi : (if i = σ.next + 2 + 3 * L.length ∧ L ≠ [] then some (.cells (waitC L) (some 1025)) else if i < σ.next then σ.get i else none) = some o := hi
        split at hi
        · rename_i hc
          rw [get_put_ne' (by omega), hc.1, f5 hc.2, hi]
        · split at hi
          · rename_i hc
            rw [get_put_ne' (by omega), f4 i hc, hgs i hc, hi]
          · cases hi
    by_cases h0 : done.length = 0
    · have e1 : imV σ.next done.length = .slice none 0 0 := if_pos h0
      rw [e1] at b1 fin ⊢
      refine img_none ?_
      simp -implicitDefEqProofs (maxSteps := 2000000) (disch := first|assumption|omega|rfl|(simp only[RD];done)|(simp only[RD];omega)) only [RN,Int.reduceBEq,Int.reduceBNe,Int.reduceLT,Int.reduceLE,Int.reduceAdd,Int.reduceSub,Int.reduceMul,Nat.reduceAdd,↓bc_flatz,↓bc_flat16,↓agg_bytez, b1, b0]
      exact fin st rfl rfl rfl (fun _ _ => rfl) fun hne => absurd (List.eq_nil_of_length_eq_zero (by omega)) hne
    · have e1 : imV σ.next done.length = .slice (some ⟨σ.next + 2 + 3 * done.length, 0, some 1025⟩) done.length done.length := if_neg h0
      rcases hS.2 with ⟨h1, _⟩ | ⟨i, h1, h2, _⟩
      · exact absurd h1 h0
      rw [e1] at b1 fin h1 ⊢
      have hi : i = σ.next + 2 + 3 * done.length := by simpa using h1.symm
      subst hi
      refine img_sort h2 b1 (by omega) (by rw [ofE_len]) (by omega) fun st' f1 f2 f3 => ?_
      have b0' := b0
      rw [← f3 σ.next (by omega)] at b0'
      have b1' := b1
      rw [← f3 (σ.next + 1) (by omega)] at b1'
      simp -implicitDefEqProofs (maxSteps := 2000000) (disch := first|assumption|omega|rfl|(simp only[RD];done)|(simp only[RD];omega)) only [RN,Int.reduceBEq,Int.reduceBNe,Int.reduceLT,Int.reduceLE,Int.reduceAdd,Int.reduceSub,Int.reduceMul,Nat.reduceAdd,↓bc_flatz,↓bc_flat16,↓agg_bytez, b1', b0']
      refine fin st' f1 (f3 _ (by omega)) (f3 _ (by omega)) (fun j hj => f3 j (by omega)) fun _ => ?_
      rw [hLl, ← hlen, f2, hsL, flat_wait hwl]
  · -- one more
    obtain ⟨b, hb⟩ : ∃ b, p.2.1 = bv b ∧ s.held p.1 = some b := by
      have h1 := eget_mem hck.1 p hp
      rw [hf] at h1
      cases hc : s.held p.1 with
      | none => rw [hc] at h1; cases h1
      | some b => rw [hc] at h1; exact ⟨b, (by simpa using h1.symm), rfl⟩
    have hbl := hok.held _ _ hb.2
    have hent := R1.entry_
    rw [hb.1] at hent ⊢
    unfold bv at hent
    have b0' : st1.get σ.next = some (.cells [.int .i64 0, .slice none 0 0] none) := by rw [hg1 _ (by omega), b0]
    have b1' : st1.get (σ.next + 1) = some (.cells [.int .i64 s.n, imV σ.next done.length] none) := by rw [hg1 _ (by omega), b1]
    have x0 : ∀ a b c, extractV (.tuple #[a, b, c]) 0 = some a := fun _ _ _ => rfl
    have y0 : ∀ a b, extractV (.tuple #[a, b]) 0 = some a := fun _ _ => rfl
    have y1 : ∀ a b, extractV (.tuple #[a, b]) 1 = some b := fun _ _ => rfl
    have hdone : done.length + 1 ≤ l.length := by
      have := R1.len
      simpa using this
    obtain ⟨s3, hs3⟩ : ∃ s3, s3 = st1.push (.cells (bc b) none) := ⟨_, rfl⟩
    have k3 : Keeps st1 s3 := by rw [hs3]; exact (Keeps.refl _).push _
    have n3 : s3.next = σ.next + 4 + 3 * done.length := by rw [hs3, Store.next_push, hn1, hn]; omega
    obtain ⟨s4, hs4⟩ : ∃ s4, s4 = s3.push (.cells (.int .i64 p.1 :: bc b) none) := ⟨_, rfl⟩
    have k4 : Keeps s3 s4 := by rw [hs4]; exact (Keeps.refl _).push _
    have n4 : s4.next = σ.next + 5 + 3 * done.length := by rw [hs4, Store.next_push, n3]; omega
    have hS4 : SlG s4 1025 (imV σ.next done.length) done.length (flatL encH (ofE done)) := by
      refine hS.same fun i hi => ?_
      have hlt := hS.lt i hi
      have hii := imV_ids hi
      rw [k4.2 i (by omega), k3.2 i (by omega), hg1 i (by omega)]
    have he : encH (p.1, b) = .int .i64 p.1 :: bc b := by
      unfold encH
      rw [show ((p.1, b) : HB).2 = b from rfl, List.take_left' hbl]
    obtain ⟨s5, a1, a2, a3, a4⟩ := SlG.app (σ := s4) (sz := 1025) (j := s3.next) (k := 1) (gj := none) (by_ := 1032) hS4 (by rw [hs4]; exact Store.get_push_same _ _) (by simp [hbl]) (by omega) (by omega) (by decide)
    have e4 : st1.next + 1 = s3.next := by omega
    have f1 : s5.get (σ.next + 1) = some (.cells [.int .i64 s.n, imV σ.next done.length] none) := by
      rw [a4 _ (by omega) (fun hx => by have := imV_ids hx; omega), k4.2 _ (by omega), k3.2 _ (by omega), b1']
    simp -implicitDefEqProofs (maxSteps := 2000000) (disch := first|assumption|omega|rfl|(simp only[RD];done)|(simp only[RD];omega)) only [RN,Int.reduceBEq,Int.reduceBNe,Int.reduceLT,Int.reduceLE,Int.reduceAdd,Int.reduceSub,Int.reduceMul,Nat.reduceAdd,↓bc_flatz,↓bc_flat16,↓agg_bytez, x0, hent, y0, y1, hbl, b1']
    rw [← hs3, e4, ← hs4, a1, eop_some]
    simp -implicitDefEqProofs (maxSteps := 2000000) (disch := first|assumption|omega|rfl|(simp only[RD];done)|(simp only[RD];omega)) only [RN,Int.reduceBEq,Int.reduceBNe,Int.reduceLT,Int.reduceLE,Int.reduceAdd,Int.reduceSub,Int.reduceMul,Nat.reduceAdd,↓bc_flatz,↓bc_flat16,↓agg_bytez, f1]
    have hl1 : (done ++ [p]).length = done.length + 1 := by simp
    have ev : imV σ.next (done ++ [p]).length = .slice (some ⟨s4.next, 0, some 1025⟩) (done.length + 1) (done.length + 1) := by
      unfold imV
      rw [hl1, if_neg (by omega), show σ.next + 2 + 3 * (done.length + 1) = s4.next by omega]
    have g5 : ∀ j, j ≠ σ.next + 1 → j < s4.next → (j = σ.next + 2 + 3 * done.length → done.length = 0) → (s5.put (σ.next + 1) (some (.cells [.int .i64 s.n, .slice (some ⟨s4.next, 0, some 1025⟩) (done.length + 1) (done.length + 1)] none))).get j = s4.get j := fun j h1 h2 h3 => by
      rw [get_put_ne' h1, a4 j h2 (fun hx => by have := imV_ids hx; have := h3 this.1; omega)]
    refine hnx _ (by omega) ⟨done ++ [p], ?_, by rw [hl1]; omega, ?_, ?_, ?_, ?_, fun j hj => ?_⟩
    · refine R1.same ?_ ?_
      · rw [g5 _ (by omega) (by omega) (by omega), k4.2 _ (by omega), k3.2 _ (by omega)]
      · rw [g5 _ (by omega) (by omega) (by omega), k4.2 _ (by omega), k3.2 _ (by omega)]
    · rw [next_max, a3, hl1]; omega
    · rw [g5 _ (by omega) (by omega) (by omega), k4.2 _ (by omega), k3.2 _ (by omega), b0']
    · rw [ev, Store.get_put_same]
    · rw [ev, hl1, ofE_snoc, hb.1, ofB_bv]
      have : flatL encH (ofE done ++ [(p.1, b)]) = flatL encH (ofE done) ++ (.int .i64 p.1 :: bc b) := by
        unfold flatL
        rw [List.map_append, List.flatten_append, List.map_cons, List.map_nil, List.flatten_cons, List.flatten_nil, List.append_nil, he]
      rw [this]
      refine a2.same fun i hi => ?_
      have : i = s4.next := by simpa [idsV] using hi
      rw [get_put_ne' (by omega)]
    · rw [g5 _ (by omega) (by omega) (by omega), k4.2 _ (by omega), k3.2 _ (by omega), hg1 _ (by omega), hgs j hj]
/-- What is held, in a list of its own. -/
theorem image_o (h : Disk σ d s F) (hC : s.C m) (hW : s.W) (hq : ∀ L v σ', HeldL s.held L → Keeps σ σ' → SlG σ' 1025 v L.length (waitC L) → (∀ i ∈ idsV v, σ.next ≤ i) → Q (.agg ⟨[.int .i64 s.n, v]⟩) σ') : Does Tryz.prog 16 [.pointer (some ⟨d, 0, none⟩)] σ Q := by
  obtain ⟨hm, lm, pv, hv, h, rfl⟩ := h
  obtain ⟨L, hL, hD⟩ := image_all h hC.ok hW
  refine hD.mono ?_
  rintro r st ⟨rfl, rfl⟩
  have hl : ∀ p ∈ L, p.2.length = 1024 := fun p hp => hC.ok.held p.1 p.2 ((hL.mem p).1 hp)
  have hwl : (waitC L).length = L.length * 1025 := by rw [← flat_wait hl, flatL_len encH_len]
  refine hq L _ _ hL ⟨by show σ.next ≤ σ.next + 3 + 3 * L.length; omega, fun j hj => ?_⟩ ⟨hwl, ?_⟩ fun i hi => by have := imV_ids hi; omega
  · show (if j = σ.next + 2 + 3 * L.length ∧ L ≠ [] then _ else if j < σ.next then σ.get j else none) = _
    rw [if_neg (by omega), if_pos hj]
  · unfold imV
    by_cases h0 : L.length = 0
    · exact .inl ⟨h0, if_pos h0⟩
    · refine .inr ⟨_, if_neg h0, ?_, by omega⟩
      show (if σ.next + 2 + 3 * L.length = σ.next + 2 + 3 * L.length ∧ L ≠ [] then _ else _) = _
      rw [if_pos ⟨rfl, fun e => h0 (by rw [e]; rfl)⟩]
end Go.Proofs.YthojojlgmaoecaaGreat
