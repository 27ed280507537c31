/- What a log holds is recovered. -/
import Derived.Test.YtiaonndafhfkmaaWal6
set_option linter.all false
set_option maxRecDepth 100000
set_option maxHeartbeats 400000
namespace Go.Proofs.Ytiaonndafhfkmaa
open Go.Am
variable {σ σ' : Store} {d m : Nat} {s : DS} {G : List Nat} {Q : Value → Store → Prop} {g : Geo}
def DS.rec1 (s : DS) (i : Nat) (t : Int) : Int × DS :=
  if (s.read (2 + i)).2.1 = 0 then ((if ((s.read (2 + i)).2.2.write t (s.read (2 + i)).1).1 = 0 then 0 else 3), ((s.read (2 + i)).2.2.write t (s.read (2 + i)).1).2) else (3, (s.read (2 + i)).2.2)
def recI (s : DS) (l : List Int) : Nat → Int × DS
  | 0 => (0, s)
  | i + 1 => if (recI s l i).1 = 0 then (recI s l i).2.rec1 i (l.getD i 0) else recI s l i
theorem recI_stop {s : DS} {l : List Int} {i : Nat} (h : (recI s l i).1 ≠ 0) : ∀ n, recI s l (i + n) = recI s l i
  | 0 => rfl
  | n + 1 => by
    show (if (recI s l (i + n)).1 = 0 then _ else recI s l (i + n)) = _
    rw [recI_stop h n, if_neg h]
def DS.recover (s : DS) (l : List Int) : Int × DS := if (recI s l l.length).1 = 0 then (recI s l l.length).2.run [.bar, .w 1 zb, .bar] else recI s l l.length
theorem at_1024 (hC : s.C m) (i : Int) : (s.at i).length = 1024 := by
  unfold DS.at
  cases h : lastOf s.wait i with
  | some b =>
    obtain ⟨p, hp, rfl⟩ := lastOf_mem h
    exact hC.ok.wait p hp
  | none =>
    cases h2 : s.held i with
    | none => exact zb_len
    | some b => exact hC.ok.held i b h2
theorem read_1024 (hC : s.C m) (i : Int) : (s.read i).1.length = 1024 := by
  unfold DS.read
  split
  · exact zb_len
  · split
    · exact zb_len
    · exact at_1024 hC i
theorem recover_ (hd : Disk σ d s G) (hC : s.C m) (hm0 : m + 1000 < 2 ^ 29) (hg : g.ok) (hb : g.blocks ≤ s.n) (hB : BytesOk (s.at 1))
    (hq0 : s.dead = true → ∀ σ', Disk σ' d s G → Upd G σ σ' G → Q (.tuple #[.int .i64 0, .int .i64 3]) σ')
    (hq1 : s.dead = false → ¬ DecOk g (s.at 1) → ∀ σ', Disk σ' d s.readed G → Upd G σ σ' G → Q (.tuple #[.int .i64 0, .int .i64 4]) σ')
    (hq2 : s.dead = false → DecOk g (s.at 1) → decL (s.at 1) = [] → ∀ σ', Disk σ' d s.readed G → Upd G σ σ' G → Q (.tuple #[.int .i64 0, .int .i64 0]) σ')
    (hq3 : s.dead = false → DecOk g (s.at 1) → decL (s.at 1) ≠ [] → (s.readed.recover (decL (s.at 1))).1 = 0 → ∀ σ' G', Disk σ' d (s.readed.recover (decL (s.at 1))).2 G' → Upd G σ σ' G' → Q (.tuple #[.int .i64 ((decL (s.at 1)).length : Nat), .int .i64 0]) σ')
    (hq4 : s.dead = false → DecOk g (s.at 1) → decL (s.at 1) ≠ [] → (s.readed.recover (decL (s.at 1))).1 ≠ 0 → ∀ σ' G', Disk σ' d (s.readed.recover (decL (s.at 1))).2 G' → Upd G σ σ' G' → Q (.tuple #[.int .i64 0, .int .i64 3]) σ') :
    Does Try.prog 26 [.pointer (some ⟨d, 0, none⟩), .agg ⟨ic g.lay⟩] σ Q := by
  refine d26 ?_
  have l9 : (ic g.lay).length = 9 := rfl
  have e3 : rdOne (some (.cells (ic g.lay) none)) 3 = some (.int .i64 1) := rfl
  have bx : boxN (.agg ⟨ic g.lay⟩) = some (.cells (ic g.lay) none, ptrTo) := rfl
  have hgg := hg
  unfold Geo.ok at hgg
  obtain ⟨s0, hs0⟩ : ∃ s0, s0 = σ.push (.cells (ic g.lay) none) := ⟨_, rfl⟩
  have k0 : Keeps σ s0 := by rw [hs0]; exact (Keeps.refl _).push _
  have c0 : s0.get σ.next = some (.cells (ic g.lay) none) := by rw [hs0]; exact Store.get_push_same _ _
  have n0 : s0.next = σ.next + 1 := by rw [hs0, Store.next_push]
  unfold p26
  rw [bx, nop_some, ← hs0]
  simp -implicitDefEqProofs (maxSteps := 2000000) (disch := first|assumption|omega|rfl|(simp only[RD];done)|(simp only[RD];omega)) only [RN,Int.reduceBEq,Int.reduceBNe,Int.reduceLT,Int.reduceLE,Int.reduceAdd,Int.reduceSub,Int.reduceMul,Nat.reduceAdd,↓bc_flatz,↓bc_flat16,↓agg_bytez, c0, l9]
  have hG := hd.lt
  have U0 : ∀ {st : Store} {G' : List Nat}, Upd G s0 st G' → Upd G σ st G' := fun u => Upd.keeps k0 u hG
  refine header_ (hd.later k0) hC (by omega) hg hb hB (fun h s1 D1 U1 => ?_) (fun h h' s1 D1 U1 => ?_) (fun h h' s1 v D1 U1 sl hv => ?_)
  · simp -implicitDefEqProofs (maxSteps := 2000000) (disch := first|assumption|omega|rfl|(simp only[RD];done)|(simp only[RD];omega)) only [RN,Int.reduceBEq,Int.reduceBNe,Int.reduceLT,Int.reduceLE,Int.reduceAdd,Int.reduceSub,Int.reduceMul,Nat.reduceAdd,↓bc_flatz,↓bc_flat16,↓agg_bytez, p26_4]
    exact hq0 h _ (D1.later ((Keeps.refl _).push _)) (upd_then (U0 U1) ((Keeps.refl _).push _))
  · simp -implicitDefEqProofs (maxSteps := 2000000) (disch := first|assumption|omega|rfl|(simp only[RD];done)|(simp only[RD];omega)) only [RN,Int.reduceBEq,Int.reduceBNe,Int.reduceLT,Int.reduceLE,Int.reduceAdd,Int.reduceSub,Int.reduceMul,Nat.reduceAdd,↓bc_flatz,↓bc_flat16,↓agg_bytez, p26_4]
    exact hq1 h h' _ (D1.later ((Keeps.refl _).push _)) (upd_then (U0 U1) ((Keeps.refl _).push _))
  · obtain ⟨l, hl⟩ : ∃ l, l = decL (s.at 1) := ⟨_, rfl⟩
    rw [← hl] at sl hq2 hq3 hq4
    have hll : l.length ≤ 255 := by have := h'.1; rw [← hl] at this; omega
    have c1 : s1.get σ.next = some (.cells (ic g.lay) none) := by rw [U1.same _ (by omega) (fun hx => by have := hG _ hx; omega), c0]
    obtain ⟨s2, hs2⟩ : ∃ s2, s2 = s1.push (.cells [v] none) := ⟨_, rfl⟩
    have k2 : Keeps s1 s2 := by rw [hs2]; exact (Keeps.refl _).push _
    have c2 : s2.get s1.next = some (.cells [v] none) := by rw [hs2]; exact Store.get_push_same _ _
    have c12 := k2.get c1
    have sl2 : SlG s2 1 v l.length (ic l) := sl.same fun j hj => k2.2 j (sl.lt j hj)
    have D2 := D1.later k2
    have C2 : s.readed.C (m + 1) := readed_C hC
    have hG1 := D1.lt
    obtain ⟨vp, vn, vk, rfl⟩ : ∃ p n k, v = .slice p n k := by
      rcases sl.2 with ⟨_, rfl⟩ | ⟨i, rfl, _⟩ <;> exact ⟨_, _, _, rfl⟩
    simp -implicitDefEqProofs (maxSteps := 2000000) (disch := first|assumption|omega|rfl|(simp only[RD];done)|(simp only[RD];omega)) only [RN,Int.reduceBEq,Int.reduceBNe,Int.reduceLT,Int.reduceLE,Int.reduceAdd,Int.reduceSub,Int.reduceMul,Nat.reduceAdd,↓bc_flatz,↓bc_flat16,↓agg_bytez]
    rw [← hs2]
    have U2 : Upd G σ s2 G := upd_then (U0 U1) k2
    by_cases hnil : l = []
    · have hlen : lenSl (.slice vp vn vk) = some (.int .i64 ((0 : Nat) : Int)) := by rw [sl2.len, hnil]; rfl
      simp -implicitDefEqProofs (maxSteps := 2000000) (disch := first|assumption|omega|rfl|(simp only[RD];done)|(simp only[RD];omega)) only [RN,Int.reduceBEq,Int.reduceBNe,Int.reduceLT,Int.reduceLE,Int.reduceAdd,Int.reduceSub,Int.reduceMul,Nat.reduceAdd,↓bc_flatz,↓bc_flat16,↓agg_bytez, p26_4, c2, hlen]
      exact hq2 h h' hnil _ D2 U2
    · have hlz : ((l.length : Int) == 0) = false := by
        have : l.length ≠ 0 := fun e => hnil (List.eq_nil_of_length_eq_zero e)
        simp; exact hnil
      have hq3 := hq3 h h' hnil
      have hq4 := hq4 h h' hnil
      simp -implicitDefEqProofs (maxSteps := 2000000) (disch := first|assumption|omega|rfl|(simp only[RD];done)|(simp only[RD];omega)) only [RN,Int.reduceBEq,Int.reduceBNe,Int.reduceLT,Int.reduceLE,Int.reduceAdd,Int.reduceSub,Int.reduceMul,Nat.reduceAdd,↓bc_flatz,↓bc_flat16,↓agg_bytez, p26_4, c2, sl2.len, hlz]
      refine lop1 (fun k x st => ∃ (i : Nat) (s' : DS) (G' : List Nat), k + i = l.length ∧ x = .int .i64 i ∧ Disk st d s' G' ∧ Upd G s2 st G' ∧ s'.C (m + 1 + 2 * i) ∧ recI s.readed l i = (0, s')) l.length ⟨0, s.readed, G, rfl, rfl, D2, Upd.refl D2.lt, C2, rfl⟩ ?_
      rintro k x st next ⟨i, s', G', hi, rfl, D', U', C', hr⟩ hnx
      have oldg : ∀ {st' : Store} {G'' : List Nat} {j : Nat} {o : SObj}, Upd G s2 st' G'' → s2.get j = some o → j ∉ G → st'.get j = some o := fun u hj hn => by rw [u.same _ (Store.lt_of_get hj) hn, hj]
      have nl : σ.next ∉ G := fun hx => by have := hG _ hx; omega
      have n2 : s1.next ∉ G := fun hx => absurd (hG1 _ hx) (Nat.lt_irrefl _)
      have ca := oldg U' c12 nl
      have cb := oldg U' c2 n2
      have sl' : SlG st 1 (.slice vp vn vk) l.length (ic l) := sl2.same fun j hj => U'.same j (sl2.lt j hj) (hv j hj).1
      by_cases h5 : (i : Int) < (l.length : Nat)
      · have h6 : i < l.length := by omega
        obtain ⟨t, ht⟩ : ∃ t, l[i]? = some t := ⟨_, List.getElem?_eq_getElem h6⟩
        have hgd : l.getD i 0 = t := by rw [List.getD_eq_getElem?_getD, ht]; rfl
        obtain ⟨a, o, q1, q2, q3⟩ := slr_get sl'.r ht
        simp -implicitDefEqProofs (maxSteps := 2000000) (disch := first|assumption|omega|rfl|(simp only[RD];done)|(simp only[RD];omega)) only [RN,Int.reduceBEq,Int.reduceBNe,Int.reduceLT,Int.reduceLE,Int.reduceAdd,Int.reduceSub,Int.reduceMul,Nat.reduceAdd,↓bc_flatz,↓bc_flat16,↓agg_bytez, decide_eq_true h5, p26_3, q1, q3, ca, e3]
        have estep : recI s.readed l (i + 1) = s'.rec1 i t := by
          show (if (recI s.readed l i).1 = 0 then (recI s.readed l i).2.rec1 i (l.getD i 0) else _) = _
          rw [hr, if_pos rfl, hgd]
        refine read_o D' C' (by omega) (i := 2 + (i : Int)) fun s3 D3 U3 => ?_
        have hrl := read_1024 C' (2 + (i : Int))
        have hr01 : (s'.read (2 + i)).2.1 = 0 ∨ (s'.read (2 + i)).2.1 ≠ 0 := by omega
        have C3 : (s'.read (2 + (i : Int))).2.2.C (m + 1 + 2 * i + 1) := read_C C'
        have bad : ∀ {st' : Store} {S : DS} {G'' : List Nat}, recI s.readed l (i + 1) = (3, S) → Disk st' d S G'' → Upd G s2 st' G'' → Q (.tuple #[.int .i64 0, .int .i64 3]) st' := fun {st' S G''} e D U => by
          have e1 : s.readed.recover l = (3, S) := by
            unfold DS.recover
            have : recI s.readed l l.length = (3, S) := by
              rw [← e, show l.length = (i + 1) + (l.length - (i + 1)) by omega]
              exact recI_stop (by rw [e]; show (3 : Int) ≠ 0; decide) _
            rw [this, if_neg (show ¬ (3 : Int) = 0 by decide)]
          rw [e1] at hq4
          exact hq4 (show (3 : Int) ≠ 0 by decide) st' G'' D (U2.trans U)
        rcases hr01 with hr0 | hr1
        · rw [hr0]
          generalize hb' : (s'.read (2 + (i : Int))).1 = b at hrl ⊢
          simp -implicitDefEqProofs (maxSteps := 2000000) (disch := first|assumption|omega|rfl|(simp only[RD];done)|(simp only[RD];omega)) only [RN,Int.reduceBEq,Int.reduceBNe,Int.reduceLT,Int.reduceLE,Int.reduceAdd,Int.reduceSub,Int.reduceMul,Nat.reduceAdd,↓bc_flatz,↓bc_flat16,↓agg_bytez, p26_1, hrl]
          obtain ⟨s4, hs4⟩ : ∃ s4, s4 = s3.push (.cells (bc b) none) := ⟨_, rfl⟩
          have k4 : Keeps s3 s4 := by rw [hs4]; exact (Keeps.refl _).push _
          have c4 : s4.get s3.next = some (.cells (bc b) none) := by rw [hs4]; exact Store.get_push_same _ _
          rw [← hs4]
          try simp -implicitDefEqProofs (maxSteps := 2000000) (disch := first|assumption|omega|rfl|(simp only[RD];done)|(simp only[RD];omega)) only [RN,Int.reduceBEq,Int.reduceBNe,Int.reduceLT,Int.reduceLE,Int.reduceAdd,Int.reduceSub,Int.reduceMul,Nat.reduceAdd,↓bc_flatz,↓bc_flat16,↓agg_bytez, c4, hrl]
          refine write_o (D3.later k4) C3 (by omega) hrl fun s5 G5 D5 U5 => ?_
          have C5 := write_C C3 (i := t) hrl
          have U5' : Upd G s2 s5 G5 := (upd_then (U'.trans U3) k4).trans U5
          have er : s'.rec1 i t = ((if ((s'.read (2 + (i : Int))).2.2.write t b).1 = 0 then 0 else 3), ((s'.read (2 + (i : Int))).2.2.write t b).2) := by
            unfold DS.rec1
            rw [if_pos hr0, hb']
          by_cases hw0 : ((s'.read (2 + (i : Int))).2.2.write t b).1 = 0
          · rw [if_pos hw0] at er
            rw [hw0]
            try simp -implicitDefEqProofs (maxSteps := 2000000) (disch := first|assumption|omega|rfl|(simp only[RD];done)|(simp only[RD];omega)) only [RN,Int.reduceBEq,Int.reduceBNe,Int.reduceLT,Int.reduceLE,Int.reduceAdd,Int.reduceSub,Int.reduceMul,Nat.reduceAdd,↓bc_flatz,↓bc_flat16,↓agg_bytez]
            exact hnx _ _ (by omega) ⟨i + 1, _, G5, by omega, by congr 1, D5, U5', C5.le (by omega), by rw [estep, er]⟩
          · rw [if_neg hw0] at er
            have hb2 : (((s'.read (2 + (i : Int))).2.2.write t b).1 != 0) = true := by simpa using hw0
            simp -implicitDefEqProofs (maxSteps := 2000000) (disch := first|assumption|omega|rfl|(simp only[RD];done)|(simp only[RD];omega)) only [RN,Int.reduceBEq,Int.reduceBNe,Int.reduceLT,Int.reduceLE,Int.reduceAdd,Int.reduceSub,Int.reduceMul,Nat.reduceAdd,↓bc_flatz,↓bc_flat16,↓agg_bytez, hb2]
            exact bad (by rw [estep, er]) D5 U5'
        · have hb2 : ((s'.read (2 + (i : Int))).2.1 != 0) = true := by simpa using hr1
          simp -implicitDefEqProofs (maxSteps := 2000000) (disch := first|assumption|omega|rfl|(simp only[RD];done)|(simp only[RD];omega)) only [RN,Int.reduceBEq,Int.reduceBNe,Int.reduceLT,Int.reduceLE,Int.reduceAdd,Int.reduceSub,Int.reduceMul,Nat.reduceAdd,↓bc_flatz,↓bc_flat16,↓agg_bytez, p26_1, hrl, hb2]
          refine bad (S := (s'.read (2 + (i : Int))).2.2) (by rw [estep]; unfold DS.rec1; rw [if_neg hr1]) (D3.later ((Keeps.refl _).push _)) (upd_then (U'.trans U3) ((Keeps.refl _).push _))
      · have hii : i = l.length := by omega
        rw [hii] at hr
        have e1 : s.readed.recover l = s'.run [.bar, .w 1 zb, .bar] := by
          unfold DS.recover
          rw [hr, if_pos rfl]
        rw [e1] at hq3 hq4
        simp -implicitDefEqProofs (maxSteps := 2000000) (disch := first|assumption|omega|rfl|(simp only[RD];done)|(simp only[RD];omega)) only [RN,Int.reduceBEq,Int.reduceBNe,Int.reduceLT,Int.reduceLE,Int.reduceAdd,Int.reduceSub,Int.reduceMul,Nat.reduceAdd,↓bc_flatz,↓bc_flat16,↓agg_bytez, decide_eq_false h5, p26_3, ca, e3]
        refine barrier_o D' C' (by omega) fun s3 G3 D3 U3 => ?_
        have C3 := barrier_C C'
        have U3' : Upd G s2 s3 G3 := U'.trans U3
        rw [run_cons] at hq3 hq4
        by_cases hb0 : s'.barrier.1 = 0
        · rw [if_pos (show (s'.op .bar).1 = 0 from hb0), run_cons] at hq3 hq4
          change ((if (s'.barrier.2.write 1 zb).1 = 0 then (s'.barrier.2.write 1 zb).2.run [.bar] else (3, (s'.barrier.2.write 1 zb).2)).1 = 0 → ∀ σ' G', Disk σ' d (if (s'.barrier.2.write 1 zb).1 = 0 then (s'.barrier.2.write 1 zb).2.run [.bar] else (3, (s'.barrier.2.write 1 zb).2)).2 G' → _) at hq3
          change ((if (s'.barrier.2.write 1 zb).1 = 0 then (s'.barrier.2.write 1 zb).2.run [.bar] else (3, (s'.barrier.2.write 1 zb).2)).1 ≠ 0 → ∀ σ' G', Disk σ' d (if (s'.barrier.2.write 1 zb).1 = 0 then (s'.barrier.2.write 1 zb).2.run [.bar] else (3, (s'.barrier.2.write 1 zb).2)).2 G' → _) at hq4
          rw [hb0]
          have ca3 := oldg U3' c12 nl
          simp -implicitDefEqProofs (maxSteps := 2000000) (disch := first|assumption|omega|rfl|(simp only[RD];done)|(simp only[RD];omega)) only [RN,Int.reduceBEq,Int.reduceBNe,Int.reduceLT,Int.reduceLE,Int.reduceAdd,Int.reduceSub,Int.reduceMul,Nat.reduceAdd,↓bc_flatz,↓bc_flat16,↓agg_bytez, ca, ca3, e3, p26_2]
          refine write_o D3 C3 (by omega) zb_len fun s4 G4 D4 U4 => ?_
          have C4 := write_C C3 (i := 1) zb_len
          have U4' : Upd G s2 s4 G4 := U3'.trans U4
          by_cases hw0 : (s'.barrier.2.write 1 zb).1 = 0
          · rw [if_pos hw0, run_cons] at hq3 hq4
            rw [hw0]
            try simp -implicitDefEqProofs (maxSteps := 2000000) (disch := first|assumption|omega|rfl|(simp only[RD];done)|(simp only[RD];omega)) only [RN,Int.reduceBEq,Int.reduceBNe,Int.reduceLT,Int.reduceLE,Int.reduceAdd,Int.reduceSub,Int.reduceMul,Nat.reduceAdd,↓bc_flatz,↓bc_flat16,↓agg_bytez]
            refine barrier_o D4 C4 (by omega) fun s5 G5 D5 U5 => ?_
            have U5' : Upd G s2 s5 G5 := U4'.trans U5
            have cb5 := oldg U5' c2 n2
            by_cases hb1 : (s'.barrier.2.write 1 zb).2.barrier.1 = 0
            · rw [if_pos (show ((s'.barrier.2.write 1 zb).2.op .bar).1 = 0 from hb1)] at hq3
              rw [hb1]
              simp -implicitDefEqProofs (maxSteps := 2000000) (disch := first|assumption|omega|rfl|(simp only[RD];done)|(simp only[RD];omega)) only [RN,Int.reduceBEq,Int.reduceBNe,Int.reduceLT,Int.reduceLE,Int.reduceAdd,Int.reduceSub,Int.reduceMul,Nat.reduceAdd,↓bc_flatz,↓bc_flat16,↓agg_bytez, cb5, sl'.len]
              exact hq3 rfl s5 G5 D5 (U2.trans U5')
            · rw [if_neg (show ¬ ((s'.barrier.2.write 1 zb).2.op .bar).1 = 0 from hb1)] at hq4
              have hb2 : ((s'.barrier.2.write 1 zb).2.barrier.1 != 0) = true := by simpa using hb1
              simp -implicitDefEqProofs (maxSteps := 2000000) (disch := first|assumption|omega|rfl|(simp only[RD];done)|(simp only[RD];omega)) only [RN,Int.reduceBEq,Int.reduceBNe,Int.reduceLT,Int.reduceLE,Int.reduceAdd,Int.reduceSub,Int.reduceMul,Nat.reduceAdd,↓bc_flatz,↓bc_flat16,↓agg_bytez, hb2]
              exact hq4 (show (3 : Int) ≠ 0 by decide) s5 G5 D5 (U2.trans U5')
          · rw [if_neg hw0] at hq4
            have hb2 : ((s'.barrier.2.write 1 zb).1 != 0) = true := by simpa using hw0
            simp -implicitDefEqProofs (maxSteps := 2000000) (disch := first|assumption|omega|rfl|(simp only[RD];done)|(simp only[RD];omega)) only [RN,Int.reduceBEq,Int.reduceBNe,Int.reduceLT,Int.reduceLE,Int.reduceAdd,Int.reduceSub,Int.reduceMul,Nat.reduceAdd,↓bc_flatz,↓bc_flat16,↓agg_bytez, hb2]
            exact hq4 (show (3 : Int) ≠ 0 by decide) s4 G4 D4 (U2.trans U4')
        · rw [if_neg (show ¬ (s'.op .bar).1 = 0 from hb0)] at hq4
          have hb2 : (s'.barrier.1 != 0) = true := by simpa using hb0
          simp -implicitDefEqProofs (maxSteps := 2000000) (disch := first|assumption|omega|rfl|(simp only[RD];done)|(simp only[RD];omega)) only [RN,Int.reduceBEq,Int.reduceBNe,Int.reduceLT,Int.reduceLE,Int.reduceAdd,Int.reduceSub,Int.reduceMul,Nat.reduceAdd,↓bc_flatz,↓bc_flat16,↓agg_bytez, hb2, ca, e3, p26_2]
          exact hq4 (show (3 : Int) ≠ 0 by decide) s3 G3 D3 (U2.trans U3')
end Go.Proofs.Ytiaonndafhfkmaa
