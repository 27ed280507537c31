/- Contract of mkfs.Make. -/
import Derived.Test.YtchfpepbdnjhmaaMki
set_option linter.all false
set_option maxRecDepth 100000
set_option maxHeartbeats 400000
namespace Go.Proofs.Ytchfpepbdnjhmaa
open Go.Am
variable {σ : Store} {d hm lm : Nat} {pv hv : Value} {s : DS} {Q : Value → Store → Prop}
def runs2 (g : Geo) : List (Int × List (List Int)) := [(1, [zb]), (1 + g.log, chunk g.nodeBlocks.toNat (inoL g g.nodeBlocks.toNat)), (g.bitsAt, chunk g.bitsBlocks.toNat (bitI g.bitsBlocks.toNat (g.dataAt.toNat + 1))), (g.dataAt, [rootI 2])]
def DS.mkfs (s : DS) (g : Geo) : Int × DS :=
  if ¬ g.ok ∨ s.n < g.blocks then (2, s) else if s.dead then (3, s) else
  if (layR [(0, [zb])] s.claimed).1 ≠ 0 then (3, (layR [(0, [zb])] s.claimed).2) else
  if (layR (runs2 g) (layR [(0, [zb])] s.claimed).2).1 ≠ 0 then (3, (layR (runs2 g) (layR [(0, [zb])] s.claimed).2).2) else
  layR [(0, [superB g])] (layR (runs2 g) (layR [(0, [zb])] s.claimed).2).2
theorem upd_get {F F' : List Nat} {a b : Store} (hU : Upd F a b F') {j : Nat} {o : SObj} (h : a.get j = some o) (hn : j ∉ F) : b.get j = some o := by rw [hU.same j (Store.lt_of_get h) hn, h]
theorem claimed_B {s : DS} {m : Nat} (h : s.B m) : s.claimed.B m := ⟨⟨h.ok.n, h.ok.n2, h.ok.fuse, h.ok.fuse0, h.ok.made0, h.ok.reads0, by have := h.ok.claims0; show 0 ≤ s.claims + 1; omega, h.ok.wait, h.ok.hist, h.ok.held⟩, h.made, h.wait, h.hist⟩
theorem chunk_len : ∀ (n : Nat) (l : List Int), (chunk n l).length = n
  | 0, _ => rfl
  | n + 1, l => by simp [chunk, chunk_len n]
theorem make_ {m : Nat} {g : Geo} (h : DAt σ d s hm lm pv hv) (hB : s.B m) (hm1 : m ≤ 2 ^ 26) (hc : s.claims < 2 ^ 62) (hb0 : -2 ^ 62 < g.blocks) (hb1 : g.blocks < 2 ^ 62)
    (hq : ∀ σ' pv' hv', DAt σ' d (s.mkfs g).2 hm lm pv' hv' → (s.mkfs g).2.B (m + 2 ^ 20) → Upd (ids d hm lm pv hv) σ σ' (ids d hm lm pv' hv') → Q (.int .i64 (s.mkfs g).1) σ') :
    Does Try.prog 8 [.pointer (some ⟨d, 0, none⟩), .agg ⟨ic g.cells⟩] σ Q := by
  refine d8 ?_
  have hlt := h.lt
  have hd1 := hlt d (by simp [ids])
  have c1 := (h.later ((Keeps.refl σ).push (.cells (ic g.cells) none))).cells
  have hn0 := hB.ok.n
  have l3 : (ic g.cells).length = 3 := rfl
  simp -implicitDefEqProofs (maxSteps := 2000000) (disch := first|assumption|omega|rfl|(simp only[RD];done)|(simp only[RD];omega)) only [RN,Int.reduceBEq,Int.reduceBNe,Int.reduceLT,Int.reduceLE,Int.reduceAdd,Int.reduceSub,Int.reduceMul,Nat.reduceAdd,↓bc_flatz,↓bc_flat16,↓agg_bytez, p8]
  refine len_ c1 hn0 ?_
  have hz : (s.n == 0) = false := by simp; omega
  simp -implicitDefEqProofs (maxSteps := 2000000) (disch := first|assumption|omega|rfl|(simp only[RD];done)|(simp only[RD];omega)) only [RN,Int.reduceBEq,Int.reduceBNe,Int.reduceLT,Int.reduceLE,Int.reduceAdd,Int.reduceSub,Int.reduceMul,Nat.reduceAdd,↓bc_flatz,↓bc_flat16,↓agg_bytez, hz, l3]
  refine of_ ?_
  have u9 : (unrle [(9, .int .i64 0)]).length = 9 := rfl
  have lof : (ic g.of).length = 9 := by unfold Geo.of; split <;> rfl
  have kG : Keeps σ ((σ.push (.cells (ic g.cells) none)).push (.cells (ic g.of) none)) := ((Keeps.refl σ).push _).push _
  have hG := h.later kG
  have uG : Upd (ids d hm lm pv hv) σ ((σ.push (.cells (ic g.cells) none)).push (.cells (ic g.of) none)) (ids d hm lm pv hv) := Upd.keeps kG (Upd.refl hG.lt) hlt
  by_cases hok : g.ok
  case neg =>
    have e5 : (g.err != 0) = true := by unfold Geo.err; rw [if_neg hok]; rfl
    simp -implicitDefEqProofs (maxSteps := 2000000) (disch := first|assumption|omega|rfl|(simp only[RD];done)|(simp only[RD];omega)) only [RN,Int.reduceBEq,Int.reduceBNe,Int.reduceLT,Int.reduceLE,Int.reduceAdd,Int.reduceSub,Int.reduceMul,Nat.reduceAdd,↓bc_flatz,↓bc_flat16,↓agg_bytez, p8_4, u9, lof, e5]
    have e : s.mkfs g = (2, s) := by unfold DS.mkfs; rw [if_pos (.inl hok)]
    rw [e] at hq
    have e6 : g.err = 2 := by unfold Geo.err; rw [if_neg hok]
    exact hq _ _ _ hG (hB.le (by omega)) uG
  case pos =>
    have e4 : g.of = g.lay := if_pos hok
    have e5 : (g.err != 0) = false := by unfold Geo.err; rw [if_pos hok]; rfl
    rw [e4] at hG uG kG lof
    have g0 : (ic g.cells)[0]? = some (.int .i64 g.blocks) := rfl
    simp -implicitDefEqProofs (maxSteps := 2000000) (disch := first|assumption|omega|rfl|(simp only[RD];done)|(simp only[RD];omega)) only [RN,Int.reduceBEq,Int.reduceBNe,Int.reduceLT,Int.reduceLE,Int.reduceAdd,Int.reduceSub,Int.reduceMul,Nat.reduceAdd,↓bc_flatz,↓bc_flat16,↓agg_bytez, p8_4, u9, lof, e5, e4]
    refine len_ hG.cells hn0 ?_
    simp -implicitDefEqProofs (maxSteps := 2000000) (disch := first|assumption|omega|rfl|(simp only[RD];done)|(simp only[RD];omega)) only [RN,Int.reduceBEq,Int.reduceBNe,Int.reduceLT,Int.reduceLE,Int.reduceAdd,Int.reduceSub,Int.reduceMul,Nat.reduceAdd,↓bc_flatz,↓bc_flat16,↓agg_bytez, g0]
    by_cases hbl : s.n < g.blocks
    · simp -implicitDefEqProofs (maxSteps := 2000000) (disch := first|assumption|omega|rfl|(simp only[RD];done)|(simp only[RD];omega)) only [RN,Int.reduceBEq,Int.reduceBNe,Int.reduceLT,Int.reduceLE,Int.reduceAdd,Int.reduceSub,Int.reduceMul,Nat.reduceAdd,↓bc_flatz,↓bc_flat16,↓agg_bytez, decide_eq_true hbl]
      have e : s.mkfs g = (2, s) := by unfold DS.mkfs; rw [if_pos (.inr hbl)]
      rw [e] at hq
      exact hq _ _ _ hG (hB.le (by omega)) uG
    · simp -implicitDefEqProofs (maxSteps := 2000000) (disch := first|assumption|omega|rfl|(simp only[RD];done)|(simp only[RD];omega)) only [RN,Int.reduceBEq,Int.reduceBNe,Int.reduceLT,Int.reduceLE,Int.reduceAdd,Int.reduceSub,Int.reduceMul,Nat.reduceAdd,↓bc_flatz,↓bc_flat16,↓agg_bytez, decide_eq_false hbl]
      refine stopped_ hG.cells hn0 ?_
      have hc0 : ¬ (¬ g.ok ∨ s.n < g.blocks) := by intro hh; rcases hh with hh | hh; exact hh hok; exact hbl hh
      cases hd : s.dead
      case true =>
        simp -implicitDefEqProofs (maxSteps := 2000000) (disch := first|assumption|omega|rfl|(simp only[RD];done)|(simp only[RD];omega)) only [RN,Int.reduceBEq,Int.reduceBNe,Int.reduceLT,Int.reduceLE,Int.reduceAdd,Int.reduceSub,Int.reduceMul,Nat.reduceAdd,↓bc_flatz,↓bc_flat16,↓agg_bytez]
        have e : s.mkfs g = (3, s) := by unfold DS.mkfs; rw [if_neg hc0, if_pos hd]
        rw [e] at hq
        exact hq _ _ _ hG (hB.le (by omega)) uG
      case false =>
        simp -implicitDefEqProofs (maxSteps := 2000000) (disch := first|assumption|omega|rfl|(simp only[RD];done)|(simp only[RD];omega)) only [RN,Int.reduceBEq,Int.reduceBNe,Int.reduceLT,Int.reduceLE,Int.reduceAdd,Int.reduceSub,Int.reduceMul,Nat.reduceAdd,↓bc_flatz,↓bc_flat16,↓agg_bytez, lof]
        refine enc_ hok ?_
        have sl : (superB g).length = 1024 := superI_len g 9
        simp -implicitDefEqProofs (maxSteps := 2000000) (disch := first|assumption|omega|rfl|(simp only[RD];done)|(simp only[RD];omega)) only [RN,Int.reduceBEq,Int.reduceBNe,Int.reduceLT,Int.reduceLE,Int.reduceAdd,Int.reduceSub,Int.reduceMul,Nat.reduceAdd,↓bc_flatz,↓bc_flat16,↓agg_bytez, p8_3, sl]
        have kA : Keeps σ (((σ.push (.cells (ic g.cells) none)).push (.cells (ic g.lay) none)).push (.cells (bc (superB g)) none)) := kG.push _
        have hA := h.later kA
        have uA : Upd (ids d hm lm pv hv) σ (((σ.push (.cells (ic g.cells) none)).push (.cells (ic g.lay) none)).push (.cells (bc (superB g)) none)) (ids d hm lm pv hv) := Upd.keeps kA (Upd.refl hA.lt) hlt
        have gA1 : (((σ.push (.cells (ic g.cells) none)).push (.cells (ic g.lay) none)).push (.cells (bc (superB g)) none)).get (σ.next + 1) = some (.cells (ic g.lay) none) := by simp -implicitDefEqProofs (maxSteps := 2000000) (disch := first|assumption|omega|rfl|(simp only[RD];done)|(simp only[RD];omega)) only [RN,Int.reduceBEq,Int.reduceBNe,Int.reduceLT,Int.reduceLE,Int.reduceAdd,Int.reduceSub,Int.reduceMul,Nat.reduceAdd,↓bc_flatz,↓bc_flat16,↓agg_bytez]
        have gA2 : (((σ.push (.cells (ic g.cells) none)).push (.cells (ic g.lay) none)).push (.cells (bc (superB g)) none)).get (σ.next + 1 + 1) = some (.cells (bc (superB g)) none) := by simp -implicitDefEqProofs (maxSteps := 2000000) (disch := first|assumption|omega|rfl|(simp only[RD];done)|(simp only[RD];omega)) only [RN,Int.reduceBEq,Int.reduceBNe,Int.reduceLT,Int.reduceLE,Int.reduceAdd,Int.reduceSub,Int.reduceMul,Nat.reduceAdd,↓bc_flatz,↓bc_flat16,↓agg_bytez]
        have nA : (((σ.push (.cells (ic g.cells) none)).push (.cells (ic g.lay) none)).push (.cells (bc (superB g)) none)).next = σ.next + 3 := by simp only [Store.next_push]
        generalize ((σ.push (.cells (ic g.cells) none)).push (.cells (ic g.lay) none)).push (.cells (bc (superB g)) none) = σA at kA hA uA gA1 gA2 nA ⊢
        refine claim_ hA hB.ok hd hc fun σB hDB hUB => ?_
        have o1 : ∀ j, σ.next ≤ j → j ∉ ids d hm lm pv hv := fun j hj hx => by have := hlt j hx; omega
        have gB1 := upd_get hUB gA1 (o1 _ (by omega))
        have gB2 := upd_get hUB gA2 (o1 _ (by omega))
        have nB := hUB.next
        have hBc : s.claimed.B m := claimed_B hB
        have hDB : DAt σB d s.claimed hm lm pv hv := hDB
        have oB : σB.next ∉ ids d hm lm pv hv := fun hx => by have := hDB.lt _ hx; omega
        have kC : Keeps σB ((σB.push (.cells (bc zb) none)).push (.cells [.int .i64 0, .slice (some ⟨σB.next, 0, none⟩) 1 1] none)) := ((Keeps.refl σB).push _).push _
        have hDC := hDB.later kC
        have uC := upd_then hUB kC
        have gC1 := kC.get gB1
        have gC2 := kC.get gB2
        have gC3 : ((σB.push (.cells (bc zb) none)).push (.cells [.int .i64 0, .slice (some ⟨σB.next, 0, none⟩) 1 1] none)).get σB.next = some (.cells (bc zb) none) := by simp -implicitDefEqProofs (maxSteps := 2000000) (disch := first|assumption|omega|rfl|(simp only[RD];done)|(simp only[RD];omega)) only [RN,Int.reduceBEq,Int.reduceBNe,Int.reduceLT,Int.reduceLE,Int.reduceAdd,Int.reduceSub,Int.reduceMul,Nat.reduceAdd,↓bc_flatz,↓bc_flat16,↓agg_bytez]
        have gC4 : ((σB.push (.cells (bc zb) none)).push (.cells [.int .i64 0, .slice (some ⟨σB.next, 0, none⟩) 1 1] none)).get (σB.next + 1) = some (.cells [.int .i64 0, .slice (some ⟨σB.next, 0, none⟩) 1 1] none) := by simp -implicitDefEqProofs (maxSteps := 2000000) (disch := first|assumption|omega|rfl|(simp only[RD];done)|(simp only[RD];omega)) only [RN,Int.reduceBEq,Int.reduceBNe,Int.reduceLT,Int.reduceLE,Int.reduceAdd,Int.reduceSub,Int.reduceMul,Nat.reduceAdd,↓bc_flatz,↓bc_flat16,↓agg_bytez]
        have nC : ((σB.push (.cells (bc zb) none)).push (.cells [.int .i64 0, .slice (some ⟨σB.next, 0, none⟩) 1 1] none)).next = σB.next + 2 := by simp only [Store.next_push]
        generalize (σB.push (.cells (bc zb) none)).push (.cells [.int .i64 0, .slice (some ⟨σB.next, 0, none⟩) 1 1] none) = σC at kC hDC uC gC1 gC2 gC3 gC4 nC ⊢
        have zsl : ∀ τ : Store, τ.get σB.next = some (.cells (bc zb) none) → SlR τ 1024 (.slice (some ⟨σB.next, 0, none⟩) 1 1) 1 (blksC [zb]) := fun τ ht => SlR.new (g' := none) (.inl rfl) (by rw [ht]; simp [blksC]) (by simp [blksC, zb_len])
        have zid : ∀ i, i ∈ idsV (.slice (some ⟨σB.next, 0, none⟩) 1 1) → i = σB.next := fun i hi => by simpa [idsV] using hi
        have zlen : ∀ b ∈ [zb], b.length = 1024 := fun b hb => by
          have : b = zb := by simpa using hb
          rw [this]; exact zb_len
        refine mlay_ (rs := [(0, .slice (some ⟨σB.next, 0, none⟩) 1 1, [zb])]) hDC hBc (SlR.new (.inl rfl) gC4 rfl) (fun i hi => ?_) (fun r hr => ?_) (by simp [total]; omega) (by simp) fun σD pv2 hv2 hDD hBD hUD => ?_
        · have : i = σB.next + 1 := by simpa [idsV] using hi
          exact ⟨fun hx => by have := hDB.lt _ (this ▸ hx); omega, by omega⟩
        · have : r = (0, .slice (some ⟨σB.next, 0, none⟩) 1 1, [zb]) := by simpa using hr
          rw [this]
          exact ⟨⟨zsl σC gC3, fun i hi => by rw [zid i hi]; exact ⟨oB, by omega⟩, zlen⟩, by simp, by simp, by simp⟩
        have fl1 : flat [((0 : Int), Value.slice (some ⟨σB.next, 0, none⟩) 1 1, [zb])] = [(0, [zb])] := rfl
        rw [fl1] at hDD hBD ⊢
        have gD1 := upd_get hUD gC1 (o1 _ (by omega))
        have gD2 := upd_get hUD gC2 (o1 _ (by omega))
        have gD3 := upd_get hUD gC3 oB
        have uD := (uA.trans uC).trans hUD
        have oD1 : σ.next + 1 + 1 ∉ ids d hm lm pv2 hv2 := upd_out hUD (Store.lt_of_get gC2) (o1 _ (by omega))
        have oD3 : σB.next ∉ ids d hm lm pv2 hv2 := upd_out hUD (Store.lt_of_get gC3) oB
        have hmk : ∀ r, (layR [(0, [zb])] s.claimed).1 = r → r ≠ 0 → s.mkfs g = (3, (layR [(0, [zb])] s.claimed).2) := fun r h1 h2 => by
          unfold DS.mkfs; rw [if_neg hc0, if_neg (by rw [hd]; simp), if_pos (by rw [h1]; exact h2)]
        have lay3 : ∀ rs S, (layR rs S).1 = 0 ∨ (layR rs S).1 = 3 := by
          intro rs
          have hw : ∀ (k : DS → Int × DS), (∀ S, (k S).1 = 0 ∨ (k S).1 = 3) → ∀ bs a S, (wRun k bs a S).1 = 0 ∨ (wRun k bs a S).1 = 3 := by
            intro k hk bs
            induction bs with
            | nil => intro a S; exact hk S
            | cons b bs ih => intro a S; unfold wRun; split; exact ih _ _; exact .inr rfl
          induction rs with
          | nil => intro S; unfold layR; split; exact .inl rfl; exact .inr rfl
          | cons r rs ih => intro S; obtain ⟨a, bs⟩ := r; exact hw _ ih bs a S
        by_cases h9 : (layR [(0, [zb])] s.claimed).1 = 0
        case neg =>
          have h3 : (layR [(0, [zb])] s.claimed).1 = 3 := (lay3 _ _).resolve_left h9
          rw [h3]
          simp -implicitDefEqProofs (maxSteps := 2000000) (disch := first|assumption|omega|rfl|(simp only[RD];done)|(simp only[RD];omega)) only [RN,Int.reduceBEq,Int.reduceBNe,Int.reduceLT,Int.reduceLE,Int.reduceAdd,Int.reduceSub,Int.reduceMul,Nat.reduceAdd,↓bc_flatz,↓bc_flat16,↓agg_bytez, p8_2]
          rw [hmk 3 h3 (by omega)] at hq
          exact hq _ _ _ hDD (hBD.le (by simp [total])) uD
        case pos =>
          rw [h9]
          have l9 : (ic g.lay).length = 9 := rfl
          simp -implicitDefEqProofs (maxSteps := 2000000) (disch := first|assumption|omega|rfl|(simp only[RD];done)|(simp only[RD];omega)) only [RN,Int.reduceBEq,Int.reduceBNe,Int.reduceLT,Int.reduceLE,Int.reduceAdd,Int.reduceSub,Int.reduceMul,Nat.reduceAdd,↓bc_flatz,↓bc_flat16,↓agg_bytez, p8_2, gD1, l9]
          refine inodes_ hok fun σE wE kE sE iE => ?_
          have gE1 := kE.get gD1
          have gE2 := kE.get gD2
          have gE3 := kE.get gD3
          simp -implicitDefEqProofs (maxSteps := 2000000) (disch := first|assumption|omega|rfl|(simp only[RD];done)|(simp only[RD];omega)) only [RN,Int.reduceBEq,Int.reduceBNe,Int.reduceLT,Int.reduceLE,Int.reduceAdd,Int.reduceSub,Int.reduceMul,Nat.reduceAdd,↓bc_flatz,↓bc_flat16,↓agg_bytez, gE1, l9]
          refine bitmap_ hok fun σF wF kF sF iF => ?_
          have gF1 := kF.get gE1
          have gF2 := kF.get gE2
          have gF3 := kF.get gE3
          simp -implicitDefEqProofs (maxSteps := 2000000) (disch := first|assumption|omega|rfl|(simp only[RD];done)|(simp only[RD];omega)) only [RN,Int.reduceBEq,Int.reduceBNe,Int.reduceLT,Int.reduceLE,Int.reduceAdd,Int.reduceSub,Int.reduceMul,Nat.reduceAdd,↓bc_flatz,↓bc_flat16,↓agg_bytez, gE1, gF1, l9]
          refine root_ fun σG wG kG' sG iG => ?_
          have gG1 := kG'.get gF1
          have gG2 := kG'.get gF2
          have gG3 := kG'.get gF3
          have g3 : (ic g.lay)[3]? = some (.int .i64 1) := rfl
          have asE : asCells 1 wE = some [wE] := by
            rcases sE.2 with ⟨_, k, rfl⟩ | ⟨i, o, gg, k, obj, dd, rfl, _⟩ <;> rfl
          have asF : asCells 1 wF = some [wF] := by
            rcases sF.2 with ⟨_, k, rfl⟩ | ⟨i, o, gg, k, obj, dd, rfl, _⟩ <;> rfl
          have asG : asCells 1 wG = some [wG] := by
            rcases sG.2 with ⟨_, k, rfl⟩ | ⟨i, o, gg, k, obj, dd, rfl, _⟩ <;> rfl
          have u2 : (unrle [(1, Value.int IntKind.i64 0), (1, Value.slice none 0 0)]) = [.int .i64 0, .slice none 0 0] := rfl
          simp -implicitDefEqProofs (maxSteps := 2000000) (disch := first|assumption|omega|rfl|(simp only[RD];done)|(simp only[RD];omega)) only [RN,Int.reduceBEq,Int.reduceBNe,Int.reduceLT,Int.reduceLE,Int.reduceAdd,Int.reduceSub,Int.reduceMul,Nat.reduceAdd,↓bc_flatz,↓bc_flat16,↓agg_bytez, p8_1, gD1, gE1, gF1, gG1, g3, u2]
          have kDH : Keeps σD (σG.push (.cells [.int .i64 1, .slice (some ⟨σB.next, 0, none⟩) 1 1, .int .i64 (1 + g.log), wE, .int .i64 g.bitsAt, wF, .int .i64 g.dataAt, wG] none)) := ((kE.trans kF).trans kG').push _
          have hDH := hDD.later kDH
          have uH := upd_then uD kDH
          have gH2 := kDH.get gD2
          have gH3 := kDH.get gD3
          have gH4 : (σG.push (.cells [.int .i64 1, .slice (some ⟨σB.next, 0, none⟩) 1 1, .int .i64 (1 + g.log), wE, .int .i64 g.bitsAt, wF, .int .i64 g.dataAt, wG] none)).get σG.next = some (.cells [.int .i64 1, .slice (some ⟨σB.next, 0, none⟩) 1 1, .int .i64 (1 + g.log), wE, .int .i64 g.bitsAt, wF, .int .i64 g.dataAt, wG] none) := by simp -implicitDefEqProofs (maxSteps := 2000000) (disch := first|assumption|omega|rfl|(simp only[RD];done)|(simp only[RD];omega)) only [RN,Int.reduceBEq,Int.reduceBNe,Int.reduceLT,Int.reduceLE,Int.reduceAdd,Int.reduceSub,Int.reduceMul,Nat.reduceAdd,↓bc_flatz,↓bc_flat16,↓agg_bytez]
          have sE' : SlR (σG.push (.cells [.int .i64 1, .slice (some ⟨σB.next, 0, none⟩) 1 1, .int .i64 (1 + g.log), wE, .int .i64 g.bitsAt, wF, .int .i64 g.dataAt, wG] none)) _ _ _ _ := sE.keeps fun i o hi => ((kF.trans kG').push _).get hi
          have sF' : SlR (σG.push (.cells [.int .i64 1, .slice (some ⟨σB.next, 0, none⟩) 1 1, .int .i64 (1 + g.log), wE, .int .i64 g.bitsAt, wF, .int .i64 g.dataAt, wG] none)) _ _ _ _ := sF.keeps fun i o hi => (kG'.push _).get hi
          have sG' : SlR (σG.push (.cells [.int .i64 1, .slice (some ⟨σB.next, 0, none⟩) 1 1, .int .i64 (1 + g.log), wE, .int .i64 g.bitsAt, wF, .int .i64 g.dataAt, wG] none)) _ _ _ _ := sG.keeps fun i o hi => ((Keeps.refl σG).push _).get hi
          have nH : (σG.push (.cells [.int .i64 1, .slice (some ⟨σB.next, 0, none⟩) 1 1, .int .i64 (1 + g.log), wE, .int .i64 g.bitsAt, wF, .int .i64 g.dataAt, wG] none)).next = σG.next + 1 := by simp only [Store.next_push]
          generalize σG.push (.cells [.int .i64 1, .slice (some ⟨σB.next, 0, none⟩) 1 1, .int .i64 (1 + g.log), wE, .int .i64 g.bitsAt, wF, .int .i64 g.dataAt, wG] none) = σH at kDH hDH uH gH2 gH3 gH4 sE' sF' sG' nH ⊢
          have ltD := hDD.lt
          have n1 := kE.1
          have n2 := kF.1
          have n3 := kG'.1
          have hg' := hok
          unfold Geo.ok at hg'
          have hda : g.dataAt = 1 + g.log + g.nodeBlocks + g.bitsBlocks := rfl
          have hba : g.bitsAt = 1 + g.log + g.nodeBlocks := rfl
          have hbb : g.bitsBlocks = (g.blocks + 8191) / 8192 := rfl
          have hnb : g.nodeBlocks = (g.inodes + 16) / 16 := rfl
          have cn := chunk_len g.nodeBlocks.toNat (inoL g g.nodeBlocks.toNat)
          have cb := chunk_len g.bitsBlocks.toNat (bitI g.bitsBlocks.toNat (g.dataAt.toNat + 1))
          have il := inoL_len (g := g) (n := g.nodeBlocks.toNat) (by omega)
          have bl := bitI_len g.bitsBlocks.toNat (g.dataAt.toNat + 1)
          have outs : ∀ (w : Value) (τ : Nat), σD.next ≤ τ → (∀ i ∈ idsV w, τ ≤ i ∧ i < σH.next) → ∀ i ∈ idsV w, i ∉ ids d hm lm pv2 hv2 ∧ i < σH.next := fun w τ hτ hw i hi => ⟨fun hx => by have := ltD i hx; have := (hw i hi).1; omega, (hw i hi).2⟩
          have rs2 : flat [((1 : Int), Value.slice (some ⟨σB.next, 0, none⟩) 1 1, [zb]), (1 + g.log, wE, chunk g.nodeBlocks.toNat (inoL g g.nodeBlocks.toNat)), (g.bitsAt, wF, chunk g.bitsBlocks.toNat (bitI g.bitsBlocks.toNat (g.dataAt.toNat + 1))), (g.dataAt, wG, [rootI 2])] = runs2 g := rfl
          refine mlay_ (rs := [((1 : Int), Value.slice (some ⟨σB.next, 0, none⟩) 1 1, [zb]), (1 + g.log, wE, chunk g.nodeBlocks.toNat (inoL g g.nodeBlocks.toNat)), (g.bitsAt, wF, chunk g.bitsBlocks.toNat (bitI g.bitsBlocks.toNat (g.dataAt.toNat + 1))), (g.dataAt, wG, [rootI 2])]) hDH hBD (SlR.new (.inl rfl) gH4 rfl) (fun i hi => ?_) (fun r hr => ?_) (by simp [total, cn, cb]; omega) (by simp) fun σI pv3 hv3 hDI hBI hUI => ?_
          · have : i = σG.next := by simpa [idsV] using hi
            exact ⟨fun hx => by have := ltD _ (this ▸ hx); omega, by omega⟩
          · simp only [List.mem_cons, List.not_mem_nil, or_false] at hr
            rcases hr with rfl | rfl | rfl | rfl
            · exact ⟨⟨zsl σH gH3, fun i hi => by rw [zid i hi]; exact ⟨oD3, Store.lt_of_get gH3⟩, zlen⟩, by simp, by simp, by simp⟩
            · refine ⟨⟨by rw [cn]; exact sE', outs wE σD.next (Nat.le_refl _) fun i hi => ⟨(iE i hi).1, by have := (iE i hi).2; omega⟩, (chunk_bc _ _ il).2.2⟩, by simp only; omega, by simp only; omega, by simp only [cn]; omega⟩
            · refine ⟨⟨by rw [cb]; exact sF', outs wF σE.next n1 fun i hi => ⟨(iF i hi).1, by have := (iF i hi).2; omega⟩, (chunk_bc _ _ bl).2.2⟩, by simp only; omega, by simp only; omega, by simp only [cb]; omega⟩
            · refine ⟨⟨sG', outs wG σF.next (by omega) fun i hi => ⟨(iG i hi).1, by have := (iG i hi).2; omega⟩, fun b hb => ?_⟩, by simp only; omega, by simp only; omega, by simp⟩
              have : b = rootI 2 := by simpa using hb
              rw [this]; exact rootI_len 2
          rw [rs2] at hDI hBI ⊢
          have uI := uH.trans hUI
          have gI2 := upd_get hUI gH2 oD1
          have oI2 : σ.next + 1 + 1 ∉ ids d hm lm pv3 hv3 := upd_out hUI (Store.lt_of_get gH2) oD1
          have ltI := hDI.lt
          by_cases h10 : (layR (runs2 g) (layR [(0, [zb])] s.claimed).2).1 = 0
          case neg =>
            have h3 : (layR (runs2 g) (layR [(0, [zb])] s.claimed).2).1 = 3 := (lay3 _ _).resolve_left h10
            rw [h3]
            simp -implicitDefEqProofs (maxSteps := 2000000) (disch := first|assumption|omega|rfl|(simp only[RD];done)|(simp only[RD];omega)) only [RN,Int.reduceBEq,Int.reduceBNe,Int.reduceLT,Int.reduceLE,Int.reduceAdd,Int.reduceSub,Int.reduceMul,Nat.reduceAdd,↓bc_flatz,↓bc_flat16,↓agg_bytez]
            have e : s.mkfs g = (3, (layR (runs2 g) (layR [(0, [zb])] s.claimed).2).2) := by
              unfold DS.mkfs; rw [if_neg hc0, if_neg (by rw [hd]; simp), if_neg (by rw [h9]; simp), if_pos h10]
            rw [e] at hq
            exact hq _ _ _ hDI (hBI.le (by simp [total, cn, cb]; omega)) uI
          case pos =>
            rw [h10]
            simp -implicitDefEqProofs (maxSteps := 2000000) (disch := first|assumption|omega|rfl|(simp only[RD];done)|(simp only[RD];omega)) only [RN,Int.reduceBEq,Int.reduceBNe,Int.reduceLT,Int.reduceLE,Int.reduceAdd,Int.reduceSub,Int.reduceMul,Nat.reduceAdd,↓bc_flatz,↓bc_flat16,↓agg_bytez, gI2, sl, u2]
            have kJ : Keeps σI ((σI.push (.cells (bc (superB g)) none)).push (.cells [.int .i64 0, .slice (some ⟨σI.next, 0, none⟩) 1 1] none)) := ((Keeps.refl σI).push _).push _
            have hDJ := hDI.later kJ
            have gJ3 : ((σI.push (.cells (bc (superB g)) none)).push (.cells [.int .i64 0, .slice (some ⟨σI.next, 0, none⟩) 1 1] none)).get σI.next = some (.cells (bc (superB g)) none) := by simp -implicitDefEqProofs (maxSteps := 2000000) (disch := first|assumption|omega|rfl|(simp only[RD];done)|(simp only[RD];omega)) only [RN,Int.reduceBEq,Int.reduceBNe,Int.reduceLT,Int.reduceLE,Int.reduceAdd,Int.reduceSub,Int.reduceMul,Nat.reduceAdd,↓bc_flatz,↓bc_flat16,↓agg_bytez]
            have gJ4 : ((σI.push (.cells (bc (superB g)) none)).push (.cells [.int .i64 0, .slice (some ⟨σI.next, 0, none⟩) 1 1] none)).get (σI.next + 1) = some (.cells [.int .i64 0, .slice (some ⟨σI.next, 0, none⟩) 1 1] none) := by simp -implicitDefEqProofs (maxSteps := 2000000) (disch := first|assumption|omega|rfl|(simp only[RD];done)|(simp only[RD];omega)) only [RN,Int.reduceBEq,Int.reduceBNe,Int.reduceLT,Int.reduceLE,Int.reduceAdd,Int.reduceSub,Int.reduceMul,Nat.reduceAdd,↓bc_flatz,↓bc_flat16,↓agg_bytez]
            have nJ : ((σI.push (.cells (bc (superB g)) none)).push (.cells [.int .i64 0, .slice (some ⟨σI.next, 0, none⟩) 1 1] none)).next = σI.next + 2 := by simp only [Store.next_push]
            refine mlay_ (rs := [(0, .slice (some ⟨σI.next, 0, none⟩) 1 1, [superB g])]) hDJ hBI (SlR.new (.inl rfl) gJ4 rfl) (fun i hi => ?_) (fun r hr => ?_) (by simp [total, cn, cb]; omega) (by simp) fun σK pv4 hv4 hDK hBK hUK => ?_
            · have : i = σI.next + 1 := by simpa [idsV] using hi
              exact ⟨fun hx => by have := ltI _ (this ▸ hx); omega, by omega⟩
            · have : r = (0, .slice (some ⟨σI.next, 0, none⟩) 1 1, [superB g]) := by simpa using hr
              rw [this]
              exact ⟨⟨SlR.new (g' := none) (.inl rfl) (by rw [gJ3]; simp [blksC]) (by simp [blksC, sl]), fun i hi => by
                have : i = σI.next := by simpa [idsV] using hi
                rw [this]; exact ⟨fun hx => by have := ltI _ hx; omega, by omega⟩, fun b hb => by
                have : b = superB g := by simpa using hb
                rw [this]; exact sl⟩, by simp, by simp, by simp⟩
            have fl3 : flat [((0 : Int), Value.slice (some ⟨σI.next, 0, none⟩) 1 1, [superB g])] = [(0, [superB g])] := rfl
            rw [fl3] at hDK hBK ⊢
            have e : s.mkfs g = layR [(0, [superB g])] (layR (runs2 g) (layR [(0, [zb])] s.claimed).2).2 := by
              unfold DS.mkfs; rw [if_neg hc0, if_neg (by rw [hd]; simp), if_neg (by rw [h9]; simp), if_neg (by rw [h10]; simp)]
            rw [e] at hq
            exact hq _ _ _ hDK (hBK.le (by simp [total, cn, cb]; omega)) ((upd_then uI kJ).trans hUK)
end Go.Proofs.Ytchfpepbdnjhmaa
