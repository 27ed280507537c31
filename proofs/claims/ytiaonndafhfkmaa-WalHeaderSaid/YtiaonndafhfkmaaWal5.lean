/- The package wal: the header, a new log, beginning, committing. -/
import Derived.Test.YtiaonndafhfkmaaWal4
set_option linter.all false
set_option maxRecDepth 100000
set_option maxHeartbeats 400000
namespace Go.Proofs.Ytiaonndafhfkmaa
open Go.Am
variable {σ σ' st st' : Store} {l d c hm m : Nat} {ov wv : Value} {w : WS} {s s' s0 : DS} {F F' G G' : List Nat} {Q : Value → Store → Prop} {g : Geo}
def DS.readed (s : DS) : DS := { s with reads := s.reads + 1 }
theorem readed_C (h : s.C m) : s.readed.C (m + 1) := by
  have hk := h.ok
  have h4 := h.reads
  have h5 := hk.reads0
  have := h.le (show m ≤ m + 1 by omega)
  exact ⟨⟨hk.n, hk.n2, hk.fuse, hk.fuse0, hk.made0, by show 0 ≤ s.reads + 1; omega, hk.claims0, hk.wait, hk.hist, hk.held⟩, this.made, this.wait, this.hist, by show s.reads + 1 ≤ _; omega, this.claims⟩
theorem wmade_ (hd : Disk σ d s G) (hC : s.C m) (hq : Q (.bool true) σ) : Does Try.prog 65 [.pointer (some ⟨d, 0, none⟩)] σ Q := by
  refine d65 ?_
  have hn := hC.ok.n
  simp -implicitDefEqProofs (maxSteps := 2000000) (disch := first|assumption|omega|rfl|(simp only[RD];done)|(simp only[RD];omega)) only [RN,Int.reduceBEq,Int.reduceBNe,Int.reduceLT,Int.reduceLE,Int.reduceAdd,Int.reduceSub,Int.reduceMul,Nat.reduceAdd,↓bc_flatz,↓bc_flat16,↓agg_bytez, p65]
  refine len_o hd hC ?_
  simp -implicitDefEqProofs (maxSteps := 2000000) (disch := first|assumption|omega|rfl|(simp only[RD];done)|(simp only[RD];omega)) only [RN,Int.reduceBEq,Int.reduceBNe,Int.reduceLT,Int.reduceLE,Int.reduceAdd,Int.reduceSub,Int.reduceMul,Nat.reduceAdd,↓bc_flatz,↓bc_flat16,↓agg_bytez, decide_eq_true hn]
  exact hq
theorem header_ (hd : Disk σ d s G) (hC : s.C m) (hm0 : m < 2 ^ 29) (hg : g.ok) (hb : g.blocks ≤ s.n) (hB : BytesOk (s.at 1))
    (hq0 : s.dead = true → ∀ σ', Disk σ' d s G → Upd G σ σ' G → Q (.tuple #[.agg ⟨[.slice none 0 0]⟩, .int .i64 3]) σ')
    (hq1 : s.dead = false → ¬ DecOk g (s.at 1) → ∀ σ', Disk σ' d s.readed G → Upd G σ σ' G → Q (.tuple #[.agg ⟨[.slice none 0 0]⟩, .int .i64 4]) σ')
    (hq2 : s.dead = false → DecOk g (s.at 1) → ∀ σ' v, Disk σ' d s.readed G → Upd G σ σ' G → SlG σ' 1 v (decL (s.at 1)).length (ic (decL (s.at 1))) → (∀ j ∈ idsV v, j ∉ G ∧ σ.next ≤ j) → Q (.tuple #[.agg ⟨[v]⟩, .int .i64 0]) σ') :
    Does Try.prog 46 [.pointer (some ⟨d, 0, none⟩), .agg ⟨ic g.lay⟩] σ Q := by
  refine d46 ?_
  have l9 : (ic g.lay).length = 9 := rfl
  have u9 : (unrle [(9, .int .i64 0)]).length = 9 := rfl
  have z1 : unrle [(1, Value.slice none 0 0)] = [.slice none 0 0] := rfl
  have e3 : rdPart (some (.cells (ic g.lay) none)) 0 3 = some (.agg ⟨ic g.cells⟩) := rfl
  have e0 : rdOne (some (.cells (ic g.lay) none)) 0 = some (.int .i64 g.blocks) := rfl
  have ei3 : rdOne (some (.cells (ic g.lay) none)) 3 = some (.int .i64 1) := rfl
  have hlt := hd.lt
  obtain ⟨g1, g2, g3, g4, g5, g6, g7⟩ := id hg
  have hlb : 1 + g.log < g.blocks := by have := g7; unfold Geo.dataAt Geo.bitsAt Geo.nodeBlocks Geo.bitsBlocks at this; omega
  obtain ⟨σ1, hσ1⟩ : ∃ s1, s1 = (σ.push (.cells (ic g.lay) none)).push (.cells [.slice none 0 0] none) := ⟨_, rfl⟩
  have k1 : Keeps σ σ1 := by rw [hσ1]; exact ((Keeps.refl σ).push _).push _
  have n1 : σ1.next = σ.next + 2 := by rw [hσ1]; simp only [Store.next_push]
  have c1 : σ1.get σ.next = some (.cells (ic g.lay) none) := by rw [hσ1]; simp -implicitDefEqProofs (maxSteps := 2000000) (disch := first|assumption|omega|rfl|(simp only[RD];done)|(simp only[RD];omega)) only [RN,Int.reduceBEq,Int.reduceBNe,Int.reduceLT,Int.reduceLE,Int.reduceAdd,Int.reduceSub,Int.reduceMul,Nat.reduceAdd,↓bc_flatz,↓bc_flat16,↓agg_bytez]
  have c2 : σ1.get (σ.next + 1) = some (.cells [.slice none 0 0] none) := by rw [hσ1]; simp -implicitDefEqProofs (maxSteps := 2000000) (disch := first|assumption|omega|rfl|(simp only[RD];done)|(simp only[RD];omega)) only [RN,Int.reduceBEq,Int.reduceBNe,Int.reduceLT,Int.reduceLE,Int.reduceAdd,Int.reduceSub,Int.reduceMul,Nat.reduceAdd,↓bc_flatz,↓bc_flat16,↓agg_bytez]
  simp -implicitDefEqProofs (maxSteps := 2000000) (disch := first|assumption|omega|rfl|(simp only[RD];done)|(simp only[RD];omega)) only [RN,Int.reduceBEq,Int.reduceBNe,Int.reduceLT,Int.reduceLE,Int.reduceAdd,Int.reduceSub,Int.reduceMul,Nat.reduceAdd,↓bc_flatz,↓bc_flat16,↓agg_bytez, p46, l9, z1]
  rw [← hσ1]
  clear hσ1
  simp -implicitDefEqProofs (maxSteps := 2000000) (disch := first|assumption|omega|rfl|(simp only[RD];done)|(simp only[RD];omega)) only [RN,Int.reduceBEq,Int.reduceBNe,Int.reduceLT,Int.reduceLE,Int.reduceAdd,Int.reduceSub,Int.reduceMul,Nat.reduceAdd,↓bc_flatz,↓bc_flat16,↓agg_bytez, p46_4]
  have hd1 := hd.later k1
  refine wmade_ hd1 hC ?_
  simp -implicitDefEqProofs (maxSteps := 2000000) (disch := first|assumption|omega|rfl|(simp only[RD];done)|(simp only[RD];omega)) only [RN,Int.reduceBEq,Int.reduceBNe,Int.reduceLT,Int.reduceLE,Int.reduceAdd,Int.reduceSub,Int.reduceMul,Nat.reduceAdd,↓bc_flatz,↓bc_flat16,↓agg_bytez, c1, e3]
  refine of_ ?_
  have e4 : g.of = g.lay := if_pos hg
  have e5 : g.err = 0 := if_pos hg
  have e6 := eq_lay true g
  unfold layD at e6
  obtain ⟨σ2, hσ2⟩ : ∃ s1, s1 = σ1.push (.cells (ic g.lay) none) := ⟨_, rfl⟩
  have k2 : Keeps σ1 σ2 := by rw [hσ2]; exact (Keeps.refl _).push _
  have c3 : σ2.get σ.next = some (.cells (ic g.lay) none) := k2.get c1
  have c4 : σ2.get (σ.next + 1) = some (.cells [.slice none 0 0] none) := k2.get c2
  have c5 : σ2.get σ1.next = some (.cells (ic g.lay) none) := by rw [hσ2]; exact Store.get_push_same _ _
  have p2 : (σ1.push (.cells (unrle [(9, .int .i64 0)]) none)).put σ1.next (some (.cells (ic g.lay) none)) = σ2 := by rw [hσ2]; exact push_put _ _ _
  have hd2 := hd1.later k2
  have nb : (true ^^ true) = false := rfl
  simp -implicitDefEqProofs (maxSteps := 2000000) (disch := first|assumption|omega|rfl|(simp only[RD];done)|(simp only[RD];omega)) only [RN,Int.reduceBEq,Int.reduceBNe,Int.reduceLT,Int.reduceLE,Int.reduceAdd,Int.reduceSub,Int.reduceMul,Nat.reduceAdd,↓bc_flatz,↓bc_flat16,↓agg_bytez, e4, e5, l9, u9, p46_3]
  rw [← hσ2]
  simp -implicitDefEqProofs (maxSteps := 2000000) (disch := first|assumption|omega|rfl|(simp only[RD];done)|(simp only[RD];omega)) only [RN,Int.reduceBEq,Int.reduceBNe,Int.reduceLT,Int.reduceLE,Int.reduceAdd,Int.reduceSub,Int.reduceMul,Nat.reduceAdd,↓bc_flatz,↓bc_flat16,↓agg_bytez, c1, c3, c5, l9, e6, nb, e0]
  refine len_o hd2 hC ?_
  simp -implicitDefEqProofs (maxSteps := 2000000) (disch := first|assumption|omega|rfl|(simp only[RD];done)|(simp only[RD];omega)) only [RN,Int.reduceBEq,Int.reduceBNe,Int.reduceLT,Int.reduceLE,Int.reduceAdd,Int.reduceSub,Int.reduceMul,Nat.reduceAdd,↓bc_flatz,↓bc_flat16,↓agg_bytez, c1, c3, e0, p46_2, decide_eq_false (show ¬ s.n < g.blocks by omega), ei3]
  refine read_o hd2 hC hm0 fun σ3 d3 u3 => ?_
  have k12 := k1.trans k2
  have hsn : σ.next + 1 < σ2.next := by have := k2.1; omega
  have c6 : σ3.get σ.next = some (.cells (ic g.lay) none) := by rw [u3.same _ (by omega) (fun h => by have := hlt _ h; omega), c3]
  have c7 : σ3.get (σ.next + 1) = some (.cells [.slice none 0 0] none) := by rw [u3.same _ (by omega) (fun h => by have := hlt _ h; omega), c4]
  have U3 : Upd G σ σ3 G := Upd.keeps k12 u3 hlt
  have putU : ∀ {σ4 : Store} {o : Option SObj}, Upd G σ σ4 G → σ.next + 1 < σ4.next → Upd G σ (σ4.put (σ.next + 1) o) G := fun u hn => ⟨by rw [next_max]; have := u.next; omega, fun j hj => ⟨by rw [next_max]; have := (u.ids j hj).1; omega, .inl hj⟩, fun j hj hn => by rw [get_put_ne' (by omega), u.same j hj hn]⟩
  have putD : ∀ {σ4 : Store} {o : Option SObj} {t : DS}, Disk σ4 d t G → Disk (σ4.put (σ.next + 1) o) d t G := fun h => h.same fun j hj => get_put_ne' (by have := hlt j hj; omega)
  cases hdd : s.dead
  case true =>
    have er : s.read 1 = (zb, 3, s) := by unfold DS.read; rw [if_pos hdd]
    rw [er] at d3 ⊢
    have kk : Keeps σ3 (σ3.push (.cells (bc zb) none)) := (Keeps.refl _).push _
    have c8 : (σ3.push (.cells (bc zb) none)).get (σ.next + 1) = some (.cells [.slice none 0 0] none) := kk.get c7
    have d4 := d3.later kk
    have U4 := upd_then U3 kk
    have hn4 : σ.next + 1 < (σ3.push (.cells (bc zb) none)).next := Store.lt_of_get c8
    obtain ⟨σ4, hσ4⟩ : ∃ s4, s4 = σ3.push (.cells (bc zb) none) := ⟨_, rfl⟩
    rw [← hσ4] at c8 d4 U4 hn4
    simp -implicitDefEqProofs (maxSteps := 2000000) (disch := first|assumption|omega|rfl|(simp only[RD];done)|(simp only[RD];omega)) only [RN,Int.reduceBEq,Int.reduceBNe,Int.reduceLT,Int.reduceLE,Int.reduceAdd,Int.reduceSub,Int.reduceMul,Nat.reduceAdd,↓bc_flatz,↓bc_flat16,↓agg_bytez]
    rw [← hσ4]
    simp -implicitDefEqProofs (maxSteps := 2000000) (disch := first|assumption|omega|rfl|(simp only[RD];done)|(simp only[RD];omega)) only [RN,Int.reduceBEq,Int.reduceBNe,Int.reduceLT,Int.reduceLE,Int.reduceAdd,Int.reduceSub,Int.reduceMul,Nat.reduceAdd,↓bc_flatz,↓bc_flat16,↓agg_bytez, p46_1, c8, z1]
    exact hq0 hdd _ (putD d4) (putU U4 hn4)
  case false =>
    have hal := at_len hC.ok 1
    have er : s.read 1 = (s.at 1, 0, s.readed) := by unfold DS.read DS.readed; rw [hdd]; simp [show ¬ s.n ≤ 1 by omega]
    rw [er] at d3 ⊢
    have kk : Keeps σ3 (σ3.push (.cells (bc (s.at 1)) none)) := (Keeps.refl _).push _
    have c8 : (σ3.push (.cells (bc (s.at 1)) none)).get (σ.next + 1) = some (.cells [.slice none 0 0] none) := kk.get c7
    have c9 : (σ3.push (.cells (bc (s.at 1)) none)).get σ.next = some (.cells (ic g.lay) none) := kk.get c6
    have cA : (σ3.push (.cells (bc (s.at 1)) none)).get σ3.next = some (.cells (bc (s.at 1)) none) := Store.get_push_same _ _
    have d4 := d3.later kk
    have U4 := upd_then U3 kk
    have hn4 : σ.next + 1 < (σ3.push (.cells (bc (s.at 1)) none)).next := Store.lt_of_get c8
    obtain ⟨σ4, hσ4⟩ : ∃ s4, s4 = σ3.push (.cells (bc (s.at 1)) none) := ⟨_, rfl⟩
    rw [← hσ4] at c8 c9 cA d4 U4 hn4
    simp -implicitDefEqProofs (maxSteps := 2000000) (disch := first|assumption|omega|rfl|(simp only[RD];done)|(simp only[RD];omega)) only [RN,Int.reduceBEq,Int.reduceBNe,Int.reduceLT,Int.reduceLE,Int.reduceAdd,Int.reduceSub,Int.reduceMul,Nat.reduceAdd,↓bc_flatz,↓bc_flat16,↓agg_bytez, hal]
    rw [← hσ4]
    simp -implicitDefEqProofs (maxSteps := 2000000) (disch := first|assumption|omega|rfl|(simp only[RD];done)|(simp only[RD];omega)) only [RN,Int.reduceBEq,Int.reduceBNe,Int.reduceLT,Int.reduceLE,Int.reduceAdd,Int.reduceSub,Int.reduceMul,Nat.reduceAdd,↓bc_flatz,↓bc_flat16,↓agg_bytez, p46_1, c9, cA, l9, hal]
    refine hdecode_ hg hal hB (fun hno σ5 k5 => ?_) fun hyes σ5 v k5 sv iv => ?_
    · have cB := k5.get c8
      simp -implicitDefEqProofs (maxSteps := 2000000) (disch := first|assumption|omega|rfl|(simp only[RD];done)|(simp only[RD];omega)) only [RN,Int.reduceBEq,Int.reduceBNe,Int.reduceLT,Int.reduceLE,Int.reduceAdd,Int.reduceSub,Int.reduceMul,Nat.reduceAdd,↓bc_flatz,↓bc_flat16,↓agg_bytez, cB]
      exact hq1 hdd hno _ (putD (d4.later k5)) (putU (upd_then U4 k5) (Store.lt_of_get cB))
    · have cB := k5.get c8
      obtain ⟨va, vb, vc, rfl⟩ : ∃ a b c, v = .slice a b c := by
        rcases sv.2 with ⟨_, e⟩ | ⟨i, e, _⟩
        · exact ⟨_, _, _, e⟩
        · exact ⟨_, _, _, e⟩
      simp -implicitDefEqProofs (maxSteps := 2000000) (disch := first|assumption|omega|rfl|(simp only[RD];done)|(simp only[RD];omega)) only [RN,Int.reduceBEq,Int.reduceBNe,Int.reduceLT,Int.reduceLE,Int.reduceAdd,Int.reduceSub,Int.reduceMul,Nat.reduceAdd,↓bc_flatz,↓bc_flat16,↓agg_bytez, cB]
      have hU := U4.next
      refine hq2 hdd hyes _ _ (putD (d4.later k5)) (putU (upd_then U4 k5) (Store.lt_of_get cB)) (sv.same fun j hj => get_put_ne' ?_) fun j hj => ⟨fun hg => ?_, ?_⟩
      · have := iv j hj; omega
      · have := iv j hj; have := hlt j hg; omega
      · have := iv j hj; omega
end Go.Proofs.Ytiaonndafhfkmaa
