/- WalCommit: a commit, write by write. -/
import Derived.Test.YtndjgidglnofbaaRRRCme
set_option linter.all false
set_option maxRecDepth 100000
set_option maxHeartbeats 800000
namespace Go.Proofs.YtndjgidglnofbaaRRR
open Go.ChangeShapes Go.WideShapes Go.ChangeAt Go.RowKit Go.Am
section
variable {σ : Store} {Q : Value → Store → Prop} {g : Geo}
theorem walcommit_ {pa : Option Addr} {ka : Nat} {chg : List (Int × Int)} (hchg : ∀ p ∈ chg, 0 ≤ p.2 ∧ p.2 < 256) (ha : SlR σ 2 (.slice pa chg.length ka) chg.length (chgC chg)) (hq : ∀ st, Q (.bool true) st) : Does Try.prog 4 [.agg ⟨ic g.cells⟩, .slice pa chg.length ka] σ Q := by
  refine d4 ?_
  have l3 : (ic g.cells).length = 3 := rfl
  have l9 : (ic g.lay).length = 9 := rfl
  have u9 : (unrle [(9, .int .i64 0)]).length = 9 := rfl
  have ep : ∀ v, aggOf (buildL [(unrle [(3, (.int .i64 0))]), (unrle [(1, (.slice none 0 0))]), (unrle [(1, (.slice none 0 0))]), (unrle [(1, (.int .i64 0))]), (unrle [(1, (.slice none 0 0))]), (unrle [(1, (.int .i64 0))]), (unrle [(1, (.slice none 0 0))])] [(0, .agg ⟨ic g.cells⟩), (1, .slice (some ⟨v, 0, none⟩) 1 1)]) = some (.agg ⟨playC g (.slice (some ⟨v, 0, none⟩) 1 1)⟩) := fun _ => rfl
  have x0 : ∀ a b c e, extractV (.tuple #[a, b, c, e]) 0 = some a := fun _ _ _ _ => rfl
  have x1 : ∀ a b c e, extractV (.tuple #[a, b, c, e]) 1 = some b := fun _ _ _ _ => rfl
  have x2 : ∀ a b c e, extractV (.tuple #[a, b, c, e]) 2 = some c := fun _ _ _ _ => rfl
  have x3 : ∀ a b c e, extractV (.tuple #[a, b, c, e]) 3 = some e := fun _ _ _ _ => rfl
  have rp : rdPart (some (.cells (ic g.cells) none)) 0 3 = some (.agg ⟨ic g.cells⟩) := rfl
  have bx : boxN (.agg ⟨ic g.cells⟩) = some (.cells (ic g.cells) none, ptrTo) := rfl
  obtain ⟨s0, hs0⟩ : ∃ s0, s0 = σ.push (.cells (ic g.cells) none) := ⟨_, rfl⟩
  have k0 : Keeps σ s0 := by rw [hs0]; exact (Keeps.refl _).push _
  have c0 : s0.get σ.next = some (.cells (ic g.cells) none) := by rw [hs0]; exact Store.get_push_same _ _
  obtain ⟨s1, hs1⟩ : ∃ s1, s1 = s0.push (.cells [.slice pa chg.length ka] none) := ⟨_, rfl⟩
  have k01 : Keeps s0 s1 := by rw [hs1]; exact (Keeps.refl _).push _
  have cs1 : s1.get s0.next = some (.cells [.slice pa chg.length ka] none) := by rw [hs1]; exact Store.get_push_same _ _
  have k1 : Keeps σ s1 := k0.trans k01
  have c1 : s1.get σ.next = some (.cells (ic g.cells) none) := k01.get c0
  have ha1 : SlR s1 2 (.slice pa chg.length ka) chg.length (chgC chg) := ha.keeps fun i o h => k1.get h
  unfold p4
  rw [bx, nop_some, ← hs0]
  simp -implicitDefEqProofs (maxSteps := 2000000) (disch := first|assumption|omega|rfl|(simp only[RD];done)|(simp only[RD];omega)) only [RN,Int.reduceBEq,Int.reduceBNe,Int.reduceLT,Int.reduceLE,Int.reduceAdd,Int.reduceSub,Int.reduceMul,Nat.reduceAdd,↓bc_flatz,↓bc_flat16,↓agg_bytez, c0, rp, ↓ep]
  rw [← hs1]
  refine lfits1_ (sv := .slice (some ⟨s0.next, 0, none⟩) 1 1) rfl (SlR.new (.inl rfl) cs1 rfl) ?_
  by_cases hf : g.ok ∧ g.blocks ≤ 300 ∧ chg.length ≤ 31
  · rw [decide_eq_true hf]
    obtain ⟨hg, h3, h31⟩ := hf
    by_cases h2 : chg.length = 0
    · have hb : ((chg.length : Int) == 0) = true := by simp [h2]
      simp -implicitDefEqProofs (maxSteps := 2000000) (disch := first|assumption|omega|rfl|(simp only[RD];done)|(simp only[RD];omega)) only [RN,Int.reduceBEq,Int.reduceBNe,Int.reduceLT,Int.reduceLE,Int.reduceAdd,Int.reduceSub,Int.reduceMul,Nat.reduceAdd,↓bc_flatz,↓bc_flat16,↓agg_bytez, p4_10, hb]
      exact hq _
    · have hb : ((chg.length : Int) == 0) = false := by simpa using h2
      have hgg := hg
      unfold Geo.ok at hgg
      simp -implicitDefEqProofs (maxSteps := 2000000) (disch := first|assumption|omega|rfl|(simp only[RD];done)|(simp only[RD];omega)) only [RN,Int.reduceBEq,Int.reduceBNe,Int.reduceLT,Int.reduceLE,Int.reduceAdd,Int.reduceSub,Int.reduceMul,Nat.reduceAdd,↓bc_flatz,↓bc_flat16,↓agg_bytez, p4_10, hb, c1, rp]
      refine fresh_ hg fun s2 d l F G L2 D2 A2 U2 => ?_
      have k2 := upd_keeps0 U2
      have c2 : s2.get σ.next = some (.cells (ic g.cells) none) := k2.get c1
      have hge : ∀ j ∈ F ++ G, s1.next ≤ j := fun j hj => by
        rcases (U2.ids j hj).2 with h | h
        · cases h
        · exact h
      simp -implicitDefEqProofs (maxSteps := 2000000) (disch := first|assumption|omega|rfl|(simp only[RD];done)|(simp only[RD];omega)) only [RN,Int.reduceBEq,Int.reduceBNe,Int.reduceLT,Int.reduceLE,Int.reduceAdd,Int.reduceSub,Int.reduceMul,Nat.reduceAdd,↓bc_flatz,↓bc_flat16,↓agg_bytez, x0, x1, x2, x3, u9, l9]
      obtain ⟨s3, hs3⟩ : ∃ s3, s3 = s2.push (.cells (ic g.lay) none) := ⟨_, rfl⟩
      have k3 : Keeps s2 s3 := by rw [hs3]; exact (Keeps.refl _).push _
      have c3 : s3.get s2.next = some (.cells (ic g.lay) none) := by rw [hs3]; exact Store.get_push_same _ _
      have c23 := k3.get c2
      rw [← hs3]
      refine lives_ fun s4 k4 => ?_
      simp -implicitDefEqProofs (maxSteps := 2000000) (disch := first|assumption|omega|rfl|(simp only[RD];done)|(simp only[RD];omega)) only [RN,Int.reduceBEq,Int.reduceBNe,Int.reduceLT,Int.reduceLE,Int.reduceAdd,Int.reduceSub,Int.reduceMul,Nat.reduceAdd,↓bc_flatz,↓bc_flat16,↓agg_bytez, p4_9]
      have L4 : Log s4 l d (WS.new g 1) (fresh0 g) F := (L2.same k3.1 fun j hj => k3.2 j (L2.lt j hj)).same k4.1 fun j hj => k4.2 j (by have := L2.lt j hj; have := k3.1; omega)
      have D4 : Disk s4 d (fresh0 g) G := (D2.later k3).later k4
      refine begin_ L4 D4 A2 (fresh0_C hg) (by omega) rfl (by show (0 : Int) < 2 ^ 62; decide) (r := (chg.length : Nat)) (by omega) (fun e he => ?_) (fun _ _ _ _ s5 F5 L5 D5 A5 U5 => ?_) (fun _ _ _ h => ?_) (fun _ _ _ h => ?_)
      · rcases he with ⟨h, _⟩ | ⟨_, h, _⟩
        · cases h
        · exfalso
          have h : ((chg.length : Nat) : Int) < 1 ∨ g.log - 1 < ((chg.length : Nat) : Int) := h
          omega
      · try simp -implicitDefEqProofs (maxSteps := 2000000) (disch := first|assumption|omega|rfl|(simp only[RD];done)|(simp only[RD];omega)) only [RN,Int.reduceBEq,Int.reduceBNe,Int.reduceLT,Int.reduceLE,Int.reduceAdd,Int.reduceSub,Int.reduceMul,Nat.reduceAdd,↓bc_flatz,↓bc_flat16,↓agg_bytez]
        have hold : ∀ {j : Nat}, j < s1.next → s5.get j = s1.get j := fun {j} hj => by
          have h1 : j ∉ F ++ G := fun h => by have := hge j h; omega
          rw [U5.same j (by have := k2.1; have := k3.1; have := k4.1; omega) h1, k4.2 j (by have := k2.1; have := k3.1; omega), k3.2 j (by have := k2.1; omega), k2.2 j hj]
        have hnot : ∀ {j : Nat}, j < s1.next → j ∉ F5 ++ G := fun {j} hj h => by
          rcases (U5.ids j h).2 with h | h
          · have := hge j h; omega
          · have := k2.1; have := k3.1; have := k4.1; omega
        have hl1 := Store.lt_of_get c1
        have hl3 := Store.lt_of_get c3
        have h3n : s2.next ∉ F ++ G := fun h => by
          have := (U2.ids _ h).1; omega
        have c5 : s5.get s2.next = some (.cells (ic g.lay) none) := by rw [U5.same _ (by have := k4.1; omega) h3n, k4.get c3]
        have h3n5 : s2.next ∉ F5 ++ G := fun h => by
          rcases (U5.ids _ h).2 with h | h
          · exact h3n h
          · have := k4.1; omega
        refine cm_loop (n := g.blocks.toNat) hg (by omega) (by omega) hchg h31 (by omega) L5 D5 A5 (by rw [hold hl1, c1]) c5 (hnot hl1) h3n5 ?_ hq
        intro st' hk
        exact ha1.keeps fun i o h => by
          have hlt := Store.lt_of_get h
          rw [hk i (by have := U5.next; have := k2.1; have := k3.1; have := k4.1; omega) (hnot hlt), hold hlt, h]
      · exfalso
        have h : g.log - 1 < ((0 : Nat) : Int) + ((chg.length : Nat) : Int) := h
        omega
      · exfalso
        have h : g.log - 1 < ((0 : Nat) : Int) + ((chg.length : Nat) : Int) := h
        omega
  · rw [decide_eq_false hf]
    simp -implicitDefEqProofs (maxSteps := 2000000) (disch := first|assumption|omega|rfl|(simp only[RD];done)|(simp only[RD];omega)) only [RN,Int.reduceBEq,Int.reduceBNe,Int.reduceLT,Int.reduceLE,Int.reduceAdd,Int.reduceSub,Int.reduceMul,Nat.reduceAdd,↓bc_flatz,↓bc_flat16,↓agg_bytez, p4_10]
    exact hq _
end
end Go.Proofs.YtndjgidglnofbaaRRR
