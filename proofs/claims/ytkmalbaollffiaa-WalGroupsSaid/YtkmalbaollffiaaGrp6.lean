/- WalGroups: the law. -/
import Derived.Test.YtkmalbaollffiaaGrp5
set_option linter.all false
set_option maxRecDepth 100000
set_option maxHeartbeats 800000
namespace Go.Proofs.Ytkmalbaollffiaa
open Go.Am
variable {σ : Store} {Q : Value → Store → Prop} {g : Geo}
theorem walgroups_ {sv yv kv kv2 : Value} {x y : Int} {ls : List Value} {steps : List (List (Int × Int))} {sy : List Int} (hsyl : sy.length < 2 ^ 63) (hby : ∀ t ∈ steps, ∀ p ∈ t, 0 ≤ p.2 ∧ p.2 < 256) (hll : ls.length = steps.length) (hcap : steps.length < 2 ^ 63) (hlc : ∀ t ∈ steps, t.length < 2 ^ 63)
    (hls : SlR σ 1 sv ls.length ls) (hsy : SlR σ 1 yv sy.length (ic sy)) (hstp : ∀ (i : Nat) v t, ls[i]? = some v → steps[i]? = some t → StpV σ v t) (hq : ∀ st, Q (.bool true) st) : Does Try.prog 3 [.agg ⟨playV g sv yv kv kv2 x y⟩] σ Q := by
  refine d3 ?_
  have bx : boxN (.agg ⟨playV g sv yv kv kv2 x y⟩) = some (.cells (playV g sv yv kv kv2 x y) none, ptrTo) := rfl
  have x0 : ∀ a b c e, extractV (.tuple #[a, b, c, e]) 0 = some a := fun _ _ _ _ => rfl
  have x1 : ∀ a b c e, extractV (.tuple #[a, b, c, e]) 1 = some b := fun _ _ _ _ => rfl
  have x2 : ∀ a b c e, extractV (.tuple #[a, b, c, e]) 2 = some c := fun _ _ _ _ => rfl
  have x3 : ∀ a b c e, extractV (.tuple #[a, b, c, e]) 3 = some e := fun _ _ _ _ => rfl
  have l9 : (ic g.lay).length = 9 := rfl
  have p9 : (playV g sv yv kv kv2 x y).length = 9 := rfl
  have u9 : (unrle [(9, .int .i64 0)]).length = 9 := rfl
  have rp : rdPart (some (.cells (playV g sv yv kv kv2 x y) none)) 0 3 = some (.agg ⟨ic g.cells⟩) := rfl
  unfold p3
  obtain ⟨s1, hs1⟩ : ∃ s1, s1 = σ.push (.cells (playV g sv yv kv kv2 x y) none) := ⟨_, rfl⟩
  have k1 : Keeps σ s1 := by rw [hs1]; exact (Keeps.refl _).push _
  have c1 : s1.get σ.next = some (.cells (playV g sv yv kv kv2 x y) none) := by rw [hs1]; exact Store.get_push_same _ _
  rw [bx, nop_some, ← hs1]
  try simp -implicitDefEqProofs (maxSteps := 2000000) (disch := first|assumption|omega|rfl|(simp only[RD];done)|(simp only[RD];omega)) only [RN,Int.reduceBEq,Int.reduceBNe,Int.reduceLT,Int.reduceLE,Int.reduceAdd,Int.reduceSub,Int.reduceMul,Nat.reduceAdd,↓bc_flatz,↓bc_flat16,↓agg_bytez]
  refine lives_ fun s2 k2 => ?_
  have c2 := k2.get c1
  have k12 := k1.trans k2
  simp -implicitDefEqProofs (maxSteps := 2000000) (disch := first|assumption|omega|rfl|(simp only[RD];done)|(simp only[RD];omega)) only [RN,Int.reduceBEq,Int.reduceBNe,Int.reduceLT,Int.reduceLE,Int.reduceAdd,Int.reduceSub,Int.reduceMul,Nat.reduceAdd,↓bc_flatz,↓bc_flat16,↓agg_bytez, p3_12, c2, p9]
  refine lfitsN_ hll hcap hlc (hls.keeps fun i o h => k12.get h) (fun i v t h1 h2 => (hstp i v t h1 h2).1) ?_
  by_cases hf : g.ok ∧ g.blocks ≤ 300 ∧ steps.length ≤ 40 ∧ ∀ t ∈ steps, t.length ≤ 31
  · rw [decide_eq_true hf]
    obtain ⟨hg, h3, h40, h31⟩ := hf
    simp -implicitDefEqProofs (maxSteps := 2000000) (disch := first|assumption|omega|rfl|(simp only[RD];done)|(simp only[RD];omega)) only [RN,Int.reduceBEq,Int.reduceBNe,Int.reduceLT,Int.reduceLE,Int.reduceAdd,Int.reduceSub,Int.reduceMul,Nat.reduceAdd,↓bc_flatz,↓bc_flat16,↓agg_bytez, c2, rp]
    refine fresh_ hg fun s3 d l F G L3 D3 A3 U3 => ?_
    have k3 := upd_keeps0 U3
    simp -implicitDefEqProofs (maxSteps := 2000000) (disch := first|assumption|omega|rfl|(simp only[RD];done)|(simp only[RD];omega)) only [RN,Int.reduceBEq,Int.reduceBNe,Int.reduceLT,Int.reduceLE,Int.reduceAdd,Int.reduceSub,Int.reduceMul,Nat.reduceAdd,↓bc_flatz,↓bc_flat16,↓agg_bytez, x0, x1, x2, x3, p3_11, u9, l9]
    obtain ⟨s4, hs4⟩ : ∃ s4, s4 = s3.push (.cells (ic g.lay) none) := ⟨_, rfl⟩
    have k4 : Keeps s3 s4 := by rw [hs4]; exact (Keeps.refl _).push _
    have c4 : s4.get s3.next = some (.cells (ic g.lay) none) := by rw [hs4]; exact Store.get_push_same _ _
    rw [← hs4]
    have hge : ∀ j ∈ F ++ G, s2.next ≤ j ∧ j < s3.next := fun j hj => by
      have := U3.ids j hj
      rcases this.2 with h | h
      · cases h
      · exact ⟨h, this.1⟩
    have hl2 := Store.lt_of_get c2
    have sg : Sg l d (F ++ G) s4 (WS.new g 1) (fresh0 g) 2 (.slice none 0 0) (ordL (WS.new g 1).grp) s4 :=
      ⟨⟨F, G, L3.same k4.1 fun j hj => k4.2 j (L3.lt j hj), D3.later k4, A3, fun j hj hx => by simp [idsV] at hx, ⟨Nat.le_refl _, fun j hj => (by
        have hj : j ∈ F ++ G := by simpa [idsV] using hj
        have := hge j hj; have := k4.1
        exact ⟨by omega, .inl hj⟩), fun _ _ _ => rfl⟩⟩, SlG.nil, fresh0_C hg, fresh0_live, rfl⟩
    have hk : ∀ {st' : Store}, (∀ j, j < s4.next → j ∉ F ++ G → st'.get j = s4.get j) → ∀ {i : Nat} {o : SObj}, σ.get i = some o → st'.get i = some o := fun {st'} h1 {i o} h => by
      have hlt := Store.lt_of_get h
      have a1 := k12.1; have a3 := k3.1; have a4 := k4.1
      rw [h1 i (by omega) (fun hx => by have := hge i hx; omega)]
      exact k4.get (k3.get (k12.get h))
    exact grp_main hsyl hg h3 h40 h31 hby hll sg rfl rfl rfl rfl rfl (k4.get (k3.get c2)) c4 (fun hx => by have := hge _ hx; omega) (fun hx => by have := hge _ hx; omega) (fun st' h1 h2 => ⟨hls.keeps fun i o h => hk h1 h, hsy.keeps fun i o h => hk h1 h, fun i v t hv ht => ⟨(hstp i v t hv ht).1, fun q p hp => by
      obtain ⟨a, o, q1, q2, q3, q4⟩ := (hstp i v t hv ht).2 q p hp
      have a1 := k12.1; have a3 := k3.1; have a4 := k4.1
      have e : st'.get a = σ.get a := by
        rw [h1 a (by omega) (fun hx => by have := hge a hx; omega), k4.2 a (by omega), k3.2 a (by omega), k12.2 a q2]
      exact ⟨a, o, q1, by omega, by rw [e]; exact q3, by rw [e]; exact q4⟩⟩⟩) hq
  · rw [decide_eq_false hf]
    simp -implicitDefEqProofs (maxSteps := 2000000) (disch := first|assumption|omega|rfl|(simp only[RD];done)|(simp only[RD];omega)) only [RN,Int.reduceBEq,Int.reduceBNe,Int.reduceLT,Int.reduceLE,Int.reduceAdd,Int.reduceSub,Int.reduceMul,Nat.reduceAdd,↓bc_flatz,↓bc_flat16,↓agg_bytez]
    exact hq _
end Go.Proofs.Ytkmalbaollffiaa
