/- WalCommit, walked. -/
import Derived.Test.YtndjgidglnofbaaRRRCmb
set_option linter.all false
set_option maxRecDepth 100000
set_option maxHeartbeats 800000
namespace Go.Proofs.YtndjgidglnofbaaRRR
open Go.Am
variable {σ : Store} {Q : Value → Store → Prop} {g : Geo} {s : DS} {w : WS} {m : Nat} {l d nid : Nat} {F G B X : List Nat} {st sB : Store}
/-- What is behind the changes: the step is over, the group is committed. -/
theorem cm_b {K : Value → Store → Prop} {ov dv : Value} {c32 : Nat} {r : Int} {A0 : List Nat} {a1 : Value} {b0 : Nat} {x : Int} {n56 : Value → Value → Value → Store → Prop} (hg : g.ok) (sc : Sc l d g r A0 sB w ov dv st) (h31 : w.grp.length ≤ 31) (hne : w.grp ≠ []) (c0 : st.get c32 = some (.cells (ic g.lay) none)) (n0 : ∀ {F G : List Nat}, Upd A0 sB st ((F ++ G) ++ (idsV ov ++ idsV dv)) → c32 ∉ (F ++ G) ++ (idsV ov ++ idsV dv)) (hK : ∀ st', K (.bool true) st') :
    p4_8 (.bool false) a1 (.int .i64 x) st (.pointer (some ⟨b0, 0, none⟩)) (.pointer (some ⟨c32, 0, none⟩)) (.pointer (some ⟨l, 0, none⟩)) K ov dv n56 (.pointer (some ⟨d, 0, none⟩)) := by
  have hW := sc.ok
  have wg := sc.wg
  obtain ⟨F, G, L, D, A, AB, U⟩ := sc.ex
  have l9 : (ic g.lay).length = 9 := rfl
  have hmm : (fresh0 g).mine w.mine = true := by rw [sc.wm]; rfl
  have hC : (fresh0 g).C 2 := fresh0_C hg
  have ol := ordL_len w.grp
  have nc := n0 U
  simp -implicitDefEqProofs (maxSteps := 2000000) (disch := first|assumption|omega|rfl|(simp only[RD];done)|(simp only[RD];omega)) only [RN,Int.reduceBEq,Int.reduceBNe,Int.reduceLT,Int.reduceLE,Int.reduceAdd,Int.reduceSub,Int.reduceMul,Nat.reduceAdd,↓bc_flatz,↓bc_flat16,↓agg_bytez, p4_8]
  refine end_ L D A hC hmm (by rw [sc.cnt.2]; decide) (fun h => by rw [sc.wo] at h; cases h) fun _ st1 L1 D1 U1 => ?_
  have ABo : Apart F (idsV ov ++ idsV dv) := fun j hj => AB j (List.mem_append_left _ hj)
  have hBlt : ∀ j ∈ idsV ov ++ idsV dv, j < st.next := fun j hj => by
    rcases List.mem_append.1 hj with h | h
    · exact sc.so.lt j h
    · exact sc.sd.lt j h
  have so1 : SlG st1 1 ov (ordL w.grp).length (ic (ordL w.grp)) := sc.so.same fun j hj => Upd.get U1 ABo hBlt j (List.mem_append_left _ hj)
  have sd1 : SlG st1 1024 dv (ordL w.grp).length (bc (dataF w.grp)) := sc.sd.same fun j hj => Upd.get U1 ABo hBlt j (List.mem_append_right _ hj)
  have c1 : st1.get c32 = some (.cells (ic g.lay) none) := by rw [U1.same _ (Store.lt_of_get c0) (fun h => nc (List.mem_append_left _ (List.mem_append_left _ h))), c0]
  have AB1 : Apart F (idsV ov ++ idsV dv) := ABo
  try simp -implicitDefEqProofs (maxSteps := 2000000) (disch := first|assumption|omega|rfl|(simp only[RD];done)|(simp only[RD];omega)) only [RN,Int.reduceBEq,Int.reduceBNe,Int.reduceLT,Int.reduceLE,Int.reduceAdd,Int.reduceSub,Int.reduceMul,Nat.reduceAdd,↓bc_flatz,↓bc_flat16,↓agg_bytez]
  refine used_ L1 D1 hC hmm ?_
  have gl : ({ w with opn := false, steps := w.steps + 1 } : WS).grp.length = w.grp.length := rfl
  rw [gl]
  simp -implicitDefEqProofs (maxSteps := 2000000) (disch := first|assumption|omega|rfl|(simp only[RD];done)|(simp only[RD];omega)) only [RN,Int.reduceBEq,Int.reduceBNe,Int.reduceLT,Int.reduceLE,Int.reduceAdd,Int.reduceSub,Int.reduceMul,Nat.reduceAdd,↓bc_flatz,↓bc_flat16,↓agg_bytez, so1.len, ol]
  refine made_o D1 hC ?_
  rw [show (fresh0 g).made = 0 from rfl]
  simp -implicitDefEqProofs (maxSteps := 2000000) (disch := first|assumption|omega|rfl|(simp only[RD];done)|(simp only[RD];omega)) only [RN,Int.reduceBEq,Int.reduceBNe,Int.reduceLT,Int.reduceLE,Int.reduceAdd,Int.reduceSub,Int.reduceMul,Nat.reduceAdd,↓bc_flatz,↓bc_flat16,↓agg_bytez, p4_7]
  have hW1 := L1.ok
  have hn1 : w.g.blocks ≤ (fresh0 g).n := by rw [wg]; exact Int.le_refl _
  have cl := commit_live (fresh0_live (g := g)) hW1 hn1
  have cin := commit_in (s := fresh0 g) hW1 hn1
  have cC := commit_C' hC hW1
  have ch := run_hist cl.1 cin
  have cm := run_mine (k := w.mine) cl.1
  refine sync_ L1 D1 A hC (by omega) hmm (by show w.commits < 2 ^ 62; rw [sc.cnt.1]; decide) (fun h => by cases h) (fun _ h => absurd h hne) (fun _ _ _ s2 F2 G2 L2 D2 A2 U2 => ?_) (fun _ _ h => by rw [cl.1] at h; cases h)
  change ((fresh0 g).run (commitOps w.grp)).1 = 0 ∧ _ at cl
  change ((fresh0 g).run (commitOps w.grp)).2.C _ at cC
  change ((fresh0 g).run (commitOps w.grp)).2.hist = [] ++ (commitOps w.grp).map toH at ch
  change ((fresh0 g).run (commitOps w.grp)).2.mine w.mine = _ at cm
  have D2 : Disk s2 d ((fresh0 g).run (commitOps w.grp)).2 G2 := D2
  have so2 : SlG s2 1 ov (ordL w.grp).length (ic (ordL w.grp)) := so1.same fun j hj => Upd.get U2 AB (fun j hj => by have := hBlt j hj; have := U1.next; omega) j (List.mem_append_left _ hj)
  have sd2 : SlG s2 1024 dv (ordL w.grp).length (bc (dataF w.grp)) := sd1.same fun j hj => Upd.get U2 AB (fun j hj => by have := hBlt j hj; have := U1.next; omega) j (List.mem_append_right _ hj)
  have c2 : s2.get c32 = some (.cells (ic g.lay) none) := by rw [U2.same _ (Store.lt_of_get c1) (fun h => nc (List.mem_append_left _ h)), c1]
  try simp -implicitDefEqProofs (maxSteps := 2000000) (disch := first|assumption|omega|rfl|(simp only[RD];done)|(simp only[RD];omega)) only [RN,Int.reduceBEq,Int.reduceBNe,Int.reduceLT,Int.reduceLE,Int.reduceAdd,Int.reduceSub,Int.reduceMul,Nat.reduceAdd,↓bc_flatz,↓bc_flat16,↓agg_bytez]
  refine used_ L2 D2 cC (by rw [show ({ w with opn := false, steps := w.steps + 1 } : WS).done.mine = w.mine from rfl, cm]; exact hmm) ?_
  rw [show ({ w with opn := false, steps := w.steps + 1 } : WS).done.grp.length = 0 from rfl]
  have hord : ∀ x ∈ ordL w.grp, 1 + g.log ≤ x ∧ x < g.blocks := fun x hx => by
    obtain ⟨p, hp, rfl⟩ := List.mem_map.1 hx
    have := hW.dom p hp
    rw [wg] at this; exact this
  have hmany := hW.many
  have hgg := hg
  unfold Geo.ok at hgg
  rcases so2.2 with ⟨h0, _⟩ | ⟨io, rfl, h2, h3⟩
  · rw [ol] at h0
    exact absurd (List.eq_nil_of_length_eq_zero h0) hne
  · simp -implicitDefEqProofs (maxSteps := 2000000) (disch := first|assumption|omega|rfl|(simp only[RD];done)|(simp only[RD];omega)) only [RN,Int.reduceBEq,Int.reduceBNe,Int.reduceLT,Int.reduceLE,Int.reduceAdd,Int.reduceSub,Int.reduceMul,Nat.reduceAdd,↓bc_flatz,↓bc_flat16,↓agg_bytez, c2, l9]
    refine hencode_ hg so2.r ⟨by rw [ol]; rw [wg] at hmany; exact hmany, hW.nodup, hord⟩ fun s3 k3 => ?_
    rw [ol] at sd2
    exact cm_a (m := 2 + 600) hW.len h31 (so2.r.keeps fun i o h => k3.get h) (sd2.r.keeps fun i o h => k3.get h) (k3.get c2) (fun x hx => by have := hord x hx; omega) (D2.later k3) cC (by omega) (by rw [ch]; rfl) hK
end Go.Proofs.YtndjgidglnofbaaRRR
