/- WalNames: its numbers. -/
import Derived.Test.YtlogocelkpmkbaaNm0
set_option linter.all false
set_option maxRecDepth 100000
set_option maxHeartbeats 400000
namespace Go.Proofs.Ytlogocelkpmkbaa
open Go.Am
def g4 : Geo := ⟨400, 32, 60⟩
theorem g4_ok : g4.ok := by decide
def n1 : WS := (WS.new g4 1).begin 23
def n2 : WS := (n1.write 40 (blk 1)).2
def n3 : WS := (n2.write 41 (blk 2)).2
def n4 : WS := (n3.write 40 (blk 3)).2
def n5 : WS := n4.ended
def n6 : WS := n5.begin 29
def n7 : WS := n6.ended
def y1 : DS := ((fresh0 g4).run (commitOps n7.grp)).2
def n8 : WS := n7.done.begin 30
def n9 : WS := n8.ended
def n10 : WS := (n9.write 40 (blk 1)).2
def n11 : WS := n10.begin 9
def n12 : WS := (n11.write 0 (blk 1)).2
def n13 : WS := (n12.write 1 (blk 1)).2
def n14 : WS := (n13.write 32 (blk 1)).2
def n15 : WS := (n14.write 400 (blk 1)).2
def n16 : WS := (n15.write 33 (blk 1)).2
def n17 : WS := (n16.write 60 (blk 1)).2
def n18 : WS := n17.ended
def y2 : DS := y1.fused 3
def y3 : DS := (y2.run (commitOps n18.grp)).2
def y4 : DS := y3.crash []
def y5 : DS := y4.readed
def m0 : WS := WS.new g4 (y5.claims + 1)
def y6 : DS := y5.readed.claimed
def m1 : WS := m0.begin 2
def m2 : WS := (m1.write 50 (blk 5)).2
def m3 : WS := (m2.write 51 (blk 6)).2
def m4 : WS := m3.ended
def y7 : DS := y6.fused 4
def y8 : DS := (y7.run (commitOps m4.grp)).2
def y9 : DS := y8.crash [true]
def y10 : DS := y9.readed
def y11 : DS := (y10.readed.recover (decL (y10.at 1))).2
theorem n1_w : (n1.write 40 (blk 1)).1 = 0 := by decide +kernel
theorem n2_w : (n2.write 41 (blk 2)).1 = 0 := by decide +kernel
theorem n3_w : (n3.write 40 (blk 3)).1 = 0 := by decide +kernel
theorem n4_f : n4.opn = true ∧ n4.steps < 2 ^ 62 := by decide +kernel
theorem n5_f : n5.opn = false ∧ n5.commits < 2 ^ 62 ∧ (29 ≤ n5.g.log - 1 ∧ (n5.grp.length : Int) + 29 ≤ n5.g.log - 1) := by decide +kernel
theorem n6_f : n6.opn = true ∧ n6.steps < 2 ^ 62 := by decide +kernel
theorem n7_f : n7.opn = false ∧ n7.commits < 2 ^ 62 ∧ (30 ≤ n7.g.log - 1 ∧ n7.g.log - 1 < (n7.grp.length : Int) + 30) := by decide +kernel
theorem y0_made : (fresh0 g4).made = 0 := by decide +kernel
theorem y1_made : y1.made = 10 := by decide +kernel
theorem n8_f : n8.opn = true ∧ n8.steps < 2 ^ 62 ∧ n8.commits = 1 := by decide +kernel
theorem n9_f : n9.opn = false ∧ n9.commits < 2 ^ 62 ∧ n9.g.log - 1 < 32 ∧ n9.steps < 2 ^ 62 := by decide +kernel
theorem n9_w : (n9.write 40 (blk 1)).1 = 180 := by decide +kernel
theorem n10_f : n10.opn = false ∧ n10.commits < 2 ^ 62 ∧ (9 ≤ n10.g.log - 1 ∧ (n10.grp.length : Int) + 9 ≤ n10.g.log - 1) := by decide +kernel
theorem n11_w : (n11.write 0 (blk 1)).1 = 2 := by decide +kernel
theorem n12_w : (n12.write 1 (blk 1)).1 = 2 := by decide +kernel
theorem n13_w : (n13.write 32 (blk 1)).1 = 2 := by decide +kernel
theorem n14_w : (n14.write 400 (blk 1)).1 = 2 := by decide +kernel
theorem n15_w : (n15.write 33 (blk 1)).1 = 0 := by decide +kernel
theorem n16_w : (n16.write 60 (blk 1)).1 = 0 := by decide +kernel
theorem n17_f : n17.opn = true ∧ n17.steps < 2 ^ 62 := by decide +kernel
theorem n18_f : n18.opn = false ∧ n18.commits < 2 ^ 62 ∧ n18.grp.length = 2 := by decide +kernel
theorem y2_r : (y2.run (commitOps n18.grp)).1 = 3 := by decide +kernel
theorem n18_m : n18.mine = 1 := by decide +kernel
theorem y4_f : y4.dead = false ∧ y4.claims + 1 = 2 ∧ y4.n = 400 := by decide +kernel
theorem y4_at : y4.at 1 = zb := by decide +kernel
theorem y5_f : y5.dead = false ∧ y5.mine 1 = false ∧ y5.n = 400 ∧ 0 < y5.claims + 1 := by decide +kernel
theorem y5_at : y5.at 1 = zb := by decide +kernel
theorem m0_f : m0.opn = false ∧ m0.commits < 2 ^ 62 ∧ (2 ≤ m0.g.log - 1 ∧ (m0.grp.length : Int) + 2 ≤ m0.g.log - 1) := by decide +kernel
theorem m1_w : (m1.write 50 (blk 5)).1 = 0 := by decide +kernel
theorem m2_w : (m2.write 51 (blk 6)).1 = 0 := by decide +kernel
theorem m3_f : m3.opn = true ∧ m3.steps < 2 ^ 62 := by decide +kernel
theorem m4_f : m4.opn = false ∧ m4.commits < 2 ^ 62 ∧ m4.grp.length = 2 := by decide +kernel
theorem y7_r : (y7.run (commitOps m4.grp)).1 = 3 := by decide +kernel
theorem y9_f : y9.dead = false ∧ y9.n = 400 := by decide +kernel
theorem y9_dec : decL (y9.at 1) = [50, 51] := by decide +kernel
theorem y9_b : BytesOk (y9.at 1) := by
  have h : (y9.at 1).all (fun v => decide (0 ≤ v ∧ v < 256)) = true := by decide +kernel
  intro v hv
  have := List.all_eq_true.1 h v hv
  simpa using this
theorem y10_f : y10.dead = false ∧ y10.n = 400 := by decide +kernel
theorem y10_at : y10.at 1 = y9.at 1 := rfl
theorem y10_ok : DecOk g4 (y10.at 1) := by
  unfold DecOk
  rw [y10_at, y9_dec]
  decide
theorem y10_r : (y10.readed.recover (decL (y10.at 1))).1 = 0 := by decide +kernel
theorem y11_f : y11.dead = false ∧ y11.n = 400 := by decide +kernel
theorem y11_at : y11.at 51 = blk 6 := by decide +kernel
end Go.Proofs.Ytlogocelkpmkbaa
