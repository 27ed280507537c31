/- WalCommit: what is wanted of a commit, and what was done. -/
import Derived.Test.YtkmalbaollffiaaCmp
set_option linter.all false
set_option maxRecDepth 100000
set_option maxHeartbeats 400000
namespace Go.Proofs.Ytkmalbaollffiaa
open Go.Am
variable {σ : Store} {Q : Value → Store → Prop} {g : Geo} {s : DS} {w : WS} {m : Nat} {l d nid : Nat} {F G B X : List Nat} {st sB : Store}
theorem ops_len {o : List (Int × List Int)} (h : ∀ p ∈ o, p.2.length = 1024) : ∀ x ∈ (commitOps o).map toH, x.2.2.length = 1024 := fun x hx => by
  obtain ⟨y, hy, rfl⟩ := List.mem_map.1 hx
  cases y with
  | w i b => exact commitOps_ok h i b hy
  | bar => exact zb_len
theorem app_op {sE st' : Store} {wv : Value} {H : Hist} {op : Int × Int × List Int} (hw : SlG st' 1026 wv H.length (histC H)) (hk : Keeps sE st') (hid : ∀ j ∈ idsV wv, sE.next ≤ j) (hop : op.2.2.length = 1024) (hcap : H.length < 1000) :
    ∃ s5 wv', appendV 1026 1040 wv (.slice (some ⟨st'.next, 0, none⟩) 1 1) (st'.push (.cells (opC op) none)) = some (wv', s5) ∧ SlG s5 1026 wv' (H ++ [op]).length (histC (H ++ [op])) ∧ Keeps sE s5 ∧ ∀ j ∈ idsV wv', sE.next ≤ j := by
  obtain ⟨s4, hs4⟩ : ∃ s4, s4 = st'.push (.cells (opC op) none) := ⟨_, rfl⟩
  have k4 : Keeps st' s4 := by rw [hs4]; exact (Keeps.refl _).push _
  have c4 : s4.get st'.next = some (.cells (opC op) none) := by rw [hs4]; exact Store.get_push_same _ _
  have n4 := k4.1
  have nE := hk.1
  obtain ⟨s5, a1, a2, a3, a4⟩ := SlG.app (by_ := 1040) (k := 1) (gj := none) (hw.same (σ' := s4) fun j hj => k4.2 j (hw.lt j hj)) c4 (opC_len hop) (by omega) (by omega) (by decide)
  rw [← hs4]
  refine ⟨s5, _, a1, by rw [List.length_append, histC_append, histC_one]; exact a2, ⟨by omega, fun j hj => ?_⟩, fun j hj => ?_⟩
  · rw [a4 j (by omega) (fun h => by have := hid j h; omega), k4.2 j (by omega), hk.2 j hj]
  · have : j = s4.next := by simpa [idsV] using hj
    omega
theorem app_op3 {sE st' : Store} {wv : Value} {H : Hist} {x : Int} {h : List Int} (hw : SlG st' 1026 wv H.length (histC H)) (hk : Keeps sE st') (hid : ∀ j ∈ idsV wv, sE.next ≤ j) (hop : h.length = 1024) (hcap : H.length < 1000) :
    ∃ s5 wv', appendV 1026 1040 wv (.slice (some ⟨st'.next, 0, none⟩) 3 3) (st'.push (.cells (.int .u8 2 :: .int .i64 0 :: (bc zb ++ .int .u8 1 :: .int .i64 x :: (bc h ++ .int .u8 2 :: .int .i64 0 :: bc zb))) none)) = some (wv', s5) ∧ SlG s5 1026 wv' (H ++ [(2, 0, zb), (1, x, h), (2, 0, zb)]).length (histC (H ++ [(2, 0, zb), (1, x, h), (2, 0, zb)])) ∧ Keeps sE s5 ∧ ∀ j ∈ idsV wv', sE.next ≤ j := by
  have eH : histC [(2, 0, zb), (1, x, h), (2, 0, zb)] = .int .u8 2 :: .int .i64 0 :: (bc zb ++ .int .u8 1 :: .int .i64 x :: (bc h ++ .int .u8 2 :: .int .i64 0 :: bc zb)) := by simp [histC]
  rw [← eH]
  have hl3 : (histC [(2, 0, zb), (1, x, h), (2, 0, zb)]).length = (2 + 1) * 1026 := histC_len fun p hp => by
    simp only [List.mem_cons, List.not_mem_nil, or_false] at hp
    rcases hp with rfl | rfl | rfl <;> first | exact zb_len | exact hop
  obtain ⟨s4, hs4⟩ : ∃ s4, s4 = st'.push (.cells (histC [(2, 0, zb), (1, x, h), (2, 0, zb)]) none) := ⟨_, rfl⟩
  have k4 : Keeps st' s4 := by rw [hs4]; exact (Keeps.refl _).push _
  have c4 : s4.get st'.next = some (.cells (histC [(2, 0, zb), (1, x, h), (2, 0, zb)]) none) := by rw [hs4]; exact Store.get_push_same _ _
  have n4 := k4.1
  have nE := hk.1
  obtain ⟨s5, a1, a2, a3, a4⟩ := SlG.apps (by_ := 1040) (k := 3) (gj := none) (hw.same (σ' := s4) fun j hj => k4.2 j (hw.lt j hj)) c4 hl3 (by omega) (by omega) (by decide)
  rw [← hs4]
  refine ⟨s5, _, a1, by rw [List.length_append, histC_append]; exact a2, ⟨by omega, fun j hj => ?_⟩, fun j hj => ?_⟩
  · rw [a4 j (by omega) (fun h => by have := hid j h; omega), k4.2 j (by omega), hk.2 j hj]
  · have : j = s4.next := by simpa [idsV] using hj
    omega
end Go.Proofs.Ytkmalbaollffiaa
