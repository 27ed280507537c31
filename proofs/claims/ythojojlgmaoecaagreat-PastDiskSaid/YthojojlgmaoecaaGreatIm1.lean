/- sort.Slice as disk.Image calls it. -/
import Derived.Test.YthojojlgmaoecaaGreatImg
import Derived.Test.YthojojlgmaoecaaGreatLay6
import Derived.Deep.QuietTactic
import Derived.WalkKit
set_option linter.all false
set_option maxRecDepth 100000
namespace Go.Proofs.YthojojlgmaoecaaGreat
open Go.Shelf Go.RowKit Go.Lib Go.Sort Go.Am
noncomputable def siT : TypeInfo := (Tryz.prog.info? 22).get (by kernel_rfl)
noncomputable def siE : TypeInfo := (Tryz.prog.info? 58).get (by kernel_rfl)
theorem siK (n : Nat) (h2 : 2 ≤ n) : Lib.swapperK n siE 25 = 9 := by
  have a : siE.hasPointers = false := by kernel_rfl
  have b : siE.bytes = 1032 := by kernel_rfl
  have c : (n == 0) = false := by simp; omega
  have d : (n == 1) = false := by simp; omega
  simp [Lib.swapperK, a, b, c, d]
set_option maxHeartbeats 2000000 in
theorem img_less (W : World) (jb jo blk off c size : Nat) (G : Nat → Int) (hs : W.cell? ⟨jb, jo + 1, none⟩ = some (.slice (some ⟨blk, off, none⟩) size c))
    (hc : ∀ t, t < size → W.cell? ⟨blk, off + t * 1025, none⟩ = some (.int .i64 (G t))) (i j : Nat) (hi : i < size) (hj : j < size) (hsz : size < 4611686018427387904) :
    Calls Tryz.prog 33 #[.int .i64 i, .int .i64 j, .pointer (some ⟨jb, jo, none⟩)] W fun e w' => e = .returned (.bool (decide (G i < G j))) ∧ ∃ q, w' = W.drewN q := by
  have ci := hc i hi
  have cj := hc j hj
  go_enter Tryz.func33, Tryz.ntmps33
  go_wp2
  go_quiet (fail)
  go_wp2
  go_ret
  exact ⟨rfl, nq, rfl⟩
set_option maxHeartbeats 2000000 in
theorem img_tiny (p : Option Addr) (n c : Nat) (h1 : n ≤ 1) (lb : Array Value) (W : World) : Calls Tryz.prog 32 #[.iface 22 (.slice p n c), .func (.func 33) #[] lb] W fun e w' => e = .returned (.tuple #[]) ∧ ∃ os, w' = Sort.grow W os := by
  have hK : Lib.swapperK n siE 25 = n + 1 := by
    rcases Nat.eq_zero_or_pos n with h | h
    · subst h; simp [Lib.swapperK]
    · obtain rfl : n = 1 := by omega
      simp [Lib.swapperK]
  exact Any.sort_Slice_tiny sl6 22 58 siT siE (by kernel_rfl) (by kernel_rfl) (by kernel_rfl) (by kernel_rfl) 25 (fun _ => by kernel_rfl) p n c h1 (48 + n) (by
    rw [hK]
    rcases Nat.eq_zero_or_pos n with h | h
    · subst h; kernel_rfl
    · obtain rfl : n = 1 := by omega
      kernel_rfl) (.func 33) #[] lb W
set_option maxHeartbeats 2000000 in
theorem img_many (lb : Array Value) (w : World) (blk off c : Nat) (d : Array HB) (h2 : 2 ≤ d.size) (hsz : d.size < 4611686018427387904) (hless : LessReadsK Tryz.prog 33 lb encH 1025 (fun x y => decide (x.1 < y.1)) blk off d.size w) (hH : HoldsK encH 1025 w blk off d) (hblk : blk < w.heap.size) :
    Calls Tryz.prog 32 #[.iface 22 (.slice (some ⟨blk, off, none⟩) d.size c), .func (.func 33) #[] lb] w fun e w' => e = .returned (.tuple #[]) ∧ ∃ n os, w' = Sort.grow (putRowK encH 1025 (Sort.ahead w n) blk off (pdq (fun x y => decide (x.1 < y.1)) d 0 d.size (Lib.bitLen d.size) true true)) os :=
  Any.sort_Slice_cells_eq sl6 22 58 siT siE (by kernel_rfl) (by kernel_rfl) (by kernel_rfl) (by kernel_rfl) 25 (fun _ => by kernel_rfl) encH 1025 encH_len (by kernel_rfl) (fun _ => by kernel_rfl)
    (fun x v hv => by
      have := List.all_eq_true.1 (encH_sc x) v hv
      cases v <;> first | rfl | (simp [scalar] at this)) _ swo_ltH 33 lb
    (enters_of Tryz.func33 (by kernel_rfl) rfl) blk off c d h2 hsz 56 (by rw [siK _ h2]; kernel_rfl) false
    (fun args W => run_callFunc_extern Tryz.func56 (by kernel_rfl) (by kernel_rfl) (by kernel_rfl) (e := Extern.ReflectliteSwapper.swap false) (by kernel_rfl) args W) w hless hH hblk
variable {st : Store} {Q : Value → Store → Prop}
theorem img_sort {i j n : Nat} {L : List HB} {x : Value} (hi : st.get i = some (.cells (flatL encH L) (some 1025))) (hj : st.get j = some (.cells [x, .slice (some ⟨i, 0, some 1025⟩) n n] none)) (hij : i ≠ j) (hn : L.length = n) (hsz : n < 4611686018427387904)
    (hq : ∀ st', st'.next = st.next → st'.get i = some (.cells (flatL encH (srt (fun x y : HB => decide (x.1 < y.1)) L)) (some 1025)) → (∀ k, k ≠ i → st'.get k = st.get k) → Q (.tuple #[]) st') :
    Does Tryz.prog 32 [.iface 22 (.slice (some ⟨i, 0, some 1025⟩) n n), .func (.func 33) #[] #[.pointer (some ⟨j, 0, none⟩)]] st Q := by
  by_cases h2 : 2 ≤ n
  · exact ⟨_, _, sort_sim (key := fun x : HB => x.1) encH_len encH_sc encH_key (by decide) (fun lb w blk off c d => img_many lb w blk off c d) (fun W jb jo blk off c size G => img_less W jb jo blk off c size G) hi hj rfl hij hn swo_ltH h2 hsz,
      hq _ (Store.next_put_lt _ _ (Store.lt_of_get hi)) (Store.get_put_same _ _ _) fun k hk => Store.get_put_ne _ _ hk⟩
  · have e : srt (fun x y : HB => decide (x.1 < y.1)) L = L := by
      have hp := srt_perm swo_ltH L
      match L, hn with
      | [], _ => exact List.perm_nil.1 hp
      | [x], _ => exact List.perm_singleton.1 hp
      | _ :: _ :: _, hn => simp at hn; omega
    refine ⟨_, _, tiny_sim (lb := [.pointer (some ⟨j, 0, none⟩)]) (n := n) (fun p c lb w => img_tiny p n c (by omega) lb w) (.inr ⟨_, _, _, _, rfl⟩), hq _ rfl (by rw [e]; exact hi) fun k _ => rfl⟩
theorem img_none {j : Nat} (hq : Q (.tuple #[]) st) : Does Tryz.prog 32 [.iface 22 (.slice none 0 0), .func (.func 33) #[] #[.pointer (some ⟨j, 0, none⟩)]] st Q :=
  ⟨_, _, tiny_sim (lb := [.pointer (some ⟨j, 0, none⟩)]) (n := 0) (fun p c lb w => img_tiny p 0 c (by omega) lb w) (.inl ⟨rfl, rfl⟩), hq⟩
end Go.Proofs.YthojojlgmaoecaaGreat
