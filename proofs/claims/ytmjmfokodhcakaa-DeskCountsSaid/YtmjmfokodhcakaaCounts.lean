import Derived.Test.YtmjmfokodhcakaaWalks
import Derived.Deep.DeepCutAuto
import Derived.Deep.LoopGhost
namespace Go.Proofs.Ytmjmfokodhcakaa
open Go.RowKit Go.Uc

def ints (l : List Int) : Array Value := (l.map (Value.int .i64)).toArray
theorem ints_cell {w : World} {g : Nat} {l : List Int} (h : Row w g 3 (ints l)) (j : Nat) (hj : j < l.length) : w.cell? ⟨g, j, none⟩ = some (.int .i64 (l.getD j 0)) := by
  rw [h.cell]; simp [ints, hj]
theorem ints_set {w : World} {g : Nat} {l : List Int} (h : Row w g 3 (ints l)) (j : Nat) (v : Int) : Row (w.setCell ⟨g, j, none⟩ (.int .i64 v)) g 3 (ints (l.set j v)) := by
  have := h.set_ j (.int .i64 v)
  simpa [ints] using this

def zs20 : List Int := List.replicate 20 0
def Acts (w : World) (a : Option Addr) (len : Nat) (C N : Nat → Int) : Prop :=
  ∀ k, k < len → ∃ ab ao, a = some ⟨ab, ao, none⟩ ∧ ab < w.heap.size ∧ w.cell? ⟨ab, ao + k * 2, none⟩ = some (.int .i64 (C k)) ∧ w.cell? ⟨ab, ao + k * 2 + 1, none⟩ = some (.int .i64 (N k))

set_option maxRecDepth 100000 in
set_option maxHeartbeats 2000000 in
theorem counts_any (many : Int) (a : Option Addr) (len cap : Nat) (C N : Nat → Int) (w : World) (hA : Acts w a len C N) (hl : len ≤ 300) :
    Calls Try.prog 3 #[.int .i64 many, .slice a len cap] w fun e w' => e = .returned (.bool true) ∧ Fr [] w w' := by
  have hmk : ∀ w, (Instr.makeSlice 26 (.int .i64 20) (.int .i64 20)).run Try.prog w = .ok (.slice (some ⟨w.heap.size, 0, none⟩) 20 20) (w.alloc (.cells (ints zs20) 3)) := fun _ => by kernel_rfl
  have HA := Lib.hid hA; clear hA
  go_enter Try.func3, Try.ntmps3
  go_wp2_with fail
  refine (new_any many w).mono ?_; rintro e w1 ⟨rfl, hw1⟩
  obtain ⟨most, hm⟩ : ∃ most, most = (if many < 0 then 0 else many) := ⟨_, rfl⟩
  rw [← hm] at hw1
  have hD := desk_new most w
  rw [← hw1] at hD
  have hF : Fr [] w w1 := by rw [hw1]; exact (Fr.alloc [] w _).trans (Fr.alloc [] _ _) (by simp)
  clear hw1
  generalize hb : w.heap.size + 1 = b at *
  generalize hh : w.heap.size = h at *
  have Hm := Lib.hid hm; clear hm
  have Hb := Lib.hid hb; clear hb
  have Hh := Lib.hid hh; clear hh
  go_wp2_with fail
  refine (lives_any w1).mono ?_; rintro e w2 ⟨rfl, hF2⟩
  have hD2 := hD.fr hF2 (by simp) (by simp)
  have hF02 := hF.trans hF2 (by simp)
  clear hF hF2 hD
  have hgt : decide (300 < (len : Int)) = false := by simp; omega
  go_wp2_with fail
  have hR := Row.new w2 3 (ints zs20)
  obtain ⟨w3, hw3⟩ : ∃ w3, w3 = w2.alloc (.cells (ints zs20) 3) := ⟨_, rfl⟩
  have hD3 := hD2.fr (Fr.alloc [] w2 (.cells (ints zs20) 3)) (by simp) (by simp)
  have hF3 := hF02.trans (Fr.alloc [] w2 (.cells (ints zs20) 3)) (by simp)
  have hgg := Nat.le_refl w2.heap.size
  have hbg := hD2.row.lt
  have hhg := hD2.map.lt
  have hwg : w.heap.size ≤ w2.heap.size := hF02.size
  rw [← hw3] at hR hD3 hF3 ⊢
  clear hw3 hgg hD2 hF02
  generalize w2.heap.size = g at *
  clear hgt
  go_loopg [7] len (fun gk i wr => ∃ (k : Nat) (m : List (Int × Int)) (l : List Int), i = .int .i64 k ∧ k ≤ len ∧ gk = len - k ∧ DeskAt wr b h most m ∧ Row wr g 3 (ints l) ∧ Inv most m l k ∧ Fr [] w wr)
  case atStart => exact ⟨0, [], zs20, rfl, by omega, by omega, hD3, hR, Inv.start (by have := Hm.out; split at this <;> omega) 0, hF3⟩
  case round =>
    clear hR hD3 hF3
    obtain ⟨k, m, l, rfl, hk, hgk, hD, hR, hI, hF⟩ := hrel
    have Hgk := Lib.hid hgk; clear hgk
    by_cases hlt : k < len
    · obtain ⟨ab, ao, rfl, hab, ha0, ha1⟩ := HA.out k hlt
      rw [← hF.cell (a := ⟨ab, ao + k * 2, none⟩) hab (by simp)] at ha0
      rw [← hF.cell (a := ⟨ab, ao + k * 2 + 1, none⟩) hab (by simp)] at ha1
      go_wp2_with fail
      refine (pick_any _ _ _ (by omega) (by omega)).mono ?_; rintro e w4 ⟨rfl, rfl⟩
      obtain ⟨j, hj⟩ : ∃ j : Nat, N k % 19 = (j : Int) := ⟨(N k % 19).toNat, by have := Int.emod_nonneg (N k) (show (19 : Int) ≠ 0 by decide); omega⟩
      have hj19 : j < 19 := by have := Int.emod_lt_of_pos (N k) (show (0 : Int) < 19 by decide); omega
      rw [hj]; clear hj
      go_upto_if 45 with (fail)
      go_cut [] (fun wx => ∃ (m' : List (Int × Int)) (l' : List Int), DeskAt wx b h most m' ∧ Row wx g 3 (ints l') ∧ Inv most m' l' (k + 1) ∧ Fr [] w wx)
      case first =>
        clear ha0 ha1
        have hgh : g ≠ h := hR.ne_map hD.map
        obtain ⟨c, hc⟩ : ∃ c, c = l.getD (j + 1) 0 := ⟨_, rfl⟩
        have hdc : dc m ((j : Int) + 1) = c := by have := hI.dc_eq (j + 1) (by omega); rw [hc, ← this]; rfl
        have hcl : 0 ≤ c := by rw [hc]; exact hI.low _
        have hch : c ≤ (k : Int) := by rw [hc]; exact hI.high _
        have hj20 : j + 1 < l.length := by rw [hI.len]; omega
        have hcell := ints_cell hR (j + 1) hj20
        rw [← hc] at hcell
        have hfz : wr.frozen? ⟨g, j + 1, none⟩ = false := hR.frozen _
        have hgw := hR.lt
        have Hc := Lib.hid hc; clear hc
        have Hdc := Lib.hid hdc; clear hdc
        by_cases hcall : (C k).tmod 2 = 0
        · have hcall' : ((C k).tmod 2 == 0) = true := by simpa using hcall
          have Hcall := Lib.hid hcall; clear hcall
          by_cases hc0 : c = 0
          · by_cases hfull : most ≤ m.length
            · have hfull' : decide (most ≤ (m.length : Int)) = true := by simpa using hfull
              go_wp2_with fail
              refine (hold_full b h most _ m _ hD (by omega) (Hdc.out.trans hc0) hfull).mono ?_; rintro e w5 ⟨rfl, n5, rfl⟩
              subst hc0
              go_wp2_with fail
              refine (full_any b h most m _ (hD.drewN n5)).mono ?_; rintro e w6 ⟨rfl, n6, rfl⟩
              go_wp2_with fail
              go_meet
              exact ⟨m, l, hD.drewN _, hR.drewN _, hI.more, hF.trans (Fr.drewN [] wr (n5 + n6)) (by simp)⟩
            · go_wp2_with fail
              refine (hold_new b h most _ m _ hD (by omega) (Hdc.out.trans hc0) (by omega)).mono ?_; rintro e w5 ⟨rfl, hD5, hF5⟩
              have hR5 := hR.fr hF5 (by simpa using hgh)
              rw [← hF5.cell (a := ⟨g, j + 1, none⟩) hgw (by simpa using hgh)] at hcell
              rw [← hF5.frozen (a := ⟨g, j + 1, none⟩) hgw (by simpa using hgh)] at hfz
              subst hc0
              go_wp2_with fail
              go_meet
              refine ⟨mset m ((j : Int) + 1) 1, l.set (j + 1) (1), hD5.fr (Fr.setCell w5 _ _) (by simp; omega) (by simp; omega), ints_set hR5 (j + 1) (1), hI.set (j + 1) (by omega) (by omega) 1 (by omega) (by omega) (.inr (by omega)), ?_⟩
              exact (hF.trans hF5 (by intro x hx hx'; have := Hh.out; simp at hx; omega)).trans (Fr.setCell w5 _ _) (by intro x hx hx'; simp at hx; omega)
          · go_wp2_with fail
            refine (hold_more b h most _ c m _ hD (by omega) Hdc.out (by omega) (by omega)).mono ?_; rintro e w5 ⟨rfl, hD5, hF5⟩
            have hR5 := hR.fr hF5 (by simpa using hgh)
            rw [← hF5.cell (a := ⟨g, j + 1, none⟩) hgw (by simpa using hgh)] at hcell
            rw [← hF5.frozen (a := ⟨g, j + 1, none⟩) hgw (by simpa using hgh)] at hfz
            go_wp2_with fail
            go_meet
            refine ⟨mset m ((j : Int) + 1) (c + 1), l.set (j + 1) (c + 1), hD5.fr (Fr.setCell w5 _ _) (by simp; omega) (by simp; omega), ints_set hR5 (j + 1) (c + 1), hI.set (j + 1) (by omega) (by omega) (c + 1) (by omega) (by omega) (.inl (by rw [← Hc.out]; omega)), ?_⟩
            exact (hF.trans hF5 (by intro x hx hx'; have := Hh.out; simp at hx; omega)).trans (Fr.setCell w5 _ _) (by intro x hx hx'; simp at hx; omega)
        · have hcall' : ((C k).tmod 2 == 0) = false := by simpa using hcall
          have Hcall := Lib.hid hcall; clear hcall
          by_cases hc0 : c = 0
          · go_wp2_with fail
            refine (drop_arg b h most _ m _ hD (Hdc.out.trans hc0)).mono ?_; rintro e w5 ⟨rfl, rfl⟩
            subst hc0
            go_wp2_with fail
            go_meet
            exact ⟨m, l, hD, hR, hI.more, hF⟩
          · by_cases hc1 : c = 1
            · go_wp2_with fail
              refine (drop_last b h most _ m _ hD (Hdc.out.trans hc1)).mono ?_; rintro e w5 ⟨rfl, hD5, hF5⟩
              have hR5 := hR.fr hF5 (by simpa using hgh)
              rw [← hF5.cell (a := ⟨g, j + 1, none⟩) hgw (by simpa using hgh)] at hcell
              rw [← hF5.frozen (a := ⟨g, j + 1, none⟩) hgw (by simpa using hgh)] at hfz
              subst hc1
              go_wp2_with fail
              go_meet
              refine ⟨mdel (mset m ((j : Int) + 1) 0) ((j : Int) + 1), l.set (j + 1) (0), hD5.fr (Fr.setCell w5 _ _) (by simp; omega) (by simp; omega), ints_set hR5 (j + 1) (0), hI.del hD.map.nodup (j + 1) (by omega) (by omega) (by rw [← Hc.out]; omega), ?_⟩
              exact (hF.trans hF5 (by intro x hx hx'; have := Hh.out; simp at hx; omega)).trans (Fr.setCell w5 _ _) (by intro x hx hx'; simp at hx; omega)
            · go_wp2_with fail
              refine (drop_more b h most _ c m _ hD Hdc.out (by omega) (by omega)).mono ?_; rintro e w5 ⟨rfl, hD5, hF5⟩
              have hR5 := hR.fr hF5 (by simpa using hgh)
              rw [← hF5.cell (a := ⟨g, j + 1, none⟩) hgw (by simpa using hgh)] at hcell
              rw [← hF5.frozen (a := ⟨g, j + 1, none⟩) hgw (by simpa using hgh)] at hfz
              go_wp2_with fail
              go_meet
              refine ⟨mset m ((j : Int) + 1) (c - 1), l.set (j + 1) (c - 1), hD5.fr (Fr.setCell w5 _ _) (by simp; omega) (by simp; omega), ints_set hR5 (j + 1) (c - 1), hI.set (j + 1) (by omega) (by omega) (c - 1) (by omega) (by omega) (.inl (by rw [← Hc.out]; omega)), ?_⟩
              exact (hF.trans hF5 (by intro x hx hx'; have := Hh.out; simp at hx; omega)).trans (Fr.setCell w5 _ _) (by intro x hx hx'; simp at hx; omega)
      case rest =>
        clear hD hR hI hF ha0 ha1
        obtain ⟨m', l', hD, hR, hI, hF⟩ := hcut
        clear m l
        have hlen20 := hI.len
        have hone := cnt_take_one hI
        have H1 := Lib.hid hone; clear hone
        have H2 := Lib.hid hlen20; clear hlen20
        go_wp2_with fail
        go_loopg [12, 13] 19 (fun gk2 u v wr => ∃ (q : Nat), u = .int .i64 (cnt (l'.take q)) ∧ v = .int .i64 q ∧ 1 ≤ q ∧ q ≤ 20 ∧ gk2 = 20 - q ∧ DeskAt wr b h most m' ∧ Row wr g 3 (ints l') ∧ Fr [] w wr)
        case atStart => exact ⟨1, by rw [H1.out]; rfl, rfl, by omega, by omega, by omega, hD, hR, hF⟩
        case round =>
          clear hD hR hF
          obtain ⟨q, rfl, rfl, hq1, hq2, hgk2, hD, hR, hF⟩ := hrel
          have Hgk2 := Lib.hid hgk2; clear hgk2
          by_cases hq : q < 20
          · obtain ⟨c, hc⟩ : ∃ c, c = l'.getD q 0 := ⟨_, rfl⟩
            have hcell := ints_cell hR q (by rw [H2.out]; exact hq)
            have hdc : dc m' (q : Int) = c := by rw [hc]; exact hI.dc_eq q hq1
            have hs := cnt_take_succ l' q (by rw [H2.out]; exact hq)
            have hle := cnt_le l' q
            rw [← hc] at hcell hs
            have Hs := Lib.hid hs; clear hs
            have Hc := Lib.hid hc; clear hc
            have hcc : (c != c) = false := by simp
            have HH : Hid (∀ n, Calls Try.prog 13 #[.pointer (some ⟨b, 0, none⟩), .int .i64 (q : Int)] (wr.drewN n) fun e w' => e = .returned (.int .i64 c) ∧ w' = wr.drewN n) := fun n => (holds_any b h most _ m' _ (hD.drewN n)).mono fun _ _ ⟨a, b⟩ => by rw [hdc] at a; exact ⟨a, b.symm⟩
            have Hdc := Lib.hid hdc; clear hdc
            by_cases hpos : 0 < c
            · go_wp2_with fail
              go_quiet ((go_at_call 13; exact Calls.quiet_of_same (HH.out _)))
              go_wp2_with fail
              go_roundg (20 - (q + 1))
              case measure => have := Hgk2.out; omega
              case rel => exact ⟨q + 1, by rw [Hs.out, if_pos hpos]; rfl, rfl, by omega, by omega, rfl, hD.drewN _, hR.drewN _, hF.trans (Fr.drewN [] _ _) (by simp)⟩
            · go_wp2_with fail
              go_quiet ((go_at_call 13; exact Calls.quiet_of_same (HH.out _)))
              go_wp2_with fail
              go_roundg (20 - (q + 1))
              case measure => have := Hgk2.out; omega
              case rel => exact ⟨q + 1, by rw [Hs.out, if_neg (by omega)]; rfl, rfl, by omega, by omega, rfl, hD.drewN _, hR.drewN _, hF.trans (Fr.drewN [] _ _) (by simp)⟩
          · obtain rfl : q = 20 := by omega
            have hsz : cnt (l'.take 20) = m'.length := by rw [List.take_of_length_le (by rw [H2.out]; omega)]; exact hI.size.symm
            have hmost := hI.most
            rw [hsz]; clear hsz
            have hlen := len_any b h most m' wr hD
            have hfull := fun n => full_any b h most m' _ (hD.drewN n)
            obtain ⟨L, hL⟩ : ∃ L, L = m'.length := ⟨_, rfl⟩
            rw [← hL] at hlen hfull hmost ⊢
            have Hlen := Lib.hid hlen; clear hlen
            have Hfull := Lib.hid hfull; clear hfull
            clear hL
            have hm := Hm.out
            by_cases hmany : many < 0
            · rw [if_pos hmany] at hm; subst hm
              have hfin : (decide ((0 : Int) ≤ (L : Int)) != ((L : Int) == 0)) = false := by
                have h0 : L = 0 := by omega
                subst h0; rfl
              go_wp2_with fail
              refine Hlen.out.mono ?_; rintro e w6 ⟨rfl, rfl⟩
              go_wp2_with fail
              refine (Hfull.out 0).mono ?_; rintro e w7 ⟨rfl, n7, rfl⟩
              go_wp2_with fail
              go_roundg (len - (k + 1))
              case measure => have := Hgk.out; omega
              case rel => exact ⟨k + 1, m', l', rfl, by omega, rfl, hD.drewN _, hR.drewN _, hI, hF.trans (Fr.drewN [] _ _) (by simp)⟩
            · rw [if_neg hmany] at hm; subst hm
              by_cases hh : (L : Int) = most
              · have h1 : decide (most ≤ (L : Int)) = true := by simp; omega
                have h2 : ((L : Int) == most) = true := by simpa using hh
                have Hh' := Lib.hid hh; clear hh
                go_wp2_with fail
                refine Hlen.out.mono ?_; rintro e w6 ⟨rfl, rfl⟩
                go_wp2_with fail
                refine (Hfull.out 0).mono ?_; rintro e w7 ⟨rfl, n7, rfl⟩
                go_wp2_with fail
                go_roundg (len - (k + 1))
                case measure => have := Hgk.out; omega
                case rel => exact ⟨k + 1, m', l', rfl, by omega, rfl, hD.drewN _, hR.drewN _, hI, hF.trans (Fr.drewN [] _ _) (by simp)⟩
              · have h1 : decide (most ≤ (L : Int)) = false := by simp; omega
                have h2 : ((L : Int) == most) = false := by simpa using hh
                have Hh' := Lib.hid hh; clear hh
                go_wp2_with fail
                refine Hlen.out.mono ?_; rintro e w6 ⟨rfl, rfl⟩
                go_wp2_with fail
                refine (Hfull.out 0).mono ?_; rintro e w7 ⟨rfl, n7, rfl⟩
                go_wp2_with fail
                go_roundg (len - (k + 1))
                case measure => have := Hgk.out; omega
                case rel => exact ⟨k + 1, m', l', rfl, by omega, rfl, hD.drewN _, hR.drewN _, hI, hF.trans (Fr.drewN [] _ _) (by simp)⟩
    · go_wp2_with fail
      go_ret
      exact ⟨rfl, hF⟩

set_option maxRecDepth 100000 in
theorem counts_large (many : Int) (a : Option Addr) (len cap : Nat) (w : World) (hl : 300 < len) :
    Calls Try.prog 3 #[.int .i64 many, .slice a len cap] w fun e w' => e = .returned (.bool true) ∧ Fr [] w w' := by
  have hgt : decide (300 < (len : Int)) = true := by simp; omega
  go_enter Try.func3, Try.ntmps3
  go_wp2_with fail
  refine (new_any many w).mono ?_; rintro e w1 ⟨rfl, hw1⟩
  have hF : Fr [] w w1 := by rw [hw1]; exact (Fr.alloc [] w _).trans (Fr.alloc [] _ _) (by simp)
  clear hw1
  go_wp2_with fail
  refine (lives_any w1).mono ?_; rintro e w2 ⟨rfl, hF2⟩
  go_wp2_with fail
  go_ret
  exact ⟨rfl, hF.trans hF2 (by simp)⟩
end Go.Proofs.Ytmjmfokodhcakaa
