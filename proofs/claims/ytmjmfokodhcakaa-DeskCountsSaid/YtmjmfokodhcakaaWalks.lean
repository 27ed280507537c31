import Derived.Test.YtmjmfokodhcakaaRows
import Derived.Test.YtmjmfokodhcakaaPure
import Derived.Deep.QuietTactic
import Derived.BigQuiet
import Derived.WalkSpells
import Derived.Lib.Hide
namespace Go.Proofs.Ytmjmfokodhcakaa
open Go.RowKit Go.Uc

noncomputable def K : UKey Try.prog 3 Int := intKey (q := .i64) Try.underlying3
def E (n : Int) : Value := .int .i64 n
theorem zero3 (w : World) : (zeroValue 3).run Try.prog w = .ok (E 0) w := by kernel_rfl

theorem new_any (most : Int) (w : World) : Calls Try.prog 7 #[.int .i64 most] w fun e w' =>
    e = .returned (.pointer (some ⟨w.heap.size + 1, 0, none⟩)) ∧ w' = (w.alloc (.map #[] 0)).alloc (.cells #[.int .i64 (if most < 0 then 0 else most), .map (some w.heap.size)] 47) := by
  have hmm := @run_makeMap Try.prog
  go_enter Try.func7, Try.ntmps7
  by_cases h : most < 0
  all_goals (go_wp2; go_ret; exact ⟨rfl, rfl⟩)
theorem made_yes (b h : Nat) (w : World) (c1 : w.cell? ⟨b, 1, none⟩ = some (.map (some h))) : Calls Try.prog 20 #[.pointer (some ⟨b, 0, none⟩)] w fun e w' =>
    e = .returned (.bool true) ∧ w = w' := by
  have hn := fun (w : World) => Go.run_neq_map_nil (P := Try.prog) w 45 3 3 (some h) Try.underlying45
  go_enter Try.func20, Try.ntmps20
  go_wp2
  go_ret
  exact ⟨rfl, rfl⟩

structure DeskAt (w : World) (b h : Nat) (most : Int) (m : List (Int × Int)) : Prop where
  row : Row w b 47 #[.int .i64 most, .map (some h)]
  map : IMap K E w h m
section
variable {w w' : World} {b h : Nat} {most : Int} {m : List (Int × Int)}
theorem DeskAt.drewN (d : DeskAt w b h most m) (n : Nat) : DeskAt (w.drewN n) b h most m := ⟨d.row.drewN n, d.map.drewN n⟩
theorem DeskAt.fr {S : List Nat} (d : DeskAt w b h most m) (f : Fr S w w') (hb : b ∉ S) (hh : h ∉ S) : DeskAt w' b h most m := ⟨d.row.fr f hb, d.map.fr f hh⟩
theorem DeskAt.c0 (d : DeskAt w b h most m) : w.cell? ⟨b, 0, none⟩ = some (.int .i64 most) := by rw [d.row.cell]; rfl
theorem DeskAt.c1 (d : DeskAt w b h most m) : w.cell? ⟨b, 1, none⟩ = some (.map (some h)) := by rw [d.row.cell]; rfl
theorem DeskAt.ne (d : DeskAt w b h most m) : b ≠ h := d.row.ne_map d.map
theorem DeskAt.look (d : DeskAt w b h most m) (x : Int) (n : Nat) : (Instr.lookup 45 (.map (some h)) (.int .i64 x) false).run Try.prog (w.drewN n) = .ok (.int .i64 (dc m x)) (w.drewN n) :=
  (d.map.drewN n).run_lookup Try.underlying45 zero3 x
theorem DeskAt.len (d : DeskAt w b h most m) (ty : TypeId) (n : Nat) : (Builtin.len_ #[45] ty #[.map (some h)]).run Try.prog (w.drewN n) = .ok (.int .i64 m.length) (w.drewN n) :=
  (d.map.drewN n).run_len Try.underlying45 ty #[45] rfl
end

def holdS (most : Int) (m : List (Int × Int)) (x : Int) : Int × List (Int × Int) :=
  if x < 1 then (2, m) else if dc m x = 0 ∧ most ≤ m.length then (15, m) else (0, mset m x (dc m x + 1))

theorem hold_arg (b h : Nat) (most x : Int) (m : List (Int × Int)) (w : World) (hD : DeskAt w b h most m) (h1 : x < 1) :
    Calls Try.prog 10 #[.pointer (some ⟨b, 0, none⟩), .int .i64 x] w fun e w' => e = .returned (.int .i64 2) ∧ w = w' := by
  have c1 := hD.c1
  go_enter Try.func10, Try.ntmps10
  go_wp2_with (first | (go_at_call 20; refine (made_yes b h _ c1).mono ?_; rintro e w' ⟨rfl, rfl⟩))
  go_ret
  exact ⟨rfl, rfl⟩
theorem hold_full (b h : Nat) (most x : Int) (m : List (Int × Int)) (w : World) (hD : DeskAt w b h most m) (h1 : 1 ≤ x) (h2 : dc m x = 0) (h3 : most ≤ m.length) :
    Calls Try.prog 10 #[.pointer (some ⟨b, 0, none⟩), .int .i64 x] w fun e w' => e = .returned (.int .i64 15) ∧ ∃ n, w' = w.drewN n := by
  have c0 := hD.c0
  have c1 := hD.c1
  have hl := hD.look x
  have hn := hD.len 3
  rw [h2] at hl; clear h2
  have h3' : decide (most ≤ (m.length : Int)) = true := by simpa using h3
  go_enter Try.func10, Try.ntmps10
  go_wp2_with (first | (go_at_call 20; refine (made_yes b h _ c1).mono ?_; rintro e w' ⟨rfl, rfl⟩) | go_quiet (fail))
  go_ret
  exact ⟨rfl, _, rfl⟩
theorem hold_new (b h : Nat) (most x : Int) (m : List (Int × Int)) (w : World) (hD : DeskAt w b h most m) (h1 : 1 ≤ x) (h2 : dc m x = 0) (h3 : (m.length : Int) < most) :
    Calls Try.prog 10 #[.pointer (some ⟨b, 0, none⟩), .int .i64 x] w fun e w' => e = .returned (.int .i64 0) ∧ DeskAt w' b h most (mset m x 1) ∧ Fr [h] w w' := by
  have c0 := hD.c0
  have c1 := hD.c1
  have hl := hD.look x
  have hn := hD.len 3
  rw [h2] at hl; clear h2
  have h3' : decide (most ≤ (m.length : Int)) = false := by simpa using h3
  go_enter Try.func10, Try.ntmps10
  go_wp2_with (first | (go_at_call 20; refine (made_yes b h _ c1).mono ?_; rintro e w' ⟨rfl, rfl⟩) | go_quiet (fail) | (at_mapUpdate; refine wpList_mapUpdate_imap (K := K) (E := E) rfl _ _ _ rfl Try.underlying45 (hD.map.drewN _) rfl x 1 rfl rfl ?_; intro w1 hm1 hf1))
  go_ret
  have hf : Fr [h] w w1 := (Fr.drewN [h] w nq).trans hf1 (fun x hx _ => hx)
  exact ⟨rfl, ⟨hD.row.fr hf (by simpa using hD.ne), hm1⟩, hf⟩
theorem hold_more (b h : Nat) (most x c : Int) (m : List (Int × Int)) (w : World) (hD : DeskAt w b h most m) (h1 : 1 ≤ x) (hc : dc m x = c) (h3 : 1 ≤ c) (h4 : c ≤ 1000000) :
    Calls Try.prog 10 #[.pointer (some ⟨b, 0, none⟩), .int .i64 x] w fun e w' => e = .returned (.int .i64 0) ∧ DeskAt w' b h most (mset m x (c + 1)) ∧ Fr [h] w w' := by
  have c0 := hD.c0
  have c1 := hD.c1
  have hl := hD.look x
  rw [hc] at hl; clear hc
  have h2' : (c == 0) = false := by simp; omega
  go_enter Try.func10, Try.ntmps10
  go_wp2_with (first | (go_at_call 20; refine (made_yes b h _ c1).mono ?_; rintro e w' ⟨rfl, rfl⟩) | go_quiet (fail) | (at_mapUpdate; refine wpList_mapUpdate_imap (K := K) (E := E) rfl _ _ _ rfl Try.underlying45 (hD.map.drewN _) rfl x (c + 1) rfl rfl ?_; intro w1 hm1 hf1))
  go_ret
  have hf : Fr [h] w w1 := (Fr.drewN [h] w nq).trans hf1 (fun x hx _ => hx)
  exact ⟨rfl, ⟨hD.row.fr hf (by simpa using hD.ne), hm1⟩, hf⟩
/-- what became of a desk -/
def DeskTo (w : World) (b h : Nat) (most : Int) (r : Int × List (Int × Int)) (e : Ending) (w' : World) : Prop := e = .returned (.int .i64 r.1) ∧ DeskAt w' b h most r.2 ∧ Fr [h] w w'
theorem hold_any (b h : Nat) (most x : Int) (m : List (Int × Int)) (w : World) (hD : DeskAt w b h most m) (h3 : 0 ≤ dc m x) (h4 : dc m x ≤ 1000000) :
    Calls Try.prog 10 #[.pointer (some ⟨b, 0, none⟩), .int .i64 x] w (DeskTo w b h most (holdS most m x)) := by
  unfold holdS
  by_cases h1 : x < 1
  · rw [if_pos h1]
    exact (hold_arg b h most x m w hD h1).mono fun e w' ⟨he, hw⟩ => by subst hw; exact ⟨he, hD, Fr.refl _ _⟩
  · rw [if_neg h1]
    by_cases h2 : dc m x = 0
    · by_cases h5 : most ≤ m.length
      · rw [if_pos ⟨h2, h5⟩]
        exact (hold_full b h most x m w hD (by omega) h2 h5).mono fun e w' ⟨he, n, hw⟩ => by subst hw; exact ⟨he, hD.drewN n, Fr.drewN _ _ _⟩
      · rw [if_neg (fun e => h5 e.2), h2]
        exact hold_new b h most x m w hD (by omega) h2 (by omega)
    · rw [if_neg (fun e => h2 e.1)]
      exact hold_more b h most x _ m w hD (by omega) rfl (by omega) h4

theorem holds_any (b h : Nat) (most x : Int) (m : List (Int × Int)) (w : World) (hD : DeskAt w b h most m) :
    Calls Try.prog 13 #[.pointer (some ⟨b, 0, none⟩), .int .i64 x] w fun e w' => e = .returned (.int .i64 (dc m x)) ∧ w = w' := by
  have c1 := hD.c1
  have hl := hD.look x 0
  rw [World.drewN_zero] at hl
  go_enter Try.func13, Try.ntmps13
  go_wp2_with (first | (go_at_call 20; refine (made_yes b h _ c1).mono ?_; rintro e w' ⟨rfl, rfl⟩))
  go_ret
  exact ⟨rfl, rfl⟩
theorem len_any (b h : Nat) (most : Int) (m : List (Int × Int)) (w : World) (hD : DeskAt w b h most m) :
    Calls Try.prog 14 #[.pointer (some ⟨b, 0, none⟩)] w fun e w' => e = .returned (.int .i64 m.length) ∧ w = w' := by
  have c1 := hD.c1
  have hl := hD.len 3 0
  rw [World.drewN_zero] at hl
  go_enter Try.func14, Try.ntmps14
  go_wp2_with (first | (go_at_call 20; refine (made_yes b h _ c1).mono ?_; rintro e w' ⟨rfl, rfl⟩))
  go_ret
  exact ⟨rfl, rfl⟩
theorem full_any (b h : Nat) (most : Int) (m : List (Int × Int)) (w : World) (hD : DeskAt w b h most m) :
    Calls Try.prog 11 #[.pointer (some ⟨b, 0, none⟩)] w fun e w' => e = .returned (.bool (decide (most ≤ m.length))) ∧ ∃ n, w' = w.drewN n := by
  have c0 := hD.c0
  have c1 := hD.c1
  have hl := hD.len 3
  go_enter Try.func11, Try.ntmps11
  go_wp2_with (first | go_quiet ((go_at_call 20; exact Calls.quiet_of_same ((made_yes b h _ (by exact c1)).mono fun _ _ ⟨a, b⟩ => ⟨a, b.symm⟩))))
  go_ret
  exact ⟨rfl, _, rfl⟩

/-- without the last hold: 'Drop' -/
def dropS (m : List (Int × Int)) (x : Int) : Bool × Int × List (Int × Int) :=
  if dc m x = 0 then (false, 2, m) else if 1 < dc m x then (false, 0, mset m x (dc m x - 1)) else (true, 0, mdel (mset m x (dc m x - 1)) x)
theorem drop_arg (b h : Nat) (most x : Int) (m : List (Int × Int)) (w : World) (hD : DeskAt w b h most m) (h2 : dc m x = 0) :
    Calls Try.prog 12 #[.pointer (some ⟨b, 0, none⟩), .int .i64 x] w fun e w' => e = .returned (.tuple #[.bool false, .int .i64 2]) ∧ w = w' := by
  have c1 := hD.c1
  have hl := hD.look x 0
  rw [World.drewN_zero, h2] at hl; clear h2
  go_enter Try.func12, Try.ntmps12
  go_wp2_with (first | (go_at_call 20; refine (made_yes b h _ c1).mono ?_; rintro e w' ⟨rfl, rfl⟩))
  go_ret2
  exact ⟨rfl, rfl⟩
theorem drop_more (b h : Nat) (most x c : Int) (m : List (Int × Int)) (w : World) (hD : DeskAt w b h most m) (h2 : dc m x = c) (hc : 1 < c) (hc' : c ≤ 1000000) :
    Calls Try.prog 12 #[.pointer (some ⟨b, 0, none⟩), .int .i64 x] w fun e w' => e = .returned (.tuple #[.bool false, .int .i64 0]) ∧ DeskAt w' b h most (mset m x (c - 1)) ∧ Fr [h] w w' := by
  have c1 := hD.c1
  have hl := hD.look x 0
  rw [World.drewN_zero, h2] at hl; clear h2
  have h2' : (c == 0) = false := by simp; omega
  go_enter Try.func12, Try.ntmps12
  go_wp2_with (first | (go_at_call 20; refine (made_yes b h _ c1).mono ?_; rintro e w' ⟨rfl, rfl⟩) | (at_mapUpdate; refine wpList_mapUpdate_imap (K := K) (E := E) rfl _ _ _ rfl Try.underlying45 hD.map rfl x (c - 1) rfl rfl ?_; intro w1 hm1 hf1; have hD1 : DeskAt w1 b h most (mset m x (c - 1)) := ⟨hD.row.fr hf1 (by simpa using hD.ne), hm1⟩; have c1' := hD1.c1; have hl1 := hD1.look x 0; rw [World.drewN_zero, show dc (mset m x (c - 1)) x = c - 1 from by simp [dc, mget_mset]] at hl1))
  go_ret2
  exact ⟨rfl, hD1, hf1⟩
theorem drop_last (b h : Nat) (most x : Int) (m : List (Int × Int)) (w : World) (hD : DeskAt w b h most m) (h2 : dc m x = 1) :
    Calls Try.prog 12 #[.pointer (some ⟨b, 0, none⟩), .int .i64 x] w fun e w' => e = .returned (.tuple #[.bool true, .int .i64 0]) ∧ DeskAt w' b h most (mdel (mset m x 0) x) ∧ Fr [h] w w' := by
  have c1 := hD.c1
  have hl := hD.look x 0
  rw [World.drewN_zero, h2] at hl; clear h2
  go_enter Try.func12, Try.ntmps12
  go_wp2_with (first | (go_at_call 20; refine (made_yes b h _ c1).mono ?_; rintro e w' ⟨rfl, rfl⟩) | (at_mapUpdate; refine wpList_mapUpdate_imap (K := K) (E := E) rfl _ _ _ rfl Try.underlying45 hD.map rfl x 0 rfl rfl ?_; intro w1 hm1 hf1; have hD1 : DeskAt w1 b h most (mset m x 0) := ⟨hD.row.fr hf1 (by simpa using hD.ne), hm1⟩; have c1' := hD1.c1; have hl1 := hD1.look x 0; rw [World.drewN_zero, show dc (mset m x 0) x = 0 from by simp [dc, mget_mset]] at hl1) | (at_delete; refine wpList_delete_imap (K := K) (E := E) rfl _ _ _ rfl rfl Try.underlying45 hD1.map rfl x rfl ?_; intro w2 hm2 hf2))
  go_ret2
  exact ⟨rfl, ⟨hD1.row.fr hf2 (by simpa using hD.ne), hm2⟩, hf1.trans hf2 (fun x hx _ => hx)⟩
theorem tmod_facts (i n : Int) (hn : 1 ≤ n) : -n < i.tmod n ∧ i.tmod n < n ∧ i % n = if i.tmod n < 0 then i.tmod n + n else i.tmod n := by
  have h1 := Int.tmod_lt_of_pos i (by omega : 0 < n)
  have h2 := Int.emod_nonneg i (by omega : n ≠ 0)
  have h3 := Int.emod_lt_of_pos i (by omega : 0 < n)
  have h4 : -n < i.tmod n := by
    have h := Int.tmod_lt_of_pos (-i) (by omega : 0 < n)
    rw [Int.neg_tmod] at h; omega
  refine ⟨h4, h1, ?_⟩
  have h5 := Int.tmod_add_mul_tdiv i n
  have h6 : (i.tmod n + n * i.tdiv n) % n = i.tmod n % n := Int.add_mul_emod_self_left _ _ _
  rw [h5] at h6
  split
  · rename_i h
    rw [h6, ← Int.add_emod_right]
    exact Int.emod_eq_of_lt (by omega) (by omega)
  · rename_i h
    rw [h6]
    exact Int.emod_eq_of_lt (by omega) (by omega)
/-- 'Pick', n above 0: a number from 0 to n - 1 -/
theorem pick_any (i n : Int) (w : World) (hn : 1 ≤ n) (hn' : n ≤ 1000000) :
    Calls Try.prog 9 #[.int .i64 i, .int .i64 n] w fun e w' => e = .returned (.int .i64 (i % n)) ∧ w = w' := by
  obtain ⟨h1, h2, h3⟩ := tmod_facts i n hn
  have H := Lib.hid h3; clear h3
  have hb : (n == 0) = false := by simp; omega
  by_cases h : i.tmod n < 0
  · go_enter Try.func9, Try.ntmps9
    go_wp2
    go_ret
    exact ⟨by rw [H.out, if_pos h]; rfl, rfl⟩
  · go_enter Try.func9, Try.ntmps9
    go_wp2
    go_ret
    exact ⟨by rw [H.out, if_neg (by omega)]; rfl, rfl⟩

theorem hold_at {r1 : Int} {r2 : List (Int × Int)} (b h : Nat) (most x : Int) (m : List (Int × Int)) (w : World) (hD : DeskAt w b h most m) (h3 : 0 ≤ dc m x) (h4 : dc m x ≤ 1000000) (hr : holdS most m x = (r1, r2)) :
    Calls Try.prog 10 #[.pointer (some ⟨b, 0, none⟩), .int .i64 x] w fun e w' => e = .returned (.int .i64 r1) ∧ DeskAt w' b h most r2 ∧ Fr [h] w w' := by
  have := hold_any b h most x m w hD h3 h4
  rw [hr] at this
  exact this
def DropTo (w : World) (b h : Nat) (most : Int) (r : Bool × Int × List (Int × Int)) (e : Ending) (w' : World) : Prop := e = .returned (.tuple #[.bool r.1, .int .i64 r.2.1]) ∧ DeskAt w' b h most r.2.2 ∧ Fr [h] w w'
theorem drop_any (b h : Nat) (most x : Int) (m : List (Int × Int)) (w : World) (hD : DeskAt w b h most m) (h3 : 0 ≤ dc m x) (h4 : dc m x ≤ 1000000) :
    Calls Try.prog 12 #[.pointer (some ⟨b, 0, none⟩), .int .i64 x] w (DropTo w b h most (dropS m x)) := by
  unfold dropS
  by_cases h1 : dc m x = 0
  · rw [if_pos h1]
    exact (drop_arg b h most x m w hD h1).mono fun e w' ⟨he, hw⟩ => by subst hw; exact ⟨he, hD, Fr.refl _ _⟩
  · rw [if_neg h1]
    by_cases h2 : 1 < dc m x
    · rw [if_pos h2]
      exact drop_more b h most x _ m w hD rfl h2 h4
    · rw [if_neg h2]
      have h5 : dc m x = 1 := by omega
      rw [h5]
      exact drop_last b h most x m w hD h5
theorem drop_at {r1 : Bool} {r2 : Int} {r3 : List (Int × Int)} (b h : Nat) (most x : Int) (m : List (Int × Int)) (w : World) (hD : DeskAt w b h most m) (h3 : 0 ≤ dc m x) (h4 : dc m x ≤ 1000000) (hr : dropS m x = (r1, r2, r3)) :
    Calls Try.prog 12 #[.pointer (some ⟨b, 0, none⟩), .int .i64 x] w fun e w' => e = .returned (.tuple #[.bool r1, .int .i64 r2]) ∧ DeskAt w' b h most r3 ∧ Fr [h] w w' := by
  have := drop_any b h most x m w hD h3 h4
  rw [hr] at this
  exact this
theorem desk_new (most : Int) (w : World) : DeskAt ((w.alloc (.map #[] 0)).alloc (.cells #[.int .i64 most, .map (some w.heap.size)] 47)) (w.heap.size + 1) w.heap.size most [] :=
  ⟨by have := Row.new (w.alloc (.map #[] 0)) 47 #[.int .i64 most, .map (some w.heap.size)]; simpa using this, (IMap.made K E w).alloc _⟩

theorem lives_any (w : World) : Calls Try.prog 8 #[] w fun e w' => e = .returned (.bool true) ∧ Fr [] w w' := by
  go_enter Try.func8, Try.ntmps8
  go_wp2_with fail
  refine (new_any 2 w).mono ?_; rintro e w1 ⟨rfl, hw1⟩
  have hD := desk_new 2 w
  rw [if_neg (by omega)] at hw1
  rw [← hw1] at hD
  have hF : Fr [] w w1 := by rw [hw1]; exact (Fr.alloc [] w _).trans (Fr.alloc [] _ _) (by simp)
  clear hw1
  generalize hb : w.heap.size + 1 = b at *
  have Hb := Lib.hid hb; clear hb
  go_wp2_with fail
  refine (hold_at _ _ _ _ _ _ hD (by decide) (by decide) (r1 := 0) (r2 := [(5, 1)]) (by decide)).mono ?_; rintro e w2 ⟨rfl, hD2, hF2⟩
  go_wp2_with fail
  refine (hold_at _ _ _ _ _ _ hD2 (by decide) (by decide) (r1 := 0) (r2 := [(5, 2)]) (by decide)).mono ?_; rintro e w3 ⟨rfl, hD3, hF3⟩
  go_wp2_with fail
  refine (hold_at _ _ _ _ _ _ hD3 (by decide) (by decide) (r1 := 0) (r2 := [(5, 2), (7, 1)]) (by decide)).mono ?_; rintro e w4 ⟨rfl, hD4, hF4⟩
  go_wp2_with fail
  refine (hold_at _ _ _ _ _ _ hD4 (by decide) (by decide) (r1 := 15) (r2 := [(5, 2), (7, 1)]) (by decide)).mono ?_; rintro e w5 ⟨rfl, hD5, hF5⟩
  go_wp2_with fail
  refine (drop_at _ _ _ _ _ _ hD5 (by decide) (by decide) (r1 := false) (r2 := 0) (r3 := [(5, 1), (7, 1)]) (by decide)).mono ?_; rintro e w6 ⟨rfl, hD6, hF6⟩
  go_wp2_with fail
  refine (drop_at _ _ _ _ _ _ hD6 (by decide) (by decide) (r1 := true) (r2 := 0) (r3 := [(7, 1)]) (by decide)).mono ?_; rintro e w7 ⟨rfl, hD7, hF7⟩
  go_wp2_with fail
  refine (hold_at _ _ _ _ _ _ hD7 (by decide) (by decide) (r1 := 0) (r2 := [(7, 1), (9, 1)]) (by decide)).mono ?_; rintro e w8 ⟨rfl, hD8, hF8⟩
  go_wp2_with fail
  refine (holds_any _ _ _ _ _ _ hD8).mono ?_; rintro e w9 ⟨rfl, rfl⟩
  rw [show dc [(7, 1), (9, 1)] 7 = 1 from by decide]
  go_wp2_with fail
  refine (len_any _ _ _ _ _ hD8).mono ?_; rintro e w9 ⟨rfl, rfl⟩
  go_wp2_with fail
  go_ret
  refine ⟨rfl, ?_⟩
  have := ((((((hF2.trans hF3 (fun _ h _ => h)).trans hF4 (fun _ h _ => h)).trans hF5 (fun _ h _ => h)).trans hF6 (fun _ h _ => h)).trans hF7 (fun _ h _ => h)).trans hF8 (fun _ h _ => h))
  exact hF.trans this (by intro x hx hx'; simp at hx; omega)
end Go.Proofs.Ytmjmfokodhcakaa
