/- What mkfs does to a disk, as writes and barriers. No program in sight. -/
import Derived.Test.YtchfpepbdnjhmaaMake
import Derived.Test.YtchfpepbdnjhmaaDks
set_option linter.all false
set_option maxRecDepth 100000
set_option maxHeartbeats 400000
namespace Go.Proofs.Ytchfpepbdnjhmaa
open Go.Am
variable {s : DS} {g : Geo} {m n : Nat} {f h : Int → Option (List Int)}
/-! ## runs are writes -/
def wOps : Int → List (List Int) → List HB
  | _, [] => []
  | a, b :: bs => (a, b) :: wOps (a + 1) bs
def wl : List (Int × List (List Int)) → List HB
  | [] => []
  | (a, bs) :: r => wOps a bs ++ wl r
def opsW (l : List HB) : List DOp := l.map fun p => .w p.1 p.2
theorem opsW_app (a b : List HB) : opsW (a ++ b) = opsW a ++ opsW b := by simp [opsW]
theorem wRun_run {k : DS → Int × DS} {ops : List DOp} (hk : ∀ s, k s = s.run ops) : ∀ (bs : List (List Int)) (a : Int) (s : DS), wRun k bs a s = s.run (opsW (wOps a bs) ++ ops)
  | [], a, s => hk s
  | b :: bs, a, s => by
    show (if (s.write a b).1 = 0 then wRun k bs (a + 1) (s.write a b).2 else (3, (s.write a b).2)) = (if (s.op (.w a b)).1 = 0 then (s.op (.w a b)).2.run (opsW (wOps (a + 1) bs) ++ ops) else (3, (s.op (.w a b)).2))
    rw [wRun_run hk bs]
    rfl
theorem layR_run : ∀ (rs : List (Int × List (List Int))) (s : DS), layR rs s = s.run (opsW (wl rs) ++ [.bar])
  | [], s => rfl
  | (a, bs) :: r, s => by
    show wRun (layR r) bs a s = _
    rw [wRun_run (layR_run r)]
    simp only [wl, opsW_app, List.append_assoc]
/-- The writes behind the first barrier. -/
def midW (g : Geo) : List HB := wl (runs2 g)
def opsG (P : List HB) (S : List Int) : List DOp := (.w 0 zb :: .bar :: (opsW P ++ [.bar])) ++ [.w 0 S, .bar]
def mkOps (g : Geo) : List DOp := opsG (midW g) (superB g)
theorem wl_one (a : Int) (b : List Int) : opsW (wl [(a, [b])]) ++ [DOp.bar] = [.w a b, .bar] := rfl
theorem opsG_eq (P : List HB) (S : List Int) : opsG P S = [.w 0 zb, .bar] ++ ((opsW P ++ [.bar]) ++ [.w 0 S, .bar]) := by simp [opsG]
theorem opsG_len (P : List HB) (S : List Int) : (opsG P S).length = P.length + 5 := by simp [opsG, opsW]
theorem opsG_mem {P : List HB} {S : List Int} {o : DOp} (ho : o ∈ opsG P S) : o = .bar ∨ o = .w 0 zb ∨ o = .w 0 S ∨ ∃ p ∈ P, o = .w p.1 p.2 := by
  simp only [opsG, List.mem_append, List.mem_cons, List.not_mem_nil, or_false, opsW, List.mem_map] at ho
  rcases ho with (h | h | ⟨p, hp, h⟩ | h) | h | h
  · exact .inr (.inl h)
  · exact .inl h
  · exact .inr (.inr (.inr ⟨p, hp, h.symm⟩))
  · exact .inl h
  · exact .inr (.inr (.inl h))
  · exact .inl h
theorem mkfs_run (hg : g.ok) (hn : g.blocks ≤ s.n) (hd : s.dead = false) : s.mkfs g = s.claimed.run (mkOps g) := by
  have a1 : ∀ s, layR [(0, [zb])] s = s.run [.w 0 zb, .bar] := fun s => by rw [layR_run, wl_one]
  obtain ⟨M, hM⟩ : ∃ M, M = opsW (midW g) ++ [.bar] := ⟨_, rfl⟩
  have a2 : ∀ s, layR (runs2 g) s = s.run M := fun s => by rw [hM]; exact layR_run (runs2 g) s
  have a3 : ∀ s, layR [(0, [superB g])] s = s.run [.w 0 (superB g), .bar] := fun s => by rw [layR_run, wl_one]
  have hc0 : ¬ (¬ g.ok ∨ s.n < g.blocks) := fun hh => by
    rcases hh with hh | hh
    · exact hh hg
    · omega
  unfold DS.mkfs
  rw [if_neg hc0, if_neg (by rw [hd]; decide)]
  rw [a1, a2, a3]
  have em : mkOps g = [.w 0 zb, .bar] ++ (M ++ [.w 0 (superB g), .bar]) := by rw [hM]; exact opsG_eq _ _
  clear hM a1 a2 a3
  rw [em]
  generalize [DOp.w 0 (superB g), .bar] = Z
  generalize [DOp.w 0 zb, .bar] = A
  generalize s.claimed = t
  rw [run_app A (M ++ Z) t, run_app M Z (t.run A).2]
  have k3 : ∀ (t : DS) (l : List DOp), (t.run l).1 ≠ 0 → ((3 : Int), (t.run l).2) = t.run l := fun t l h => by
    have := (run_err t l).resolve_left h
    rw [← this]
  by_cases h1 : (t.run A).1 = 0
  · rw [if_neg (by rw [h1]; decide), if_pos h1]
    by_cases h2 : ((t.run A).2.run M).1 = 0
    · rw [if_neg (by rw [h2]; decide), if_pos h2]
    · rw [if_pos h2, if_neg h2]
      exact k3 _ _ h2
  · rw [if_pos h1, if_neg h1]
    exact k3 _ _ h1
/-! ## what writes and barriers do, as far as a fuse lets them -/
abbrev HW := (Int → Option (List Int)) × List HB
def eff1 : DOp → HW → HW
  | .w i b, x => (x.1, x.2 ++ [(i, b)])
  | .bar, x => (barHeld x.1 x.2, [])
def effL : List DOp → HW → HW
  | [], x => x
  | o :: l, x => effL l (eff1 o x)
theorem effL_app : ∀ (a b : List DOp) (x : HW), effL (a ++ b) x = effL b (effL a x)
  | [], _, _ => rfl
  | o :: a, b, x => by simp only [List.cons_append, effL]; exact effL_app a b _
def okOp (n : Int) : DOp → Prop
  | .w i _ => 0 ≤ i ∧ i < n
  | .bar => True
theorem op_go {o : DOp} (hd : s.dead = false) (hf : s.fuse ≠ 0) (hr : okOp s.n o) : (s.op o).1 = 0 ∧ ((s.op o).2.held, (s.op o).2.wait) = eff1 o (s.held, s.wait) ∧ (s.op o).2.made = s.made + 1 ∧ (s.op o).2.fuse = (if 0 < s.fuse then s.fuse - 1 else s.fuse) ∧ (s.op o).2.dead = false ∧ (s.op o).2.n = s.n ∧ (s.op o).2.claims = s.claims ∧ (s.op o).2.reads = s.reads := by
  have e := burnt_same s
  have eb : s.burnt.dead = false ∧ s.burnt.fuse = (if 0 < s.fuse then s.fuse - 1 else s.fuse) ∧ s.burnt.made = s.made + 1 := by
    unfold DS.burnt
    rw [if_neg hf]
    exact ⟨hd, rfl, rfl⟩
  cases o with
  | w i b =>
    have ew : s.op (.w i b) = (0, { s.burnt with wait := s.wait ++ [(i, b)], hist := s.hist ++ [(1, i, b)] }) := by
      show s.write i b = _
      unfold DS.write
      have hr : 0 ≤ i ∧ i < s.n := hr
      rw [hd, if_neg (by decide), if_neg (by omega), if_neg hf]
    rw [ew]
    exact ⟨rfl, by show (s.burnt.held, _) = _; rw [e.2.1]; rfl, eb.2.2, eb.2.1, eb.1, e.1, e.2.2.2.2.2.1, e.2.2.2.2.1⟩
  | bar =>
    have ew : s.op .bar = (0, { s.burnt with held := barHeld s.held s.wait, wait := [], hist := s.hist ++ [(2, 0, zb)] }) := by
      show s.barrier = _
      unfold DS.barrier
      rw [hd, if_neg (by decide), if_neg hf]
    rw [ew]
    exact ⟨rfl, rfl, eb.2.2, eb.2.1, eb.1, e.1, e.2.2.2.2.2.1, e.2.2.2.2.1⟩
theorem op_stop {o : DOp} (hd : s.dead = false) (hf : s.fuse = 0) (hr : okOp s.n o) : (s.op o).1 = 3 ∧ (s.op o).2.held = s.held ∧ (s.op o).2.wait = s.wait ∧ (s.op o).2.made = s.made ∧ (s.op o).2.dead = true ∧ (s.op o).2.n = s.n ∧ (s.op o).2.claims = s.claims ∧ (s.op o).2.reads = s.reads := by
  have e := burnt_same s
  have eb : s.burnt.dead = true ∧ s.burnt.made = s.made := by
    unfold DS.burnt
    rw [if_pos hf]
    exact ⟨rfl, rfl⟩
  cases o with
  | w i b =>
    have ew : s.op (.w i b) = (3, s.burnt) := by
      show s.write i b = _
      unfold DS.write
      have hr : 0 ≤ i ∧ i < s.n := hr
      rw [hd, if_neg (by decide), if_neg (by omega), if_pos hf]
    rw [ew]
    exact ⟨rfl, e.2.1, e.2.2.1, eb.2, eb.1, e.1, e.2.2.2.2.2.1, e.2.2.2.2.1⟩
  | bar =>
    have ew : s.op .bar = (3, s.burnt) := by
      show s.barrier = _
      unfold DS.barrier
      rw [hd, if_neg (by decide), if_pos hf]
    rw [ew]
    exact ⟨rfl, e.2.1, e.2.2.1, eb.2, eb.1, e.1, e.2.2.2.2.2.1, e.2.2.2.2.1⟩
/-- How many of so many go. -/
def goes (fuse : Int) (k : Nat) : Nat := if fuse < 0 then k else min fuse.toNat k
structure Ran (s : DS) (l : List DOp) (t : Nat) (r : Int × DS) : Prop where
  code : r.1 = if t = l.length then 0 else 3
  held : (r.2.held, r.2.wait) = effL (l.take t) (s.held, s.wait)
  made : r.2.made = s.made + t
  dead : r.2.dead = decide (t < l.length)
  n : r.2.n = s.n
  claims : r.2.claims = s.claims
  reads : r.2.reads = s.reads
  fuse : s.fuse < 0 → r.2.fuse < 0
theorem run_ran : ∀ {l : List DOp} {s : DS}, s.dead = false → (-1 ≤ s.fuse) → (∀ o ∈ l, okOp s.n o) → Ran s l (goes s.fuse l.length) (s.run l)
  | [], s, hd, _, _ => by
    have e : goes s.fuse ([] : List DOp).length = 0 := by unfold goes; split <;> simp
    rw [e]
    exact ⟨rfl, rfl, by simp [DS.run], by show s.dead = _; rw [hd]; rfl, rfl, rfl, rfl, id⟩
  | o :: l, s, hd, h0, hr => by
    have ho := hr o (List.mem_cons_self ..)
    rw [run_cons]
    by_cases hf : s.fuse = 0
    · obtain ⟨b1, b2, b3, b4, b5, b6, b7, b8⟩ := op_stop hd hf ho
      have e : goes s.fuse (o :: l).length = 0 := by unfold goes; rw [hf]; simp
      rw [e, if_neg (by rw [b1]; decide)]
      exact ⟨by simp, by rw [b2, b3]; rfl, by rw [b4]; simp, by rw [b5]; simp, b6, b7, b8, fun h => by omega⟩
    · obtain ⟨b1, b2, b3, b4, b5, b6, b7, b8⟩ := op_go hd hf ho
      rw [if_pos b1]
      have ih := run_ran (l := l) (s := (s.op o).2) b5 (by rw [b4]; split <;> omega) (fun o' ho' => by rw [b6]; exact hr o' (List.mem_cons_of_mem _ ho'))
      have e : goes s.fuse (o :: l).length = goes (s.op o).2.fuse l.length + 1 := by
        unfold goes
        rw [b4, List.length_cons]
        by_cases h1 : s.fuse < 0
        · rw [if_pos h1, if_neg (by omega : ¬ 0 < s.fuse), if_pos h1]
        · rw [if_neg h1, if_pos (by omega : 0 < s.fuse), if_neg (by omega)]
          omega
      rw [e]
      refine ⟨?_, ?_, ?_, ?_, ?_, ?_, ?_, fun h => ih.fuse (by rw [b4, if_neg (by omega)]; exact h)⟩
      · rw [ih.code, List.length_cons]
        by_cases hx : goes (s.op o).2.fuse l.length = l.length
        · rw [if_pos hx, if_pos (by omega)]
        · rw [if_neg hx, if_neg (by omega)]
      · rw [ih.held, List.take_succ_cons, b2]
        rfl
      · rw [ih.made, b3]; omega
      · rw [ih.dead, List.length_cons]
        exact decide_eq_decide.2 (by omega)
      · rw [ih.n, b6]
      · rw [ih.claims, b7]
      · rw [ih.reads, b8]
/-! ## what is held then -/
def nz (b : List Int) : Option (List Int) := if b = zb then none else some b
theorem barHeld_fn : ∀ (w : List HB) (f : Int → Option (List Int)) (x : Int), barHeld f w x = (match lastOf w x with | some b => nz b | none => f x)
  | [], f, x => rfl
  | (i, b) :: w, f, x => by
    show barHeld (keepF f i b) w x = _
    rw [barHeld_fn w]
    simp only [lastOf]
    cases hl : lastOf w x with
    | some c => simp
    | none =>
      unfold keepF nz
      by_cases hx : i = x
      · simp [hx]
      · have hx' : ¬ x = i := fun e => hx e.symm
        simp [hx, hx']
/-- All is done. -/
def doneF (g : Geo) (f : Int → Option (List Int)) : Int → Option (List Int) := barHeld (barHeld (barHeld f [(0, zb)]) (midW g)) [(0, superB g)]
theorem lastOf_one (x y : Int) (b : List Int) : lastOf [(x, b)] y = if x = y then some b else none := by simp [lastOf]
theorem doneF_at (g : Geo) (f : Int → Option (List Int)) (y : Int) : doneF g f y = if y = 0 then nz (superB g) else (match lastOf (midW g) y with | some b => nz b | none => f y) := by
  unfold doneF
  rw [barHeld_fn, lastOf_one]
  by_cases hy : y = 0
  · rw [if_pos hy, if_pos hy.symm]
  · rw [if_neg hy, if_neg (fun e => hy e.symm)]
    simp only
    rw [barHeld_fn]
    cases lastOf (midW g) y with
    | some b => rfl
    | none =>
      simp only
      rw [barHeld_fn, lastOf_one, if_neg (fun e => hy e.symm)]
theorem doneF_twice (g : Geo) (f : Int → Option (List Int)) : doneF g (doneF g f) = doneF g f := by
  funext y
  rw [doneF_at, doneF_at g f y]
  by_cases hy : y = 0
  · rw [if_pos hy, if_pos hy]
  · rw [if_neg hy, if_neg hy]
    cases lastOf (midW g) y <;> rfl
theorem effW : ∀ (l : List HB) (x : HW), effL (opsW l) x = (x.1, x.2 ++ l)
  | [], x => by simp [opsW, effL]
  | p :: l, x => by
    show effL (opsW l) (eff1 (.w p.1 p.2) x) = _
    rw [effW l]
    simp [eff1]
theorem mkOps_len (g : Geo) : (mkOps g).length = (midW g).length + 5 := opsG_len _ _
theorem opsG_all (P : List HB) (S : List Int) (f : Int → Option (List Int)) : effL (opsG P S) (f, []) = (barHeld (barHeld (barHeld f [(0, zb)]) P) [(0, S)], []) := by
  rw [opsG_eq, effL_app, effL_app, effL_app, effW]
  rfl
theorem mkOps_all (g : Geo) (f : Int → Option (List Int)) : effL (mkOps g) (f, []) = (doneF g f, []) := opsG_all _ _ f
/-! ## where it writes -/
theorem wOps_len : ∀ (bs : List (List Int)) (a : Int), (wOps a bs).length = bs.length
  | [], _ => rfl
  | b :: bs, a => by simp [wOps, wOps_len bs]
theorem wOps_mem : ∀ {bs : List (List Int)} {a : Int} {p : HB}, p ∈ wOps a bs → (a ≤ p.1 ∧ p.1 < a + bs.length) ∧ p.2 ∈ bs
  | b :: bs, a, p, h => by
    rcases List.mem_cons.1 h with rfl | h
    · exact ⟨⟨Int.le_refl _, by simp only [List.length_cons]; omega⟩, List.mem_cons_self ..⟩
    · have := wOps_mem h
      exact ⟨⟨by omega, by simp only [List.length_cons]; omega⟩, List.mem_cons_of_mem _ this.2⟩
theorem lastOf_none {w : List HB} {x : Int} : lastOf w x = none ↔ ∀ p ∈ w, p.1 ≠ x := by
  induction w with
  | nil => simp [lastOf]
  | cons p w ih =>
    obtain ⟨i, b⟩ := p
    simp only [lastOf, Option.or_eq_none_iff, ih, List.mem_cons, forall_eq_or_imp]
    by_cases h : i = x <;> simp [h]
theorem wOps_at : ∀ {bs : List (List Int)} {a x : Int}, a ≤ x → x < a + bs.length → ∃ p ∈ wOps a bs, p.1 = x
  | [], a, x, h1, h2 => by simp at h2; omega
  | b :: bs, a, x, h1, h2 => by
    by_cases h : a = x
    · exact ⟨(a, b), List.mem_cons_self .., h⟩
    · simp only [List.length_cons] at h2
      obtain ⟨p, hp, e⟩ := wOps_at (bs := bs) (a := a + 1) (x := x) (by omega) (by omega)
      exact ⟨p, List.mem_cons_of_mem _ hp, e⟩
theorem geo_nat (hg : g.ok) : 0 ≤ g.nodeBlocks ∧ 0 ≤ g.bitsBlocks ∧ g.bitsAt = 1 + g.log + g.nodeBlocks ∧ g.dataAt = 1 + g.log + g.nodeBlocks + g.bitsBlocks ∧ 32 ≤ g.log ∧ g.dataAt < g.blocks ∧ 1 ≤ g.nodeBlocks := by
  unfold Geo.ok at hg
  have hnb : g.nodeBlocks = (g.inodes + 16) / 16 := rfl
  have hbb : g.bitsBlocks = (g.blocks + 8191) / 8192 := rfl
  have hba : g.bitsAt = 1 + g.log + g.nodeBlocks := rfl
  have hda : g.dataAt = 1 + g.log + g.nodeBlocks + g.bitsBlocks := rfl
  omega
theorem midW_eq (g : Geo) : midW g = wOps 1 [zb] ++ (wOps (1 + g.log) (chunk g.nodeBlocks.toNat (inoL g g.nodeBlocks.toNat)) ++ (wOps g.bitsAt (chunk g.bitsBlocks.toNat (bitI g.bitsBlocks.toNat (g.dataAt.toNat + 1))) ++ (wOps g.dataAt [rootI 2] ++ []))) := rfl
theorem midW_in (hg : g.ok) {p : HB} (hp : p ∈ midW g) : (p.1 = 1 ∨ 1 + g.log ≤ p.1 ∧ p.1 ≤ g.dataAt) ∧ p.2.length = 1024 := by
  obtain ⟨g1, g2, g3, g4, g5, g6, g7⟩ := geo_nat hg
  have il := inoL_len (g := g) (n := g.nodeBlocks.toNat) (by omega)
  have bl := bitI_len g.bitsBlocks.toNat (g.dataAt.toNat + 1)
  rw [midW_eq] at hp
  simp only [List.mem_append, List.append_nil] at hp
  rcases hp with hp | hp | hp | hp
  · have := wOps_mem hp
    have h2 : p.2 = zb := by simpa using this.2
    have h1 := this.1
    simp only [List.length_singleton] at h1
    exact ⟨.inl (by omega), by rw [h2]; exact zb_len⟩
  · have := wOps_mem hp
    have h1 := this.1
    rw [chunk_len] at h1
    exact ⟨.inr (by omega), (chunk_bc _ _ il).2.2 _ this.2⟩
  · have := wOps_mem hp
    have h1 := this.1
    rw [chunk_len] at h1
    exact ⟨.inr (by omega), (chunk_bc _ _ bl).2.2 _ this.2⟩
  · have := wOps_mem hp
    have h2 : p.2 = rootI 2 := by simpa using this.2
    have h1 := this.1
    simp only [List.length_singleton] at h1
    exact ⟨.inr (by omega), by rw [h2]; exact rootI_len 2⟩
theorem midW_at (hg : g.ok) {x : Int} (hx : x = 1 ∨ 1 + g.log ≤ x ∧ x ≤ g.dataAt) : ∃ p ∈ midW g, p.1 = x := by
  obtain ⟨g1, g2, g3, g4, g5, g6, g7⟩ := geo_nat hg
  rw [midW_eq]
  simp only [List.mem_append, List.append_nil]
  by_cases h1 : x = 1
  · obtain ⟨p, hp, e⟩ := wOps_at (bs := [zb]) (a := 1) (x := x) (by omega) (by simp only [List.length_singleton]; omega)
    exact ⟨p, .inl hp, e⟩
  by_cases h2 : x < g.bitsAt
  · obtain ⟨p, hp, e⟩ := wOps_at (bs := chunk g.nodeBlocks.toNat (inoL g g.nodeBlocks.toNat)) (a := 1 + g.log) (x := x) (by omega) (by rw [chunk_len]; omega)
    exact ⟨p, .inr (.inl hp), e⟩
  by_cases h3 : x < g.dataAt
  · obtain ⟨p, hp, e⟩ := wOps_at (bs := chunk g.bitsBlocks.toNat (bitI g.bitsBlocks.toNat (g.dataAt.toNat + 1))) (a := g.bitsAt) (x := x) (by omega) (by rw [chunk_len]; omega)
    exact ⟨p, .inr (.inr (.inl hp)), e⟩
  · obtain ⟨p, hp, e⟩ := wOps_at (bs := [rootI 2]) (a := g.dataAt) (x := x) (by omega) (by simp only [List.length_singleton]; omega)
    exact ⟨p, .inr (.inr (.inr hp)), e⟩
theorem midW_len (hg : g.ok) (hi : g.inodes ≤ 2000) : (midW g).length ≤ 1000 := by
  obtain ⟨g1, g2, g3, g4, g5, g6, g7⟩ := geo_nat hg
  unfold Geo.ok at hg
  have hnb : g.nodeBlocks = (g.inodes + 16) / 16 := rfl
  have hbb : g.bitsBlocks = (g.blocks + 8191) / 8192 := rfl
  rw [midW_eq]
  simp only [List.length_append, wOps_len, chunk_len, List.length_singleton, List.length_nil]
  omega
theorem mkOps_ok (hg : g.ok) (hn : g.blocks ≤ n) : ∀ o ∈ mkOps g, okOp (n : Nat) o := by
  obtain ⟨g1, g2, g3, g4, g5, g6, g7⟩ := geo_nat hg
  intro o ho
  rcases opsG_mem ho with rfl | rfl | rfl | ⟨p, hp, rfl⟩
  · trivial
  · exact ⟨Int.le_refl _, by omega⟩
  · exact ⟨Int.le_refl _, by omega⟩
  · have := (midW_in hg hp).1
    show 0 ≤ p.1 ∧ p.1 < _
    omega
theorem mkOps_lens (hg : g.ok) : ∀ i b, DOp.w i b ∈ mkOps g → b.length = 1024 := fun i b ho => by
  have sl := superI_len g 9
  have key : b = zb ∨ b = superB g ∨ ∃ p ∈ midW g, b = p.2 := by
    rcases opsG_mem ho with h | h | h | ⟨p, hp, h⟩
    · cases h
    · injection h with h1 h2; exact .inl h2
    · injection h with h1 h2; exact .inr (.inl h2)
    · injection h with h1 h2; exact .inr (.inr ⟨p, hp, h2⟩)
  rcases key with h | h | ⟨p, hp, h⟩
  · rw [h]; exact zb_len
  · rw [h]; exact sl
  · rw [h]; exact (midW_in hg hp).2
/-- What stays, stays; all else is the same. -/
theorem doneF_same (hg : g.ok) {y : Int} (hy : ¬ ((1 < y ∧ y < 1 + g.log) ∨ g.dataAt < y)) (h0 : 0 ≤ y) (f f' : Int → Option (List Int)) : doneF g f y = doneF g f' y := by
  rw [doneF_at, doneF_at]
  by_cases h : y = 0
  · rw [if_pos h, if_pos h]
  · rw [if_neg h, if_neg h]
    cases hl : lastOf (midW g) y with
    | some b => rfl
    | none =>
      obtain ⟨p, hp, e⟩ := midW_at hg (x := y) (by omega)
      exact absurd e (lastOf_none.1 hl p hp)
theorem doneF_stays (hg : g.ok) {y : Int} (hy : (1 < y ∧ y < 1 + g.log) ∨ g.dataAt < y) (f : Int → Option (List Int)) : doneF g f y = f y := by
  obtain ⟨g1, g2, g3, g4, g5, g6, g7⟩ := geo_nat hg
  rw [doneF_at, if_neg (by omega)]
  have : lastOf (midW g) y = none := lastOf_none.2 fun p hp e => by
    have := (midW_in hg hp).1
    omega
  rw [this]
end Go.Proofs.Ytchfpepbdnjhmaa
