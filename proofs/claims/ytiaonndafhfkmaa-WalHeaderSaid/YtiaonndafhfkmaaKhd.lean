/- Recovery and a new log over one of several disks; a recovery that nothing stops. -/
import Derived.Test.YtiaonndafhfkmaaKim8
import Derived.Test.YtiaonndafhfkmaaRec
import Derived.Test.YtiaonndafhfkmaaL8c
import Derived.Test.YtiaonndafhfkmaaStp
set_option linter.all false
set_option maxRecDepth 100000
set_option maxHeartbeats 400000
namespace Go.Proofs.Ytiaonndafhfkmaa
open Go.Am
variable {σ st st' : Store} {d m : Nat} {s r : DS} {l : List (Nat × DS)} {os : List (Nat × SObj)} {g : Geo} {Q : Value → Store → Prop} {T : List Int}
theorem krec_ (h : Dks σ st ((d, s) :: l) os) (hC : s.C m) (hm0 : m + 1000 < 2 ^ 29) (hg : g.ok) (hb : g.blocks ≤ s.n) (hB : BytesOk (s.at 1)) (hd : s.dead = false) (hr : DecOk g (s.at 1) → decL (s.at 1) ≠ [] → (s.readed.recover (decL (s.at 1))).1 = 0)
    (hq1 : ¬ DecOk g (s.at 1) → ∀ st', Dks σ st' ((d, s.readed) :: l) os → Q (.tuple #[.int .i64 0, .int .i64 4]) st')
    (hq2 : DecOk g (s.at 1) → decL (s.at 1) = [] → ∀ st', Dks σ st' ((d, s.readed) :: l) os → Q (.tuple #[.int .i64 0, .int .i64 0]) st')
    (hq3 : DecOk g (s.at 1) → decL (s.at 1) ≠ [] → ∀ st', Dks σ st' ((d, (s.readed.recover (decL (s.at 1))).2) :: l) os → Q (.tuple #[.int .i64 ((decL (s.at 1)).length : Nat), .int .i64 0]) st') : Does Try.prog 26 [.pointer (some ⟨d, 0, none⟩), .agg ⟨ic g.lay⟩] st Q := by
  obtain ⟨h1, A, h2, h3⟩ := h
  cases h2 with
  | cons hD hF hr' ha =>
    exact recover_ hD hC hm0 hg hb hB (fun h => by rw [hd] at h; cases h) (fun _ e st' D U => hq1 e st' (Dks.upd h1 hD hF hr' ha h3 D U)) (fun _ e e2 st' D U => hq2 e e2 st' (Dks.upd h1 hD hF hr' ha h3 D U)) (fun _ e e2 _ st' G' D U => hq3 e e2 st' (Dks.upd h1 hD hF hr' ha h3 D U)) (fun _ e e2 e3 => absurd (hr e e2) e3)
theorem kwnew_ (h : Dks σ st ((d, s) :: l) os) (hC : s.C m) (hm0 : m + 1 < 2 ^ 29) (hg : g.ok) (hb : g.blocks ≤ s.n) (hB : BytesOk (s.at 1)) (hd : s.dead = false)
    (hq1 : ¬ (DecOk g (s.at 1) ∧ decL (s.at 1) = []) → ∀ st', Dks σ st' ((d, s.readed) :: l) os → Q (.tuple #[.pointer none, .int .i64 4]) st')
    (hq2 : DecOk g (s.at 1) → decL (s.at 1) = [] → ∀ st' p, Dks σ st' ((d, s.readed.claimed) :: l) os → Q (.tuple #[.pointer (some ⟨p, 0, none⟩), .int .i64 0]) st') : Does Try.prog 25 [.pointer (some ⟨d, 0, none⟩), .agg ⟨ic g.lay⟩] st Q := by
  obtain ⟨h1, A, h2, h3⟩ := h
  cases h2 with
  | cons hD hF hr' ha =>
    exact wnew_ hD hC hm0 hg hb hB (fun h => by rw [hd] at h; cases h) (fun _ e st' D U => hq1 e st' (Dks.upd h1 hD hF hr' ha h3 D U)) (fun _ e e2 st' p F _ D _ U => hq2 e e2 st' p (Dks.upd h1 hD hF hr' ha h3 D ⟨U.next, fun j hj => ⟨(U.ids j (List.mem_append_right _ hj)).1, .inl hj⟩, U.same⟩))
theorem kpend0_ (h : Dks σ st ((d, s) :: l) os) (hC : s.C m) (hw : s.wait = []) (hq : Q (.slice none 0 0) st) : Does Try.prog 28 [.pointer (some ⟨d, 0, none⟩)] st Q := by
  obtain ⟨h1, A, h2, h3⟩ := h
  cases h2 with
  | cons hD hF hr' ha =>
    obtain ⟨hm, lm, pv, hv, hD, rfl⟩ := hD
    refine d28 ?_
    have c1 := hD.cells
    have hl := hD.wait.len
    rw [hw] at hl
    have hl' : lenSl pv = some (.int .i64 0) := hl
    simp -implicitDefEqProofs (maxSteps := 2000000) (disch := first|assumption|omega|rfl|(simp only[RD];done)|(simp only[RD];omega)) only [RN,Int.reduceBEq,Int.reduceBNe,Int.reduceLT,Int.reduceLE,Int.reduceAdd,Int.reduceSub,Int.reduceMul,Nat.reduceAdd,↓bc_flatz,↓bc_flat16,↓agg_bytez, p28]
    refine is_ c1 hC.ok.n ?_
    simp -implicitDefEqProofs (maxSteps := 2000000) (disch := first|assumption|omega|rfl|(simp only[RD];done)|(simp only[RD];omega)) only [RN,Int.reduceBEq,Int.reduceBNe,Int.reduceLT,Int.reduceLE,Int.reduceAdd,Int.reduceSub,Int.reduceMul,Nat.reduceAdd,↓bc_flatz,↓bc_flat16,↓agg_bytez, c1, DS.cells, hl']
    refine lop2 (fun k x v st' => x = .slice none 0 0 ∧ v = .int .i64 0 ∧ st' = st) 0 ⟨rfl, rfl, rfl⟩ ?_
    rintro k x v st' next ⟨rfl, rfl, rfl⟩ hnx
    simp -implicitDefEqProofs (maxSteps := 2000000) (disch := first|assumption|omega|rfl|(simp only[RD];done)|(simp only[RD];omega)) only [RN,Int.reduceBEq,Int.reduceBNe,Int.reduceLT,Int.reduceLE,Int.reduceAdd,Int.reduceSub,Int.reduceMul,Nat.reduceAdd,↓bc_flatz,↓bc_flat16,↓agg_bytez]
    exact hq
/-- What a recovery writes, so far. -/
def prW (s : DS) (T : List Int) (i : Nat) : List HB := (List.range i).map fun (j : Nat) => (T.getD j 0, s.at (2 + (j : Nat)))
theorem prW_succ (s : DS) (T : List Int) (i : Nat) : prW s T (i + 1) = prW s T i ++ [(T.getD i 0, s.at (2 + (i : Nat)))] := by simp [prW, List.range_succ]
theorem barHeld_app (f : Int → Option (List Int)) (w : List HB) (p : HB) : barHeld f (w ++ [p]) = keepF (barHeld f w) p.1 p.2 := by unfold barHeld; rw [List.foldl_append]; rfl
theorem lastOf_nin : ∀ {w : List HB} {x : Int}, (∀ p ∈ w, p.1 ≠ x) → lastOf w x = none
  | [], _, _ => rfl
  | p :: w, x, h => by
    obtain ⟨j, c⟩ := p
    simp only [lastOf]
    rw [lastOf_nin fun q hq => h q (List.mem_cons_of_mem _ hq), if_neg (h _ (List.mem_cons_self ..))]; rfl
theorem at_held (hw : s.wait = []) (x : Int) : s.at x = (s.held x).getD zb := by unfold DS.at; rw [hw]; rfl
theorem live_wr (h : s.live) {i : Int} {b : List Int} (h0 : 0 ≤ i) (h1 : i < s.n) : (s.write i b).2.held = s.held ∧ (s.write i b).2.wait = s.wait ++ [(i, b)] ∧ (s.write i b).2.n = s.n := by
  obtain ⟨b1, b2, b3, _⟩ := burnt_same s
  unfold DS.write
  rw [h.1, if_neg (by simp), if_neg (by omega), if_neg (by have := h.2; omega)]
  exact ⟨b2, rfl, b1⟩
theorem live_br (h : s.live) : s.barrier.2.held = barHeld s.held s.wait ∧ s.barrier.2.wait = [] ∧ s.barrier.2.n = s.n := by
  obtain ⟨b1, b2, b3, _⟩ := burnt_same s
  unfold DS.barrier
  rw [h.1, if_neg (by simp), if_neg (by have := h.2; omega)]
  exact ⟨rfl, rfl, b1⟩
theorem recI_go (h : s.live) (hw : s.wait = []) (hg : g.ok) (hn : g.blocks ≤ s.n) (hT : MayL g T) : ∀ i, i ≤ T.length → (recI s T i).1 = 0 ∧ (recI s T i).2.live ∧ (recI s T i).2.held = s.held ∧ (recI s T i).2.wait = prW s T i ∧ (recI s T i).2.n = s.n
  | 0, _ => ⟨rfl, h, rfl, hw, rfl⟩
  | i + 1, hi => by
    obtain ⟨a1, a2, a3, a4, a5⟩ := recI_go h hw hg hn hT i (by omega)
    have hgg := hg
    unfold Geo.ok at hgg
    have hda : g.dataAt = 1 + g.log + g.nodeBlocks + g.bitsBlocks := rfl
    have hnb : g.nodeBlocks = (g.inodes + 16) / 16 := rfl
    have hbb : g.bitsBlocks = (g.blocks + 8191) / 8192 := rfl
    obtain ⟨m1, m2, m3⟩ := hT
    have gd : ∀ j, j < T.length → 1 + g.log ≤ T.getD j 0 ∧ T.getD j 0 < g.blocks := fun j hj => by
      rw [List.getD_eq_getElem?_getD, List.getElem?_eq_getElem hj]
      exact m3 _ (List.getElem_mem _)
    have hgi := gd i (by omega)
    have es : recI s T (i + 1) = (recI s T i).2.rec1 i (T.getD i 0) := by
      show (if (recI s T i).1 = 0 then _ else _) = _
      rw [if_pos a1]
    rw [es]
    generalize (recI s T i).2 = t at a2 a3 a4 a5
    have ea : t.at (2 + (i : Int)) = s.at (2 + (i : Nat)) := by
      rw [at_held hw]
      unfold DS.at
      rw [a4, lastOf_nin (fun p hp => by
        unfold prW at hp
        obtain ⟨j, hj, rfl⟩ := List.mem_map.1 hp
        have := gd j (by have := List.mem_range.1 hj; omega)
        show T.getD j 0 ≠ _
        omega), a3]
    have er : t.read (2 + (i : Int)) = (s.at (2 + (i : Nat)), 0, { t with reads := t.reads + 1 }) := by
      unfold DS.read
      rw [a2.1, if_neg (by simp), if_neg (by omega), ea]
    have hl : (({ t with reads := t.reads + 1 } : DS)).live := a2
    obtain ⟨e0, e1⟩ := live_write hl (i := T.getD i 0) (b := s.at (2 + (i : Nat))) (by omega) (by show _ < t.n; omega)
    obtain ⟨w1, w2, w3⟩ := live_wr hl (i := T.getD i 0) (b := s.at (2 + (i : Nat))) (by omega) (by show _ < t.n; omega)
    have e : t.rec1 i (T.getD i 0) = (0, (DS.write { t with reads := t.reads + 1 } (T.getD i 0) (s.at (2 + (i : Nat)))).2) := by
      unfold DS.rec1
      rw [er]
      show (if (0 : Int) = 0 then ((if (DS.write { t with reads := t.reads + 1 } (T.getD i 0) (s.at (2 + (i : Nat)))).1 = 0 then (0 : Int) else 3), (DS.write { t with reads := t.reads + 1 } (T.getD i 0) (s.at (2 + (i : Nat)))).2) else (3, { t with reads := t.reads + 1 })) = _
      rw [if_pos rfl, if_pos e0]
    rw [e, prW_succ]
    exact ⟨rfl, e1, w1.trans a3, by rw [w2]; show t.wait ++ _ = _; rw [a4], w3.trans a5⟩
/-- A recovery that nothing stops. -/
theorem rec_go (h : s.live) (hw : s.wait = []) (hg : g.ok) (hn : g.blocks ≤ s.n) (hT : MayL g T) : (s.recover T).1 = 0 ∧ (s.recover T).2.live ∧ (s.recover T).2.wait = [] ∧ (s.recover T).2.n = s.n ∧ (s.recover T).2.held = keepF (barHeld s.held (prW s T T.length)) 1 zb := by
  obtain ⟨a1, a2, a3, a4, a5⟩ := recI_go h hw hg hn hT T.length (Nat.le_refl _)
  have hgg := hg
  unfold Geo.ok at hgg
  have hda : g.dataAt = 1 + g.log + g.nodeBlocks + g.bitsBlocks := rfl
  have hnb : g.nodeBlocks = (g.inodes + 16) / 16 := rfl
  have hbb : g.bitsBlocks = (g.blocks + 8191) / 8192 := rfl
  have e : s.recover T = (recI s T T.length).2.run [.bar, .w 1 zb, .bar] := by unfold DS.recover; rw [if_pos a1]
  rw [e]
  generalize (recI s T T.length).2 = t at a2 a3 a4 a5
  obtain ⟨b1, b2⟩ := live_barrier a2
  obtain ⟨c1, c2, c3⟩ := live_br a2
  obtain ⟨d1, d2⟩ := live_write b2 (i := 1) (b := zb) (by omega) (by omega)
  obtain ⟨e1, e2, e3⟩ := live_wr b2 (i := 1) (b := zb) (by omega) (by omega)
  obtain ⟨f1, f2⟩ := live_barrier d2
  obtain ⟨g1, g2, g3⟩ := live_br d2
  have er : t.run [.bar, .w 1 zb, .bar] = (0, (t.barrier.2.write 1 zb).2.barrier.2) := by
    rw [run_cons, if_pos (show (t.op .bar).1 = 0 from b1), run_cons, if_pos (show (((t.op .bar).2).op (.w 1 zb)).1 = 0 from d1), run_cons, if_pos (show ((((t.op .bar).2).op (.w 1 zb)).2.op .bar).1 = 0 from f1)]
    rfl
  rw [er]
  refine ⟨rfl, f2, g2, by rw [g3, e3, c3, a5], ?_⟩
  rw [g1, e1, e2, c1, c2, a3, a4]; rfl
theorem rec1_W (h : s.W) {i : Nat} {t : Int} : (s.rec1 i t).2.W := by
  unfold DS.rec1
  split
  · exact write_W (read_W h)
  · exact read_W h
theorem recI_W (h : s.W) {l : List Int} : ∀ i, (recI s l i).2.W
  | 0 => h
  | i + 1 => by
    have ih := recI_W h (l := l) i
    unfold recI
    split
    · exact rec1_W ih
    · exact ih
theorem run_W : ∀ {l : List DOp} {s : DS}, s.W → (s.run l).2.W
  | [], _, h => h
  | o :: l, s, h => by
    have ho : (s.op o).2.W := by
      cases o with
      | w i b => exact write_W h
      | bar => exact barrier_W h
    rw [run_cons]
    split
    · exact run_W ho
    · exact ho
theorem recover_W (h : s.W) {l : List Int} : (s.recover l).2.W := by
  unfold DS.recover
  split
  · exact run_W (recI_W h _)
  · exact recI_W h _
theorem rec1_C (h : s.C m) {i : Nat} {t : Int} : (s.rec1 i t).2.C (m + 2) := by
  unfold DS.rec1
  split
  · exact write_C (read_C h) (read_1024 h _)
  · exact (read_C h).le (by omega)
theorem recI_C (h : s.C m) {l : List Int} : ∀ i, (recI s l i).2.C (m + 2 * i)
  | 0 => h
  | i + 1 => by
    have ih := recI_C h (l := l) i
    unfold recI
    split
    · exact (rec1_C ih).le (by omega)
    · exact ih.le (by omega)
theorem recover_C (h : s.C m) {l : List Int} : (s.recover l).2.C (m + 2 * l.length + 3) := by
  have ih := recI_C h (l := l) l.length
  unfold DS.recover
  split
  · exact run_C ih fun i b hb => by
      simp only [List.mem_cons, List.not_mem_nil, or_false] at hb
      rcases hb with hb | hb | hb
      · cases hb
      · cases hb; exact zb_len
      · cases hb
  · exact ih.le (by omega)
end Go.Proofs.Ytiaonndafhfkmaa
