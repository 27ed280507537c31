/- The package wal: what stands in a store; the small calls. -/
import Derived.Test.YtiaonndafhfkmaaCch5
import Derived.Test.YtiaonndafhfkmaaHead2
set_option linter.all false
set_option maxRecDepth 100000
set_option maxHeartbeats 400000
namespace Go.Proofs.Ytiaonndafhfkmaa
open Go.Am
/-- A log: the group in order with what it holds, the blocks of the step. -/
structure WS where
  g : Geo
  mine : Int
  opn : Bool
  room : Int
  grp : List (Int × List Int)
  wrote : List Int
  commits : Int
  steps : Int
def ordL (l : List (Int × List Int)) : List Int := l.map (·.1)
def setF (l : List Int) : Int → Option Value := fun x => if x ∈ l then some (.agg ⟨[]⟩) else none
def idsM : Value → List Nat
  | .map (some i) => [i]
  | _ => []
def WS.cells (w : WS) (d c hm : Nat) (ov wv : Value) : List Value :=
  [ov, .map (some hm), .pointer (some ⟨d, 0, none⟩), .pointer (some ⟨c, 0, none⟩), .int .i64 w.g.blocks, .int .i64 w.g.log, .int .i64 w.g.inodes, .int .i64 1, .int .i64 (1 + w.g.log), .int .i64 w.g.nodeBlocks, .int .i64 w.g.bitsAt, .int .i64 w.g.bitsBlocks, .int .i64 w.g.dataAt,
   .int .i64 w.mine, .bool w.opn, .int .i64 w.room, wv, .int .i64 w.commits, .int .i64 w.steps]
/-- Unlike places. -/
structure Dis (l hm : Nat) (A B C : List Nat) : Prop where
  lh : l ≠ hm
  lA : l ∉ A
  lB : l ∉ B
  lC : l ∉ C
  hA : hm ∉ A
  hB : hm ∉ B
  hC : hm ∉ C
  AB : Apart A B
  AC : Apart A C
  BC : Apart B C
structure LAt (σ : Store) (l d : Nat) (w : WS) (c hm : Nat) (ov wv : Value) (fc : Int) (v : View) (FC : List Nat) : Prop where
  cells : σ.get l = some (.cells (w.cells d c hm ov wv) none)
  has : MapC σ hm (setF (ordL w.grp)) (ordL w.grp).length
  ord : SlG σ 1 ov (ordL w.grp).length (ic (ordL w.grp))
  wr : w.opn = true → ∃ wm, wv = .map (some wm) ∧ MapC σ wm (setF w.wrote) w.wrote.length
  wlt : ∀ j ∈ idsM wv, j < σ.next
  cache : Cache σ c d (w.g.log + 32) fc v FC
  dis : Dis l hm (idsV ov) (idsM wv) FC
def lids (l hm : Nat) (ov wv : Value) (FC : List Nat) : List Nat := l :: hm :: (idsV ov ++ (idsM wv ++ FC))
/-- What the cache has, and the group and the disk. -/
structure VOk (v : View) (fg : List (Int × List Int)) (s : DS) (g : Geo) : Prop where
  fast : ∀ x b, v x = some (b, true) ↔ (x, b) ∈ fg
  slow : ∀ x b, v x = some (b, false) → b = s.at x
  dom : ∀ x e, v x = some e → 0 ≤ x ∧ x < g.blocks ∧ (x < 1 ∨ 1 + g.log ≤ x)
structure WOk (w : WS) : Prop where
  g : w.g.ok
  nodup : (ordL w.grp).Nodup
  len : ∀ p ∈ w.grp, p.2.length = 1024
  dom : ∀ p ∈ w.grp, 1 + w.g.log ≤ p.1 ∧ p.1 < w.g.blocks
  many : (w.grp.length : Int) ≤ w.g.log - 1
  room : 0 ≤ w.room ∧ w.room ≤ w.g.log - 1
  wrote : w.opn = true → (w.wrote.length : Int) ≤ w.room ∧ w.wrote.Nodup ∧ (∀ x ∈ w.wrote, x ∈ ordL w.grp) ∧ (w.grp.length : Int) + w.room ≤ w.g.log - 1 + w.wrote.length
  mine : 0 < w.mine
  cnt : 0 ≤ w.commits ∧ 0 ≤ w.steps
def Log (σ : Store) (l d : Nat) (w : WS) (s : DS) (F : List Nat) : Prop :=
  ∃ c hm ov wv v FC, LAt σ l d w c hm ov wv w.grp.length v FC ∧ VOk v w.grp s w.g ∧ WOk w ∧ w.g.blocks ≤ s.n ∧ F = lids l hm ov wv FC
/-- A log of which only this is known: whose it is. -/
def LogX (σ : Store) (l d : Nat) (mine : Int) (F : List Nat) : Prop := l ∈ F ∧ (∀ j ∈ F, j < σ.next) ∧ ∃ cs, σ.get l = some (.cells cs none) ∧ cs[2]? = some (.pointer (some ⟨d, 0, none⟩)) ∧ cs[13]? = some (.int .i64 mine)
variable {σ σ' : Store} {l d c hm m : Nat} {ov wv : Value} {w : WS} {v : View} {fc : Int} {s : DS} {F FC G : List Nat} {Q : Value → Store → Prop}
theorem ordL_len (l : List (Int × List Int)) : (ordL l).length = l.length := by simp [ordL]
theorem LAt.lt (h : LAt σ l d w c hm ov wv fc v FC) : ∀ j ∈ lids l hm ov wv FC, j < σ.next := by
  intro j hj
  simp only [lids, List.mem_cons, List.mem_append] at hj
  rcases hj with rfl | rfl | hj | hj | hj
  · exact Store.lt_of_get h.cells
  · exact h.has.lt
  · exact h.ord.lt j hj
  · exact h.wlt j hj
  · exact h.cache.lt j hj
theorem LAt.same (h : LAt σ l d w c hm ov wv fc v FC) (hn : σ.next ≤ σ'.next) (hg : ∀ j ∈ lids l hm ov wv FC, σ'.get j = σ.get j) : LAt σ' l d w c hm ov wv fc v FC where
  cells := by rw [hg l (by simp [lids]), h.cells]
  has := h.has.same (hg hm (by simp [lids]))
  ord := h.ord.same fun j hj => hg j (by simp [lids, hj])
  wr ho := by
    obtain ⟨wm, h1, h2⟩ := h.wr ho
    exact ⟨wm, h1, h2.same (hg wm (by simp [lids, h1, idsM]))⟩
  wlt j hj := Nat.lt_of_lt_of_le (h.wlt j hj) hn
  cache := h.cache.same fun j hj => hg j (by simp [lids, hj])
  dis := h.dis
theorem Log.lt (h : Log σ l d w s F) : ∀ j ∈ F, j < σ.next := by
  obtain ⟨_, _, _, _, _, _, h, _, _, _, rfl⟩ := h
  exact h.lt
theorem Log.same (h : Log σ l d w s F) (hn : σ.next ≤ σ'.next) (hg : ∀ j ∈ F, σ'.get j = σ.get j) : Log σ' l d w s F := by
  obtain ⟨_, _, _, _, _, _, h, h2, h3, h4, rfl⟩ := h
  exact ⟨_, _, _, _, _, _, h.same hn hg, h2, h3, h4, rfl⟩
theorem Log.ok (h : Log σ l d w s F) : WOk w := by
  obtain ⟨_, _, _, _, _, _, h, h2, h3, h4, rfl⟩ := h
  exact h3
/-- Another disk, as far as the blocks outside the log go. -/
theorem Log.disk (h : Log σ l d w s F) {s' : DS} (h1 : s'.n = s.n) (h2 : ∀ x, x < 1 ∨ 1 + w.g.log ≤ x → s'.at x = s.at x) : Log σ l d w s' F := by
  obtain ⟨_, _, _, _, v, _, h, hv, h3, h4, rfl⟩ := h
  refine ⟨_, _, _, _, _, _, h, ⟨hv.fast, fun x b hx => ?_, hv.dom⟩, h3, by omega, rfl⟩
  rw [h2 x (hv.dom x _ hx).2.2]; exact hv.slow x b hx
theorem Log.x (h : Log σ l d w s F) : LogX σ l d w.mine F := by
  obtain ⟨_, _, _, _, v, _, h, hv, h3, h4, rfl⟩ := h
  exact ⟨by simp [lids], h.lt, _, h.cells, rfl, rfl⟩
theorem LogX.same (h : LogX σ l d fc F) (hn : σ.next ≤ σ'.next) (hg : ∀ j ∈ F, σ'.get j = σ.get j) : LogX σ' l d fc F := by
  obtain ⟨h1, h2, cs, h3, h4⟩ := h
  exact ⟨h1, fun j hj => Nat.lt_of_lt_of_le (h2 j hj) hn, cs, by rw [hg l h1, h3], h4⟩
theorem lcheck_ (h : LogX σ l d fc F) (hd : Disk σ d s G) (hC : s.C m) (hq : Q (.int .i64 (if s.mine fc then 0 else 3)) σ) : Does Try.prog 36 [.pointer (some ⟨l, 0, none⟩)] σ Q := by
  refine d36 ?_
  obtain ⟨h1, h2, cs, h3, h4, h5⟩ := h
  simp -implicitDefEqProofs (maxSteps := 2000000) (disch := first|assumption|omega|rfl|(simp only[RD];done)|(simp only[RD];omega)) only [RN,Int.reduceBEq,Int.reduceBNe,Int.reduceLT,Int.reduceLE,Int.reduceAdd,Int.reduceSub,Int.reduceMul,Nat.reduceAdd,↓bc_flatz,↓bc_flat16,↓agg_bytez, p36, h3, h4, h5]
  refine claimed_o hd hC fc ?_
  cases hm : s.mine fc
  · simp -implicitDefEqProofs (maxSteps := 2000000) (disch := first|assumption|omega|rfl|(simp only[RD];done)|(simp only[RD];omega)) only [RN,Int.reduceBEq,Int.reduceBNe,Int.reduceLT,Int.reduceLE,Int.reduceAdd,Int.reduceSub,Int.reduceMul,Nat.reduceAdd,↓bc_flatz,↓bc_flat16,↓agg_bytez]
    simpa [hm] using hq
  · simp -implicitDefEqProofs (maxSteps := 2000000) (disch := first|assumption|omega|rfl|(simp only[RD];done)|(simp only[RD];omega)) only [RN,Int.reduceBEq,Int.reduceBNe,Int.reduceLT,Int.reduceLE,Int.reduceAdd,Int.reduceSub,Int.reduceMul,Nat.reduceAdd,↓bc_flatz,↓bc_flat16,↓agg_bytez]
    simpa [hm] using hq
theorem logs_ (h : σ.get l = some (.cells (w.cells d c hm ov wv) none)) (hg : w.g.ok) (x : Int) (hq : Q (.bool (decide (1 ≤ x ∧ x < 1 + w.g.log))) σ) : Does Try.prog 38 [.pointer (some ⟨l, 0, none⟩), .int .i64 x] σ Q := by
  refine d38 ?_
  obtain ⟨g1, g2, g3, g4, g5, g6, g7⟩ := hg
  by_cases h1 : 1 ≤ x
  · by_cases h2 : x < 1 + w.g.log
    · simp -implicitDefEqProofs (maxSteps := 2000000) (disch := first|assumption|omega|rfl|(simp only[RD];done)|(simp only[RD];omega)) only [RN,Int.reduceBEq,Int.reduceBNe,Int.reduceLT,Int.reduceLE,Int.reduceAdd,Int.reduceSub,Int.reduceMul,Nat.reduceAdd,↓bc_flatz,↓bc_flat16,↓agg_bytez, p38, h, WS.cells, decide_eq_true h1, decide_eq_true h2]
      simpa [h1, h2] using hq
    · simp -implicitDefEqProofs (maxSteps := 2000000) (disch := first|assumption|omega|rfl|(simp only[RD];done)|(simp only[RD];omega)) only [RN,Int.reduceBEq,Int.reduceBNe,Int.reduceLT,Int.reduceLE,Int.reduceAdd,Int.reduceSub,Int.reduceMul,Nat.reduceAdd,↓bc_flatz,↓bc_flat16,↓agg_bytez, p38, h, WS.cells, decide_eq_true h1, decide_eq_false h2]
      simpa [h1, h2] using hq
  · simp -implicitDefEqProofs (maxSteps := 2000000) (disch := first|assumption|omega|rfl|(simp only[RD];done)|(simp only[RD];omega)) only [RN,Int.reduceBEq,Int.reduceBNe,Int.reduceLT,Int.reduceLE,Int.reduceAdd,Int.reduceSub,Int.reduceMul,Nat.reduceAdd,↓bc_flatz,↓bc_flat16,↓agg_bytez, p38, h, WS.cells, decide_eq_false h1]
    simpa [h1] using hq
theorem used_ (h : Log σ l d w s F) (hd : Disk σ d s G) (hC : s.C m) (hm : s.mine w.mine = true) (hq : Q (.int .i64 (w.grp.length : Nat)) σ) : Does Try.prog 13 [.pointer (some ⟨l, 0, none⟩)] σ Q := by
  refine d13 ?_
  simp -implicitDefEqProofs (maxSteps := 2000000) (disch := first|assumption|omega|rfl|(simp only[RD];done)|(simp only[RD];omega)) only [RN,Int.reduceBEq,Int.reduceBNe,Int.reduceLT,Int.reduceLE,Int.reduceAdd,Int.reduceSub,Int.reduceMul,Nat.reduceAdd,↓bc_flatz,↓bc_flat16,↓agg_bytez, p13]
  refine lcheck_ h.x hd hC ?_
  obtain ⟨_, _, _, _, v, _, h, hv, h3, h4, rfl⟩ := h
  rw [hm]
  have := h.ord.len
  rw [ordL_len] at this
  simp -implicitDefEqProofs (maxSteps := 2000000) (disch := first|assumption|omega|rfl|(simp only[RD];done)|(simp only[RD];omega)) only [RN,Int.reduceBEq,Int.reduceBNe,Int.reduceLT,Int.reduceLE,Int.reduceAdd,Int.reduceSub,Int.reduceMul,Nat.reduceAdd,↓bc_flatz,↓bc_flat16,↓agg_bytez, if_true, h.cells, WS.cells, this]
  exact hq
theorem commits_ (h : Log σ l d w s F) (hd : Disk σ d s G) (hC : s.C m) (hm : s.mine w.mine = true) (hq : Q (.int .i64 w.commits) σ) : Does Try.prog 34 [.pointer (some ⟨l, 0, none⟩)] σ Q := by
  refine d34 ?_
  simp -implicitDefEqProofs (maxSteps := 2000000) (disch := first|assumption|omega|rfl|(simp only[RD];done)|(simp only[RD];omega)) only [RN,Int.reduceBEq,Int.reduceBNe,Int.reduceLT,Int.reduceLE,Int.reduceAdd,Int.reduceSub,Int.reduceMul,Nat.reduceAdd,↓bc_flatz,↓bc_flat16,↓agg_bytez, p34]
  refine lcheck_ h.x hd hC ?_
  obtain ⟨_, _, _, _, v, _, h, hv, h3, h4, rfl⟩ := h
  rw [hm]
  simp -implicitDefEqProofs (maxSteps := 2000000) (disch := first|assumption|omega|rfl|(simp only[RD];done)|(simp only[RD];omega)) only [RN,Int.reduceBEq,Int.reduceBNe,Int.reduceLT,Int.reduceLE,Int.reduceAdd,Int.reduceSub,Int.reduceMul,Nat.reduceAdd,↓bc_flatz,↓bc_flat16,↓agg_bytez, if_true, h.cells, WS.cells]
  exact hq
theorem steps_ (h : Log σ l d w s F) (hd : Disk σ d s G) (hC : s.C m) (hm : s.mine w.mine = true) (hq : Q (.int .i64 w.steps) σ) : Does Try.prog 33 [.pointer (some ⟨l, 0, none⟩)] σ Q := by
  refine d33 ?_
  simp -implicitDefEqProofs (maxSteps := 2000000) (disch := first|assumption|omega|rfl|(simp only[RD];done)|(simp only[RD];omega)) only [RN,Int.reduceBEq,Int.reduceBNe,Int.reduceLT,Int.reduceLE,Int.reduceAdd,Int.reduceSub,Int.reduceMul,Nat.reduceAdd,↓bc_flatz,↓bc_flat16,↓agg_bytez, p33]
  refine lcheck_ h.x hd hC ?_
  obtain ⟨_, _, _, _, v, _, h, hv, h3, h4, rfl⟩ := h
  rw [hm]
  simp -implicitDefEqProofs (maxSteps := 2000000) (disch := first|assumption|omega|rfl|(simp only[RD];done)|(simp only[RD];omega)) only [RN,Int.reduceBEq,Int.reduceBNe,Int.reduceLT,Int.reduceLE,Int.reduceAdd,Int.reduceSub,Int.reduceMul,Nat.reduceAdd,↓bc_flatz,↓bc_flat16,↓agg_bytez, if_true, h.cells, WS.cells]
  exact hq
/-- The log's own cells are written anew. -/
theorem LAt.put {w' : WS} (h : LAt σ l d w c hm ov wv fc v FC) (hg : w'.grp = w.grp) (hgg : w'.g = w.g) (hw : w'.opn = true → w.opn = true ∧ w'.wrote = w.wrote) :
    LAt (σ.put l (some (.cells (w'.cells d c hm ov wv) none))) l d w' c hm ov wv fc v FC where
  cells := Store.get_put_same _ _ _
  has := by rw [hg]; exact h.has.same (get_put_ne' h.dis.lh.symm)
  ord := by rw [hg]; exact h.ord.same fun j hj => get_put_ne' fun e => h.dis.lA (e ▸ hj)
  wr ho := by
    obtain ⟨h1, h2⟩ := hw ho
    obtain ⟨wm, h3, h4⟩ := h.wr h1
    rw [h2]
    exact ⟨wm, h3, h4.same (get_put_ne' fun e => h.dis.lB (by rw [← e, h3]; simp [idsM]))⟩
  wlt j hj := by rw [next_max]; have := h.wlt j hj; omega
  cache := by rw [hgg]; exact h.cache.same fun j hj => get_put_ne' fun e => h.dis.lC (e ▸ hj)
  dis := h.dis
theorem end_ (h : Log σ l d w s F) (hd : Disk σ d s G) (hA : Apart F G) (hC : s.C m) (hm : s.mine w.mine = true) (hs : w.steps < 2 ^ 62)
    (hq1 : w.opn = false → Q (.int .i64 180) σ) (hq2 : w.opn = true → ∀ σ', Log σ' l d { w with opn := false, steps := w.steps + 1 } s F → Disk σ' d s G → Upd F σ σ' F → Q (.int .i64 0) σ') :
    Does Try.prog 12 [.pointer (some ⟨l, 0, none⟩)] σ Q := by
  refine d12 ?_
  simp -implicitDefEqProofs (maxSteps := 2000000) (disch := first|assumption|omega|rfl|(simp only[RD];done)|(simp only[RD];omega)) only [RN,Int.reduceBEq,Int.reduceBNe,Int.reduceLT,Int.reduceLE,Int.reduceAdd,Int.reduceSub,Int.reduceMul,Nat.reduceAdd,↓bc_flatz,↓bc_flat16,↓agg_bytez, p12]
  refine lcheck_ h.x hd hC ?_
  have hlt := h.lt
  obtain ⟨_, _, _, _, v, _, h, hv, h3, h4, rfl⟩ := h
  have hc := h3.cnt
  rw [hm]
  cases ho : w.opn
  · simp -implicitDefEqProofs (maxSteps := 2000000) (disch := first|assumption|omega|rfl|(simp only[RD];done)|(simp only[RD];omega)) only [RN,Int.reduceBEq,Int.reduceBNe,Int.reduceLT,Int.reduceLE,Int.reduceAdd,Int.reduceSub,Int.reduceMul,Nat.reduceAdd,↓bc_flatz,↓bc_flat16,↓agg_bytez, if_true, h.cells, WS.cells, ho]
    exact hq1 ho
  · have hp := h.put (w' := { w with opn := false, steps := w.steps + 1 }) rfl rfl (fun e => by cases e)
    simp only [WS.cells] at hp
    simp -implicitDefEqProofs (maxSteps := 2000000) (disch := first|assumption|omega|rfl|(simp only[RD];done)|(simp only[RD];omega)) only [RN,Int.reduceBEq,Int.reduceBNe,Int.reduceLT,Int.reduceLE,Int.reduceAdd,Int.reduceSub,Int.reduceMul,Nat.reduceAdd,↓bc_flatz,↓bc_flat16,↓agg_bytez, if_true, h.cells, WS.cells, ho]
    refine hq2 ho _ ⟨_, _, _, _, _, _, hp, hv, ⟨h3.g, h3.nodup, h3.len, h3.dom, h3.many, h3.room, (fun e => by cases e), h3.mine, by show 0 ≤ w.commits ∧ 0 ≤ w.steps + 1; omega⟩, h4, rfl⟩ (hd.same fun j hj => get_put_ne' fun e => hA.symm j hj (by rw [e]; simp [lids])) (upd_put (by simp [lids]) hlt)
end Go.Proofs.Ytiaonndafhfkmaa
