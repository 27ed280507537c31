/- The package wal: writing, reading. -/
import Derived.Test.YtiaonndafhfkmaaWal
set_option linter.all false
set_option maxRecDepth 100000
set_option maxHeartbeats 400000
namespace Go.Proofs.Ytiaonndafhfkmaa
open Go.Am
variable {σ σ' : Store} {l d c hm m : Nat} {ov wv : Value} {w : WS} {v : View} {fc : Int} {s : DS} {F FC G : List Nat} {Q : Value → Store → Prop}
def addL (o : List Int) (x : Int) : List Int := if x ∈ o then o else o ++ [x]
theorem setF_mem {o : List Int} {x : Int} (h : x ∈ o) : setF o x = some (.agg ⟨[]⟩) := if_pos h
theorem setF_not {o : List Int} {x : Int} (h : x ∉ o) : setF o x = none := if_neg h
theorem setF_add (o : List Int) (x y : Int) : setF (addL o x) y = if y = x then some (.agg ⟨[]⟩) else setF o y := by
  unfold setF addL
  by_cases hx : x ∈ o
  · rw [if_pos hx]
    by_cases hy : y = x
    · simp [hy, hx]
    · simp [hy]
  · rw [if_neg hx]
    by_cases hy : y = x
    · simp [hy]
    · simp [hy]
theorem addL_len (o : List Int) (x : Int) : (addL o x).length = if (setF o x).isSome then o.length else o.length + 1 := by
  unfold setF addL
  by_cases hx : x ∈ o <;> simp [hx]
theorem add_ {cs : List Value} {o : List Int} {x : Int} (hc : σ.get l = some (.cells cs none)) (h0 : cs[0]? = some ov) (h1 : cs[1]? = some (.map (some hm))) (hh : MapC σ hm (setF o) o.length) (ho : SlG σ 1 ov o.length (ic o)) (hl : o.length < 2 ^ 30) (n1 : l ≠ hm) (n2 : l ∉ idsV ov) (n3 : hm ∉ idsV ov)
    (hq : ∀ σ' ov', σ'.get l = some (.cells (cs.set 0 ov') none) → MapC σ' hm (setF (addL o x)) (addL o x).length → SlG σ' 1 ov' (addL o x).length (ic (addL o x)) → l ∉ idsV ov' → hm ∉ idsV ov' → Upd (l :: hm :: idsV ov) σ σ' (l :: hm :: idsV ov') → Q (.tuple #[]) σ') :
    Does Try.prog 40 [.pointer (some ⟨l, 0, none⟩), .int .i64 x] σ Q := by
  refine d40 ?_
  have hlt1 := Store.lt_of_get hc
  have hlt2 := hh.lt
  have hlt3 := ho.lt
  have lk := hh.look (.agg ⟨[]⟩) x
  have u0 : (unrle []) = ([] : List Value) := rfl
  have k1 : Keeps σ (σ.push (.cells [] none)) := (Keeps.refl σ).push _
  by_cases hx : x ∈ o
  · rw [setF_mem hx] at lk
    simp -implicitDefEqProofs (maxSteps := 2000000) (disch := first|assumption|omega|rfl|(simp only[RD];done)|(simp only[RD];omega)) only [RN,Int.reduceBEq,Int.reduceBNe,Int.reduceLT,Int.reduceLE,Int.reduceAdd,Int.reduceSub,Int.reduceMul,Nat.reduceAdd,↓bc_flatz,↓bc_flat16,↓agg_bytez, p40, hc, h0, h1, u0, lk]
    have e : addL o x = o := if_pos hx
    have e0 : cs.set 0 ov = cs := by
      cases cs with
      | nil => cases h0
      | cons a r => simp at h0; simp [h0]
    rw [e] at hq
    refine hq _ ov (by rw [e0, get_push_ne hlt1, hc]) (hh.same (get_push_ne hlt2)) (ho.same fun j hj => get_push_ne (hlt3 j hj)) n2 n3 (Upd.keeps k1 (Upd.refl fun j hj => ?_) fun j hj => ?_)
    all_goals
      simp only [List.mem_cons] at hj
      first
        | (rw [Store.next_push]; rcases hj with rfl | rfl | hj <;> first | omega | (have := hlt3 j hj; omega))
        | (rcases hj with rfl | rfl | hj <;> first | omega | (have := hlt3 j hj; omega))
  · rw [setF_not hx] at lk
    have e : addL o x = o ++ [x] := if_neg hx
    have el : (addL o x).length = o.length + 1 := by rw [e]; simp
    obtain ⟨s1, hs1⟩ : ∃ s1, s1 = (σ.push (.cells [] none)).push (.cells [.int .i64 x] none) := ⟨_, rfl⟩
    have ks1 : Keeps σ s1 := by rw [hs1]; exact k1.push _
    have ns1 : s1.next = σ.next + 2 := by rw [hs1, Store.next_push, Store.next_push]
    have gs1 : s1.get (σ.next + 1) = some (.cells [.int .i64 x] none) := by rw [hs1]; exact get_push_eq (by rw [Store.next_push])
    obtain ⟨s2, a1, a2, a3, a4⟩ := SlG.app (j := σ.next + 1) (k := 1) (gj := none) (by_ := 8) (ho.same (σ' := s1) fun j hj => ks1.2 j (hlt3 j hj)) gs1 rfl (by omega) (by omega) (by omega)
    have f1 : s2.get l = some (.cells cs none) := by rw [a4 l (by omega) n2, ks1.2 l hlt1, hc]
    rw [ns1] at a1 a2 a3 a4
    have hln : 0 < cs.length := by
      cases cs with
      | nil => cases h0
      | cons a r => simp
    have f1b : (s2.put l (some (.cells (cs.set 0 (.slice (some ⟨σ.next + 2, 0, some 1⟩) (o.length + 1) (o.length + 1))) none))).get l = some (.cells (cs.set 0 (.slice (some ⟨σ.next + 2, 0, some 1⟩) (o.length + 1) (o.length + 1))) none) := Store.get_put_same _ _ _
    obtain ⟨s3, hs3⟩ : ∃ s3, s3 = s2.put l (some (.cells (cs.set 0 (.slice (some ⟨σ.next + 2, 0, some 1⟩) (o.length + 1) (o.length + 1))) none)) := ⟨_, rfl⟩
    rw [← hs3] at f1b
    have n3' : s3.next = σ.next + 3 := by rw [hs3, next_max, a3]; omega
    have g3 : ∀ j, j ≠ l → s3.get j = s2.get j := fun j hj => by rw [hs3, get_put_ne' hj]
    have hw : wrOne (s2.get l) s2 l 0 (.slice (some ⟨σ.next + 2, 0, some 1⟩) (o.length + 1) (o.length + 1)) = some (junk, s3) := by rw [f1, wrOne_cells hln, hs3]
    clear hs3
    have m3 : MapC s3 hm (setF o) o.length := hh.same (by rw [g3 hm n1.symm, a4 hm (by omega) n3, ks1.2 hm hlt2])
    obtain ⟨ob, u1, u2⟩ := m3.upd x (.agg ⟨[]⟩)
    have h1b : rdOne (s3.get l) 1 = some (.map (some hm)) := by rw [f1b, rdOne_cells, List.getElem?_set_ne (by omega), h1]
    simp -implicitDefEqProofs (maxSteps := 2000000) (disch := first|assumption|omega|rfl|(simp only[RD];done)|(simp only[RD];omega)) only [RN,Int.reduceBEq,Int.reduceBNe,Int.reduceLT,Int.reduceLE,Int.reduceAdd,Int.reduceSub,Int.reduceMul,Nat.reduceAdd,↓bc_flatz,↓bc_flat16,↓agg_bytez, p40, hc, h0, h1, u0, lk]
    rw [← hs1]
    simp -implicitDefEqProofs (maxSteps := 2000000) (disch := first|assumption|omega|rfl|(simp only[RD];done)|(simp only[RD];omega)) only [RN,Int.reduceBEq,Int.reduceBNe,Int.reduceLT,Int.reduceLE,Int.reduceAdd,Int.reduceSub,Int.reduceMul,Nat.reduceAdd,↓bc_flatz,↓bc_flat16,↓agg_bytez, a1, hw, h1b, u1]
    refine hq _ (.slice (some ⟨σ.next + 2, 0, some 1⟩) (o.length + 1) (o.length + 1)) (by rw [get_put_ne' n1, f1b]) (u2.ext (fun y => setF_add o x y) (addL_len o x)) ?_ ?_ ?_ ⟨by rw [next_max]; omega, fun j hj => ?_, fun j hj hn => ?_⟩
    · rw [el, e, ic_app]
      refine a2.same fun j hj => ?_
      have : j = σ.next + 2 := by simpa [idsV] using hj
      rw [get_put_ne' (by omega), g3 j (by omega)]
    · simp [idsV]; omega
    · simp [idsV]; omega
    · simp only [idsV, List.mem_cons, List.not_mem_nil, or_false] at hj
      rw [next_max, n3']
      simp only [List.mem_cons]
      rcases hj with rfl | rfl | rfl
      · exact ⟨by omega, .inl (.inl rfl)⟩
      · exact ⟨by omega, .inl (.inr (.inl rfl))⟩
      · exact ⟨by omega, .inr (by omega)⟩
    · simp only [List.mem_cons, not_or] at hn
      rw [get_put_ne' hn.2.1, g3 j hn.1, a4 j (by omega) hn.2.2, ks1.2 j hj]
def putG (o : List (Int × List Int)) (x : Int) (b : List Int) : List (Int × List Int) := if x ∈ ordL o then o.map fun p => if p.1 = x then (x, b) else p else o ++ [(x, b)]
theorem ordL_put (o : List (Int × List Int)) (x : Int) (b : List Int) : ordL (putG o x b) = addL (ordL o) x := by
  unfold putG addL
  by_cases hx : x ∈ ordL o
  · rw [if_pos hx, if_pos hx]
    unfold ordL
    rw [List.map_map]
    refine List.map_congr_left fun p _ => ?_
    simp only [Function.comp]
    by_cases hp : p.1 = x
    · rw [if_pos hp]; exact hp.symm
    · rw [if_neg hp]
  · rw [if_neg hx, if_neg hx]
    simp [ordL]
theorem mem_putG {o : List (Int × List Int)} {x y : Int} {b b' : List Int} : (y, b') ∈ putG o x b ↔ (y = x ∧ b' = b) ∨ (y ≠ x ∧ (y, b') ∈ o) := by
  unfold putG
  by_cases hx : x ∈ ordL o
  · rw [if_pos hx, List.mem_map]
    constructor
    · rintro ⟨p, hp, e⟩
      by_cases hpx : p.1 = x
      · rw [if_pos hpx] at e; cases e; exact .inl ⟨rfl, rfl⟩
      · rw [if_neg hpx] at e; rw [e] at hp hpx; exact .inr ⟨hpx, hp⟩
    · rintro (⟨rfl, rfl⟩ | ⟨h1, h2⟩)
      · obtain ⟨p, hp, e⟩ := List.mem_map.1 hx
        exact ⟨p, hp, if_pos e⟩
      · exact ⟨_, h2, if_neg h1⟩
  · rw [if_neg hx, List.mem_append, List.mem_singleton]
    constructor
    · rintro (h | h)
      · refine .inr ⟨fun e => hx (List.mem_map.2 ⟨_, h, e⟩), h⟩
      · cases h; exact .inl ⟨rfl, rfl⟩
    · rintro (⟨rfl, rfl⟩ | ⟨h1, h2⟩)
      · exact .inr rfl
      · exact .inl h2
theorem addL_nodup {o : List Int} {x : Int} (h : o.Nodup) : (addL o x).Nodup := by
  unfold addL
  by_cases hx : x ∈ o
  · rw [if_pos hx]; exact h
  · rw [if_neg hx, List.nodup_append]
    exact ⟨h, by simp, fun a ha b hb => by have : b = x := by simpa using hb
                                           rw [this]; exact fun e => hx (e ▸ ha)⟩
theorem mem_addL {o : List Int} {x y : Int} : y ∈ addL o x ↔ y = x ∨ y ∈ o := by
  unfold addL
  by_cases hx : x ∈ o
  · rw [if_pos hx]
    constructor
    · exact .inr
    · rintro (rfl | h)
      · exact hx
      · exact h
  · rw [if_neg hx, List.mem_append, List.mem_singleton]
    exact or_comm
def WS.write (w : WS) (x : Int) (b : List Int) : Int × WS :=
  if w.opn = false then (180, w)
  else if x < 1 + w.g.log ∨ w.g.blocks ≤ x then (2, w)
  else if x ∉ w.wrote ∧ w.room ≤ (w.wrote.length : Int) then (181, w)
  else (0, { w with grp := putG w.grp x b, wrote := addL w.wrote x })
/-- Whether a block is of the group. -/
theorem VOk.has (h : VOk v w.grp s w.g) (x : Int) : x ∈ ordL w.grp ↔ ∃ b, v x = some (b, true) := by
  unfold ordL
  rw [List.mem_map]
  constructor
  · rintro ⟨⟨y, b⟩, hp, rfl⟩
    exact ⟨b, (h.fast y b).2 hp⟩
  · rintro ⟨b, hb⟩
    exact ⟨(x, b), (h.fast x b).1 hb, rfl⟩
theorem VOk.put {v' : View} {x : Int} {b : List Int} (h : VOk v w.grp s w.g) (hs : Shrink v v' x) (hx : v' x = some (b, true)) (h0 : 1 + w.g.log ≤ x) (h1 : x < w.g.blocks) (hg : w.g.ok) : VOk v' (putG w.grp x b) s w.g := by
  have hlog := hg.1
  refine ⟨fun y b' => ?_, fun y b' hy => ?_, fun y e hy => ?_⟩
  · rw [mem_putG]
    by_cases hyx : y = x
    · subst hyx
      rw [hx]
      simp only [Option.some.injEq, Prod.mk.injEq, and_true, true_and, ne_eq, not_true_eq_false, false_and, or_false]
      exact eq_comm
    · have e1 : ((y = x ∧ b' = b) ∨ (y ≠ x ∧ (y, b') ∈ w.grp)) ↔ (y, b') ∈ w.grp := by simp [hyx]
      rw [e1, ← h.fast]
      rcases hs y hyx with h2 | ⟨h2, b2, h3⟩
      · rw [h2]
      · rw [h2, h3]; simp
  · by_cases hyx : y = x
    · rw [hyx, hx] at hy; simp at hy
    · rcases hs y hyx with h2 | ⟨h2, b2, h3⟩
      · rw [h2] at hy; exact h.slow y b' hy
      · rw [h2] at hy; cases hy
  · by_cases hyx : y = x
    · subst hyx; omega
    · rcases hs y hyx with h2 | ⟨h2, b2, h3⟩
      · rw [h2] at hy; exact h.dom y e hy
      · rw [h2] at hy; cases hy
theorem lwrite_ok {x : Int} {b : List Int} (hW : WOk w) (hb : b.length = 1024) : WOk (w.write x b).2 := by
  unfold WS.write
  split
  · exact hW
  · split
    · exact hW
    · split
      · exact hW
      · rename_i h1 h2 h3
        have ho : w.opn = true := by cases h : w.opn <;> simp_all
        obtain ⟨a1, a2, a3, a4⟩ := hW.wrote ho
        have e1 := ordL_put w.grp x b
        have el := ordL_len w.grp
        have l1 : (putG w.grp x b).length = (addL (ordL w.grp) x).length := by rw [← ordL_len, e1]
        have l2 : (addL w.wrote x).length = if x ∈ w.wrote then w.wrote.length else w.wrote.length + 1 := by unfold addL; split <;> simp
        have l3 : (addL (ordL w.grp) x).length = if x ∈ ordL w.grp then w.grp.length else w.grp.length + 1 := by rw [← el]; unfold addL; split <;> simp
        have hroom : ((addL w.wrote x).length : Int) ≤ w.room ∧ ((putG w.grp x b).length : Int) + w.room ≤ w.g.log - 1 + (addL w.wrote x).length := by
          rw [l1, l2, l3]
          by_cases hw : x ∈ w.wrote
          · have := a3 x hw
            rw [if_pos hw, if_pos this]; omega
          · rw [if_neg hw]
            have : ¬ w.room ≤ (w.wrote.length : Int) := fun h => h3 ⟨hw, h⟩
            split <;> omega
        refine ⟨hW.g, by rw [show ordL (putG w.grp x b) = _ from e1]; exact addL_nodup hW.nodup, fun p hp => ?_, fun p hp => ?_, by show ((putG w.grp x b).length : Int) ≤ w.g.log - 1; omega, hW.room, fun _ => ⟨hroom.1, addL_nodup a2, fun y hy => ?_, hroom.2⟩, hW.mine, hW.cnt⟩
        · obtain ⟨y, b'⟩ := p
          rcases mem_putG.1 hp with ⟨_, rfl⟩ | ⟨_, h⟩
          · exact hb
          · exact hW.len _ h
        · obtain ⟨y, b'⟩ := p
          rcases mem_putG.1 hp with ⟨rfl, _⟩ | ⟨_, h⟩
          · simp only
            show 1 + w.g.log ≤ y ∧ y < w.g.blocks
            omega
          · exact hW.dom _ h
        · show y ∈ ordL (putG w.grp x b)
          rw [e1]
          rcases mem_addL.1 hy with rfl | h
          · exact mem_addL.2 (.inl rfl)
          · exact mem_addL.2 (.inr (a3 y h))
theorem lwrite_ (h : Log σ l d w s F) (hd : Disk σ d s G) (hA : Apart F G) (hC : s.C m) (hm : s.mine w.mine = true) {x : Int} {b : List Int} (hb : b.length = 1024)
    (hq : ∀ σ' F', Log σ' l d (w.write x b).2 s F' → Disk σ' d s G → Apart F' G → Upd (F ++ G) σ σ' (F' ++ G) → Q (.int .i64 (w.write x b).1) σ') :
    Does Try.prog 10 [.pointer (some ⟨l, 0, none⟩), .int .i64 x, .agg ⟨bc b⟩] σ Q := by
  refine d10 ?_
  have hW := h.ok
  have hWn := lwrite_ok (x := x) hW hb
  have hlt := h.lt
  have k1 : Keeps σ (σ.push (.cells (bc b) none)) := (Keeps.refl σ).push _
  have h' := h.same (σ' := σ.push (.cells (bc b) none)) k1.1 fun j hj => k1.2 j (hlt j hj)
  have hd' := hd.later k1
  have hz : (σ.push (.cells (bc b) none)).get σ.next = some (.cells (bc b) none) := Store.get_push_same _ _
  have hn1 : (σ.push (.cells (bc b) none)).next = σ.next + 1 := Store.next_push _ _
  simp -implicitDefEqProofs (maxSteps := 2000000) (disch := first|assumption|omega|rfl|(simp only[RD];done)|(simp only[RD];omega)) only [RN,Int.reduceBEq,Int.reduceBNe,Int.reduceLT,Int.reduceLE,Int.reduceAdd,Int.reduceSub,Int.reduceMul,Nat.reduceAdd,↓bc_flatz,↓bc_flat16,↓agg_bytez, p10]
  generalize hσ1 : σ.push (.cells (bc b) none) = σ1 at h' hd' hz hn1 k1 ⊢
  clear hσ1
  refine lcheck_ h'.x hd' hC ?_
  rw [hm]
  have hdead : s.dead = false := by unfold DS.mine at hm; cases hh : s.dead <;> simp_all
  have hid : Upd (F ++ G) σ σ1 (F ++ G) := Upd.keeps k1 (Upd.refl fun j hj => by
    rcases List.mem_append.1 hj with hj | hj
    · have := hlt j hj; omega
    · have := hd.lt j hj; omega) fun j hj => by
    rcases List.mem_append.1 hj with hj | hj
    · exact hlt j hj
    · exact hd.lt j hj
  have hbad : ∀ r : Int, w.write x b = (r, w) → Q (.int .i64 r) σ1 := fun r e => by
    rw [e] at hq
    exact hq σ1 F h' hd' hA hid
  obtain ⟨g1, g2, g3, g4, g5, g6, g7⟩ := id hW.g
  obtain ⟨c, hm0, ov, wv, v, FC, h1, hv, h3, h4, rfl⟩ := h'
  have hcl := h1.cells
  cases ho : w.opn
  case false =>
    simp -implicitDefEqProofs (maxSteps := 2000000) (disch := first|assumption|omega|rfl|(simp only[RD];done)|(simp only[RD];omega)) only [RN,Int.reduceBEq,Int.reduceBNe,Int.reduceLT,Int.reduceLE,Int.reduceAdd,Int.reduceSub,Int.reduceMul,Nat.reduceAdd,↓bc_flatz,↓bc_flat16,↓agg_bytez, if_true, hcl, WS.cells, ho]
    exact hbad 180 (by unfold WS.write; rw [if_pos ho])
  case true =>
    have hno : ¬ w.opn = false := by rw [ho]; simp
    by_cases hx1 : x < 1
    · simp -implicitDefEqProofs (maxSteps := 2000000) (disch := first|assumption|omega|rfl|(simp only[RD];done)|(simp only[RD];omega)) only [RN,Int.reduceBEq,Int.reduceBNe,Int.reduceLT,Int.reduceLE,Int.reduceAdd,Int.reduceSub,Int.reduceMul,Nat.reduceAdd,↓bc_flatz,↓bc_flat16,↓agg_bytez, if_true, hcl, WS.cells, ho, decide_eq_true hx1, p10_4, p10_3]
      exact hbad 2 (by unfold WS.write; rw [if_neg hno, if_pos (by omega)])
    by_cases hx2 : w.g.blocks ≤ x
    · simp -implicitDefEqProofs (maxSteps := 2000000) (disch := first|assumption|omega|rfl|(simp only[RD];done)|(simp only[RD];omega)) only [RN,Int.reduceBEq,Int.reduceBNe,Int.reduceLT,Int.reduceLE,Int.reduceAdd,Int.reduceSub,Int.reduceMul,Nat.reduceAdd,↓bc_flatz,↓bc_flat16,↓agg_bytez, if_true, hcl, WS.cells, ho, decide_eq_false hx1, decide_eq_true hx2, p10_4, p10_3]
      exact hbad 2 (by unfold WS.write; rw [if_neg hno, if_pos (by omega)])
    simp -implicitDefEqProofs (maxSteps := 2000000) (disch := first|assumption|omega|rfl|(simp only[RD];done)|(simp only[RD];omega)) only [RN,Int.reduceBEq,Int.reduceBNe,Int.reduceLT,Int.reduceLE,Int.reduceAdd,Int.reduceSub,Int.reduceMul,Nat.reduceAdd,↓bc_flatz,↓bc_flat16,↓agg_bytez, if_true, hcl, WS.cells, ho, decide_eq_false hx1, decide_eq_false hx2, p10_4]
    refine logs_ hcl hW.g x ?_
    by_cases hx3 : 1 ≤ x ∧ x < 1 + w.g.log
    · rw [decide_eq_true hx3]
      simp -implicitDefEqProofs (maxSteps := 2000000) (disch := first|assumption|omega|rfl|(simp only[RD];done)|(simp only[RD];omega)) only [RN,Int.reduceBEq,Int.reduceBNe,Int.reduceLT,Int.reduceLE,Int.reduceAdd,Int.reduceSub,Int.reduceMul,Nat.reduceAdd,↓bc_flatz,↓bc_flat16,↓agg_bytez, p10_3]
      exact hbad 2 (by unfold WS.write; rw [if_neg hno, if_pos (by omega)])
    rw [decide_eq_false hx3]
    have hx4 : ¬ (x < 1 + w.g.log ∨ w.g.blocks ≤ x) := by omega
    obtain ⟨wm, hwv, mw⟩ := h1.wr ho
    obtain ⟨a1, a2, a3, a4⟩ := hW.wrote ho
    have u0 : (unrle []) = ([] : List Value) := rfl
    have lk := mw.look (.agg ⟨[]⟩) x
    have hll := h1.lt
    have hwm : wm ∈ lids l hm0 ov wv FC := by simp [lids, hwv, idsM]
    have kk : Keeps σ1 (σ1.push (.cells [] none)) := (Keeps.refl σ1).push _
    have h2 := h1.same kk.1 fun j hj => kk.2 j (hll j hj)
    have hd2 := hd'.later kk
    have hz2 : (σ1.push (.cells [] none)).get σ.next = some (.cells (bc b) none) := by rw [kk.2 _ (by omega), hz]
    have mw2 := mw.same (kk.2 wm mw.lt)
    have ln := mw2.len
    have hcl2 := h2.cells
    obtain ⟨s1, hs1⟩ : ∃ s1, s1 = σ1.push (.cells [] none) := ⟨_, rfl⟩
    rw [← hs1] at kk h2 hd2 hz2 mw2 ln hcl2
    -- the common end
    have fin : ¬ (x ∉ w.wrote ∧ w.room ≤ (w.wrote.length : Int)) → p10_1 (.pointer (some ⟨l, 3, none⟩)) s1 s1 (.pointer (some ⟨σ.next, 0, none⟩)) (.int .i64 x) Q (.pointer (some ⟨l, 0, none⟩)) := fun hc => by
      have ew : w.write x b = (0, { w with grp := putG w.grp x b, wrote := addL w.wrote x }) := by unfold WS.write; rw [if_neg hno, if_neg hx4, if_neg hc]
      rw [ew] at hq hWn
      simp -implicitDefEqProofs (maxSteps := 2000000) (disch := first|assumption|omega|rfl|(simp only[RD];done)|(simp only[RD];omega)) only [RN,Int.reduceBEq,Int.reduceBNe,Int.reduceLT,Int.reduceLE,Int.reduceAdd,Int.reduceSub,Int.reduceMul,Nat.reduceAdd,↓bc_flatz,↓bc_flat16,↓agg_bytez, p10_1, hcl2, WS.cells, hz2]
      have hFC : Apart FC G := fun j hj => hA j (by simp [lids, hj])
      have hsz : (w.grp.length : Int) < w.g.log + 32 := by have := h3.many; omega
      refine cput_ h2.cache hd2 hFC hC hdead (by omega) (by omega) hb (.inr hsz) fun σ3 v3 F3 c3 d3 A3 u3 sh3 hv3 => ?_
      have hlFC : ∀ j, j ∈ FC ++ G → j ≠ l ∧ j ≠ hm0 ∧ j ∉ idsV ov ∧ j ∉ idsM wv := fun j hj => by
        rcases List.mem_append.1 hj with hj | hj
        · exact ⟨fun e => h1.dis.lC (e ▸ hj), fun e => h1.dis.hC (e ▸ hj), fun h => h1.dis.AC j h hj, fun h => h1.dis.BC j h hj⟩
        · have := hA.symm j hj
          simp only [lids, List.mem_cons, List.mem_append, not_or] at this
          exact ⟨this.1, this.2.1, this.2.2.1, this.2.2.2.1⟩
      have hlt1 : ∀ j ∈ lids l hm0 ov wv FC, j < s1.next := fun j hj => h2.lt j hj
      have e_l : σ3.get l = s1.get l := u3.same l (hlt1 l (by simp [lids])) fun h => (hlFC l h).1 rfl
      have e_h : σ3.get hm0 = s1.get hm0 := u3.same hm0 (hlt1 hm0 (by simp [lids])) fun h => (hlFC hm0 h).2.1 rfl
      have e_o : ∀ j ∈ idsV ov, σ3.get j = s1.get j := fun j hj => u3.same j (hlt1 j (by simp [lids, hj])) fun h => (hlFC j h).2.2.1 hj
      have e_w : σ3.get wm = s1.get wm := u3.same wm (hlt1 wm hwm) fun h => (hlFC wm h).2.2.2 (by simp [hwv, idsM])
      have hfresh : ∀ j ∈ F3, j ∈ FC ++ G ∨ s1.next ≤ j := fun j hj => (u3.ids j (List.mem_append_left _ hj)).2
      have hF3 : ∀ j ∈ F3, j ≠ l ∧ j ≠ hm0 ∧ j ∉ idsV ov ∧ j ∉ idsM wv := fun j hj => by
        rcases hfresh j hj with h | h
        · exact hlFC j h
        · exact ⟨fun e => by have := hlt1 l (by simp [lids]); omega, fun e => by have := hlt1 hm0 (by simp [lids]); omega, fun e => by have := hlt1 j (by simp [lids, e]); omega, fun e => by have := hlt1 j (by simp [lids, e]); omega⟩
      have hcl3 : σ3.get l = some (.cells (w.cells d c hm0 ov wv) none) := by rw [e_l, hcl2]
      have mw3 := mw2.same e_w
      obtain ⟨ob, w1, w2⟩ := mw3.upd x (.agg ⟨[]⟩)
      have hwl : wm ≠ l := fun e => h1.dis.lB (by rw [← e, hwv]; simp [idsM])
      have hwh : wm ≠ hm0 := fun e => h1.dis.hB (by rw [← e, hwv]; simp [idsM])
      have hwo : wm ∉ idsV ov := fun e => h1.dis.AB wm e (by rw [hwv]; simp [idsM])
      rw [hwv] at hcl3
      have hcl3b : rdOne (σ3.get l) 16 = some (.map (some wm)) := by rw [hcl3]; rfl
      generalize hσ4 : σ3.put wm (some ob) = σ4 at w1 w2
      have n4 : σ4.next = σ3.next := by rw [← hσ4, next_max]; have := mw3.lt; omega
      have g4 : ∀ j, j ≠ wm → σ4.get j = σ3.get j := fun j hj => by rw [← hσ4, get_put_ne' hj]
      clear hσ4
      simp -implicitDefEqProofs (maxSteps := 2000000) (disch := first|assumption|omega|rfl|(simp only[RD];done)|(simp only[RD];omega)) only [RN,Int.reduceBEq,Int.reduceBNe,Int.reduceLT,Int.reduceLE,Int.reduceAdd,Int.reduceSub,Int.reduceMul,Nat.reduceAdd,↓bc_flatz,↓bc_flat16,↓agg_bytez, hcl3b, w1]
      have hcl4 : σ4.get l = some (.cells (w.cells d c hm0 ov (.map (some wm))) none) := by rw [g4 l hwl.symm, hcl3]
      have has4 : MapC σ4 hm0 (setF (ordL w.grp)) (ordL w.grp).length := h2.has.same (by rw [g4 hm0 hwh.symm, e_h])
      have ord4 : SlG σ4 1 ov (ordL w.grp).length (ic (ordL w.grp)) := h2.ord.same fun j hj => by rw [g4 j (fun e => hwo (e ▸ hj)), e_o j hj]
      have hol : (ordL w.grp).length < 2 ^ 30 := by rw [ordL_len]; have := h3.many; omega
      refine add_ hcl4 rfl rfl has4 ord4 hol h1.dis.lh h1.dis.lA h1.dis.hA fun σ5 ov5 b1 b2 b3 b4 b5 b6 => ?_
      have n5 := b6.next
      have n3 := u3.next
      have g5 : ∀ j, j < σ4.next → j ≠ l → j ≠ hm0 → j ∉ idsV ov → σ5.get j = σ4.get j := fun j hj q1 q2 q3 => b6.same j hj (by simp [q1, q2, q3])
      have eo : ordL (putG w.grp x b) = addL (ordL w.grp) x := ordL_put _ _ _
      have c5 : Cache σ5 c d (w.g.log + 32) (match v x with | some (_, true) => (w.grp.length : Int) | _ => (w.grp.length : Int) + 1) v3 F3 := c3.same fun j hj => by
        obtain ⟨q1, q2, q3, q4⟩ := hF3 j hj
        have hjlt := c3.lt j hj
        have hjw : j ≠ wm := fun e => q4 (by rw [e, hwv]; simp [idsM])
        rw [g5 j (by omega) q1 q2 q3, g4 j hjw]
      have efc : (match v x with | some (_, true) => (w.grp.length : Int) | _ => (w.grp.length : Int) + 1) = (((putG w.grp x b).length : Nat) : Int) := by
        have e2 : (putG w.grp x b).length = if x ∈ ordL w.grp then w.grp.length else w.grp.length + 1 := by
          rw [← ordL_len, eo]; unfold addL; split <;> simp [ordL_len]
        rw [e2]
        by_cases hxo : x ∈ ordL w.grp
        · obtain ⟨b2, hb2⟩ := (hv.has x).1 hxo
          rw [hb2, if_pos hxo]
        · rw [if_neg hxo]
          have : ∀ b2, v x ≠ some (b2, true) := fun b2 e => hxo ((hv.has x).2 ⟨b2, e⟩)
          cases hvx : v x with
          | none => simp
          | some e =>
            obtain ⟨b2, f⟩ := e
            cases f
            · simp
            · exact absurd hvx (this b2)
      rw [efc] at c5
      have d5 : Disk σ5 d s G := d3.same fun j hj => by
        have q := hlFC j (List.mem_append_right _ hj)
        have hjlt := d3.lt j hj
        have hjw : j ≠ wm := fun e => q.2.2.2 (by rw [e, hwv]; simp [idsM])
        rw [g5 j (by omega) q.1 q.2.1 q.2.2.1, g4 j hjw]
      have mw5 : MapC σ5 wm (setF (addL w.wrote x)) (addL w.wrote x).length := by
        refine (w2.ext (fun y => setF_add w.wrote x y) (addL_len w.wrote x)).same ?_
        rw [g5 wm (by have := w2.lt; omega) hwl hwh hwo]
      have hov5 : ∀ j ∈ idsV ov5, (j ∈ idsV ov) ∨ σ4.next ≤ j := fun j hj => by
        rcases (b6.ids j (by simp [hj])).2 with h | h
        · simp only [List.mem_cons] at h
          rcases h with h | h | h
          · exact absurd (h ▸ hj) b4
          · exact absurd (h ▸ hj) b5
          · exact .inl h
        · exact .inr h
      have hks : σ.next ≤ s1.next := Nat.le_trans k1.1 kk.1
      have hidl : ∀ j ∈ lids l hm0 ov5 (.map (some wm)) F3, j ∈ lids l hm0 ov wv FC ++ G ∨ σ.next ≤ j := fun j hj => by
        simp only [lids, List.mem_cons, List.mem_append] at hj
        rcases hj with h | h | h | h | h
        · exact .inl (by simp [lids, h])
        · exact .inl (by simp [lids, h])
        · rcases hov5 j h with h | h
          · exact .inl (by simp [lids, h])
          · right; omega
        · exact .inl (by simp [lids, hwv, h])
        · rcases hfresh j h with h | h
          · rcases List.mem_append.1 h with h | h
            · exact .inl (by simp [lids, h])
            · exact .inl (by simp [h])
          · right; omega
      have hdis : Dis l hm0 (idsV ov5) (idsM (.map (some wm))) F3 := by
        refine ⟨h1.dis.lh, b4, by simpa [idsM] using hwl.symm, fun h => (hF3 l h).1 rfl, b5, by simpa [idsM] using hwh.symm, fun h => (hF3 hm0 h).2.1 rfl, fun j hj hjw => ?_, fun j hj hjf => ?_, fun j hj hjf => ?_⟩
        · have : j = wm := by simpa [idsM] using hjw
          subst this
          rcases hov5 j hj with h | h
          · exact hwo h
          · have := w2.lt; omega
        · rcases hov5 j hj with h | h
          · exact (hF3 j hjf).2.2.1 h
          · have := c3.lt j hjf; omega
        · have : j = wm := by simpa [idsM] using hj
          subst this
          exact (hF3 j hjf).2.2.2 (by rw [hwv]; simp [idsM])
      have hwlt5 : ∀ j ∈ idsM (.map (some wm)), j < σ5.next := fun j hj => by
        have : j = wm := by simpa [idsM] using hj
        rw [this]; have := w2.lt; omega
      have L5 : LAt σ5 l d { w with grp := putG w.grp x b, wrote := addL w.wrote x } c hm0 ov5 (.map (some wm)) ((putG w.grp x b).length : Nat) v3 F3 :=
        ⟨b1, by rw [show ordL (putG w.grp x b) = _ from eo]; exact b2, by rw [show ordL (putG w.grp x b) = _ from eo]; exact b3, fun _ => ⟨wm, rfl, mw5⟩, hwlt5, c5, hdis⟩
      have A5 : Apart (lids l hm0 ov5 (.map (some wm)) F3) G := fun j hj hjg => by
        simp only [lids, List.mem_cons, List.mem_append] at hj
        have q := hlFC j (List.mem_append_right _ hjg)
        rcases hj with h | h | h | h | h
        · exact q.1 h
        · exact q.2.1 h
        · rcases hov5 j h with h | h
          · exact q.2.2.1 h
          · have := d3.lt j hjg; omega
        · exact q.2.2.2 (by rw [hwv]; exact h)
        · exact A3 j h hjg
      have hkn := kk.1
      refine hq σ5 _ ⟨_, _, _, _, _, _, L5, hv.put sh3 hv3 (by omega) (by omega) hW.g, hWn, h4, rfl⟩ d5 A5 ⟨by omega, fun j hj => ?_, fun j hj hn => ?_⟩
      · rcases List.mem_append.1 hj with hj | hj
        · exact ⟨L5.lt j hj, hidl j hj⟩
        · exact ⟨d5.lt j hj, .inl (List.mem_append_right _ hj)⟩
      · simp only [lids, List.mem_append, List.mem_cons, not_or] at hn
        obtain ⟨⟨q1, q2, q3, q4, q5⟩, q6⟩ := hn
        have hjw : j ≠ wm := fun e => q4 (by rw [e, hwv]; simp [idsM])
        rw [g5 j (by omega) q1 q2 q3, g4 j hjw, u3.same j (by omega) (by simp [q5, q6]), kk.2 j (by omega), k1.2 j hj]
    by_cases hxw : x ∈ w.wrote
    · rw [setF_mem hxw] at lk
      simp -implicitDefEqProofs (maxSteps := 2000000) (disch := first|assumption|omega|rfl|(simp only[RD];done)|(simp only[RD];omega)) only [RN,Int.reduceBEq,Int.reduceBNe,Int.reduceLT,Int.reduceLE,Int.reduceAdd,Int.reduceSub,Int.reduceMul,Nat.reduceAdd,↓bc_flatz,↓bc_flat16,↓agg_bytez, p10_3, hcl, WS.cells, hwv, u0, lk]
      rw [← hs1]
      simp -implicitDefEqProofs (maxSteps := 2000000) (disch := first|assumption|omega|rfl|(simp only[RD];done)|(simp only[RD];omega)) only [RN,Int.reduceBEq,Int.reduceBNe,Int.reduceLT,Int.reduceLE,Int.reduceAdd,Int.reduceSub,Int.reduceMul,Nat.reduceAdd,↓bc_flatz,↓bc_flat16,↓agg_bytez, p10_2]
      exact fin (fun h => h.1 hxw)
    · rw [setF_not hxw] at lk
      have hcl2b : rdOne (s1.get l) 16 = some (.map (some wm)) := by rw [hcl2, hwv]; rfl
      have hcl2c : rdOne (s1.get l) 15 = some (.int .i64 w.room) := by rw [hcl2]; rfl
      simp -implicitDefEqProofs (maxSteps := 2000000) (disch := first|assumption|omega|rfl|(simp only[RD];done)|(simp only[RD];omega)) only [RN,Int.reduceBEq,Int.reduceBNe,Int.reduceLT,Int.reduceLE,Int.reduceAdd,Int.reduceSub,Int.reduceMul,Nat.reduceAdd,↓bc_flatz,↓bc_flat16,↓agg_bytez, p10_3, hcl, WS.cells, hwv, u0, lk]
      rw [← hs1]
      by_cases hroom : w.room ≤ (w.wrote.length : Int)
      · simp -implicitDefEqProofs (maxSteps := 2000000) (disch := first|assumption|omega|rfl|(simp only[RD];done)|(simp only[RD];omega)) only [RN,Int.reduceBEq,Int.reduceBNe,Int.reduceLT,Int.reduceLE,Int.reduceAdd,Int.reduceSub,Int.reduceMul,Nat.reduceAdd,↓bc_flatz,↓bc_flat16,↓agg_bytez, p10_2, hcl2b, hcl2c, ln, decide_eq_true hroom]
        have ew : w.write x b = (181, w) := by unfold WS.write; rw [if_neg hno, if_neg hx4, if_pos ⟨hxw, hroom⟩]
        rw [ew] at hq
        refine hq s1 _ ⟨_, _, _, _, _, _, h2, hv, h3, h4, rfl⟩ hd2 hA (Upd.keeps (k1.trans kk) (Upd.refl fun j hj => ?_) fun j hj => ?_)
        · rcases List.mem_append.1 hj with hj | hj
          · exact h2.lt j hj
          · exact hd2.lt j hj
        · rcases List.mem_append.1 hj with hj | hj
          · exact hlt j hj
          · exact hd.lt j hj
      · simp -implicitDefEqProofs (maxSteps := 2000000) (disch := first|assumption|omega|rfl|(simp only[RD];done)|(simp only[RD];omega)) only [RN,Int.reduceBEq,Int.reduceBNe,Int.reduceLT,Int.reduceLE,Int.reduceAdd,Int.reduceSub,Int.reduceMul,Nat.reduceAdd,↓bc_flatz,↓bc_flat16,↓agg_bytez, p10_2, hcl2b, hcl2c, ln, decide_eq_false hroom]
        exact fin (fun h => hroom h.2)
end Go.Proofs.Ytiaonndafhfkmaa
