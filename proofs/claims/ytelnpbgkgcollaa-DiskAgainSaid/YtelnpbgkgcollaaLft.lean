/- Chapter 04: what may be left behind a crash: what stands beside the disk; the loops. -/
import Derived.Test.YtelnpbgkgcollaaAwk
import Derived.Test.YtelnpbgkgcollaaBlk
import Derived.Test.YtelnpbgkgcollaaNd
import Derived.Test.YtelnpbgkgcollaaPck
set_option linter.all false
set_option maxRecDepth 100000
set_option maxHeartbeats 800000
namespace Go.Proofs.Ytelnpbgkgcollaa
open Go.Am
variable {σ st st' : Store} {d bn hid : Nat} {s s' : DS} {v : Value} {w : List (Int × List Int)} {B B' : List Int} {os : List (Nat × SObj)} {Q : Value → Store → Prop}
theorem Bun.chg (h : Bun σ st d s os) {ch : List Nat} {os' : List (Nat × SObj)} (hc : ∀ j ∈ ch, σ.next ≤ j ∧ ∃ o, (j, o) ∈ os) (hn : st.next ≤ st'.next) (hg : ∀ j, j < st.next → j ∉ ch → st'.get j = st.get j) (ho : ∀ p ∈ os', st'.get p.1 = some p.2 ∧ (st.next ≤ p.1 ∨ ∃ o, (p.1, o) ∈ os)) : Bun σ st' d s os' := by
  obtain ⟨F, h1, h2, h3, h4⟩ := h
  have hF : ∀ j ∈ F, st'.get j = st.get j := fun j hj => hg j (h1.lt j hj) fun hc' => by
    obtain ⟨_, o, hm⟩ := hc j hc'
    exact (h4 _ hm).1 hj
  refine ⟨F, h1.same hF, h2, ⟨Nat.le_trans h3.1 hn, fun j hj => ?_⟩, fun p hp => ⟨fun hf => ?_, (ho p hp).1⟩⟩
  · rw [hg j (by have := h3.1; omega) (fun hc' => by have := (hc j hc').1; omega), h3.2 j hj]
  · rcases (ho p hp).2 with h | ⟨o, hm⟩
    · have := h1.lt _ hf; omega
    · exact (h4 _ hm).1 hf
def osL (hid : Nat) (B : List Int) (v : Value) (w : List (Int × List Int)) : List (Nat × SObj) := (hid, .cells (bc B) none) :: (idsV v).map fun j => (j, .cells (waitC w) (some 1025))
/-- A disk, an array of blocks and a list of writes. -/
structure LW (σ : Store) (d hid : Nat) (st : Store) (s : DS) (v : Value) (w : List (Int × List Int)) (B : List Int) : Prop where
  b : Bun σ st d s (osL hid B v w)
  sl : SlG st 1025 v w.length (waitC w)
  nn : hid ∉ idsV v
  h1 : σ.next ≤ hid
  h2 : ∀ j ∈ idsV v, σ.next ≤ j
theorem LW.arr (h : LW σ d hid st s v w B) : st.get hid = some (.cells (bc B) none) := h.b.get (List.mem_cons_self ..)
theorem LW.wait (h : LW σ d hid st s v w B) {j : Nat} (hj : j ∈ idsV v) : st.get j = some (.cells (waitC w) (some 1025)) := h.b.get (List.mem_cons_of_mem _ (List.mem_map.2 ⟨j, hj, rfl⟩))
theorem LW.op (h : LW σ d hid st s v w B) (hb : Bun σ st' d s' (osL hid B v w)) : LW σ d hid st' s' v w B where
  b := hb
  sl := h.sl.same fun i hi => by
    rw [h.wait hi]
    exact hb.get (List.mem_cons_of_mem _ (List.mem_map.2 ⟨i, hi, rfl⟩))
  nn := h.nn
  h1 := h.h1
  h2 := h.h2
theorem LW.push (h : LW σ d hid st s v w B) (o : SObj) : LW σ d hid (st.push o) s v w B := h.op (h.b.later ((Keeps.refl st).push o))
theorem LW.store (h : LW σ d hid st s v w B) (B' : List Int) : LW σ d hid (st.put hid (some (.cells (bc B') none))) s v w B' where
  b := h.b.chg (ch := [hid]) (fun j hj => by
      have : j = hid := by simpa using hj
      subst this
      exact ⟨h.h1, _, List.mem_cons_self ..⟩) (by rw [next_max]; omega) (fun j _ hn => get_put_ne' (by simpa using hn)) fun p hp => by
    rcases List.mem_cons.1 hp with rfl | hp
    · exact ⟨Store.get_put_same _ _ _, .inr ⟨_, List.mem_cons_self ..⟩⟩
    · obtain ⟨j, hj, rfl⟩ := List.mem_map.1 hp
      exact ⟨by rw [get_put_ne' (fun e => h.nn (by rw [← e]; exact hj))]; exact h.wait hj, .inr ⟨_, List.mem_cons_of_mem _ (List.mem_map.2 ⟨j, hj, rfl⟩)⟩⟩
  sl := h.sl.same fun i hi => get_put_ne' fun e => h.nn (e ▸ hi)
  nn := h.nn
  h1 := h.h1
  h2 := h.h2
theorem LW.drop (h : LW σ d hid st s v w B) : LW σ d hid st s (.slice none 0 0) [] B where
  b := h.b.less fun p hp => by
    rcases List.mem_cons.1 hp with rfl | hp
    · exact List.mem_cons_self ..
    · simp [idsV] at hp
  sl := SlG.nil
  nn := by simp [idsV]
  h1 := h.h1
  h2 := fun j hj => by simp [idsV] at hj
theorem LW.app (h : LW σ d hid st s v w B) {x : Int} {b : List Int} (hb : b.length = 1024) (hw : w.length < 2 ^ 30) :
    ∃ s' v', appendV 1025 1032 v (.slice (some ⟨st.next, 0, none⟩) 1 1) (st.push (.cells (.int .i64 x :: bc b) none)) = some (v', s') ∧ LW σ d hid s' s v' (w ++ [(x, b)]) B ∧ Keeps σ s' := by
  have h' := h.push (.cells (.int .i64 x :: bc b) none)
  obtain ⟨s', a1, a2, a3, a4⟩ := SlG.app (j := st.next) (k := 1) (gj := none) (by_ := 1032) h'.sl (Store.get_push_same _ _) (by simp [hb]) (by omega) (by omega) (by decide)
  have hk := h'.b.keeps
  have hl : LW σ d hid s' s (.slice (some ⟨(st.push (.cells (.int .i64 x :: bc b) none)).next, 0, some 1025⟩) (w.length + 1) (w.length + 1)) (w ++ [(x, b)]) B := by
    refine ⟨h'.b.chg (ch := idsV v) (fun j hj => ⟨h.h2 j hj, _, List.mem_cons_of_mem _ (List.mem_map.2 ⟨j, hj, rfl⟩)⟩) (by omega) (fun j hj hn => a4 j hj hn) fun p hp => ?_, ?_, ?_, h.h1, fun j hj => ?_⟩
    · rcases List.mem_cons.1 hp with rfl | hp
      · exact ⟨by rw [a4 _ (Store.lt_of_get h'.arr) h.nn]; exact h'.arr, .inr ⟨_, List.mem_cons_self ..⟩⟩
      · obtain ⟨j, hj, rfl⟩ := List.mem_map.1 hp
        have hj' : j = (st.push (.cells (.int .i64 x :: bc b) none)).next := by simpa [idsV] using hj
        subst hj'
        refine ⟨?_, .inl (Nat.le_refl _)⟩
        rw [waitC_app]
        rcases a2.2 with ⟨h0, _⟩ | ⟨i, e, hi, _⟩
        · omega
        · cases e; exact hi
    · rw [waitC_app, List.length_append]; exact a2
    · intro hm
      have := Store.lt_of_get h.arr
      have e : hid = (st.push (.cells (.int .i64 x :: bc b) none)).next := by simpa [idsV] using hm
      rw [Store.next_push] at e
      omega
    · have e : j = (st.push (.cells (.int .i64 x :: bc b) none)).next := by simpa [idsV] using hj
      rw [e]; exact hk.1
  exact ⟨s', _, a1, hl, hl.b.keeps⟩
/-- What waits is laid into the array. -/
theorem flush_ {f : Int → Option (List Int)} {v119 : Value} {k51 : Value → Value → Store → Prop} (h : LW σ d hid st s v w B) (hd : Hd B bn f) (hw : ∀ p ∈ w, (0 ≤ p.1 ∧ p.1 < (bn : Int)) ∧ p.2.length = 1024) (hwl : w.length < 2 ^ 30)
    (hk : ∀ st' B', LW σ d hid st' s v w B' → Hd B' bn (barHeld f w) → k51 v119 (.slice none 0 0) st') :
    lop 1 (fun (n135 : Value → Store → Prop) x136 s137 => p4_1 v s137 x136 (.slice (some ⟨hid, 0, none⟩) bn bn) n135 k51 v119) (.int .i64 0) st := by
  refine lop1 (fun k x st => ∃ (i : Nat) (B' : List Int), k + i = w.length ∧ x = .int .i64 i ∧ LW σ d hid st s v w B' ∧ Hd B' bn (barHeld f (w.take i))) w.length ⟨0, B, rfl, rfl, h, hd⟩ ?_
  rintro k x st next ⟨i, B1, hi, rfl, h1, hd1⟩ hnx
  have hl := h1.sl.r
  by_cases h5 : (i : Int) < (w.length : Nat)
  · have h6 : i < w.length := by omega
    obtain ⟨p, hp⟩ : ∃ p, w[i]? = some p := ⟨_, List.getElem?_eq_getElem h6⟩
    obtain ⟨y, b⟩ := p
    obtain ⟨⟨y0, y1⟩, hb⟩ := hw (y, b) (List.mem_of_getElem? hp)
    have hb : b.length = 1024 := hb
    obtain ⟨yn, rfl⟩ : ∃ yn : Nat, y = (yn : Nat) := ⟨y.toNat, by simp only at y0; omega⟩
    have hy : yn < bn := by simp only at y1; omega
    obtain ⟨a, o, q1, q2, q3⟩ := held_at hl (fun p hp => (hw p hp).2) hp
    have stb := store_bytes (n := 1024) h1.arr hb (o := yn * 1024) (by rw [hd1.1]; omega)
    simp -implicitDefEqProofs (maxSteps := 2000000) (disch := first|assumption|omega|rfl|(simp only[RD];done)|(simp only[RD];omega)) only [RN,Int.reduceBEq,Int.reduceBNe,Int.reduceLT,Int.reduceLE,Int.reduceAdd,Int.reduceSub,Int.reduceMul,Nat.reduceAdd,↓bc_flatz,↓bc_flat16,↓agg_bytez, p4_1, hl.len, decide_eq_true h5, q1, q2, q3, Int.toNat_natCast, stb]
    refine hnx _ _ (by omega) ⟨i + 1, _, by omega, by congr 1, h1.store _, ?_⟩
    rw [barHeld_succ hp]
    exact hd1.keep hy hb
  · have e : i = w.length := by omega
    simp -implicitDefEqProofs (maxSteps := 2000000) (disch := first|assumption|omega|rfl|(simp only[RD];done)|(simp only[RD];omega)) only [RN,Int.reduceBEq,Int.reduceBNe,Int.reduceLT,Int.reduceLE,Int.reduceAdd,Int.reduceSub,Int.reduceMul,Nat.reduceAdd,↓bc_flatz,↓bc_flat16,↓agg_bytez, p4_1, hl.len, decide_eq_false h5]
    refine hk _ _ h1 ?_
    rw [e, List.take_length] at hd1
    exact hd1
/-- What is kept is laid into the array. -/
theorem kept_ {f : Int → Option (List Int)} {kv : Value} {ks : List Bool} {a0 v20 : Value} {K : Value → Store → Prop} (h : LW σ d hid st s v w B) (hd : Hd B bn f) (hw : ∀ p ∈ w, (0 ≤ p.1 ∧ p.1 < (bn : Int)) ∧ p.2.length = 1024) (hwl : w.length < 2 ^ 30)
    (hks : ∀ st, Keeps σ st → SlR st 1 kv ks.length (bC ks))
    (hk : ∀ st' B', LW σ d hid st' s v w B' → Hd B' bn (heldI f w ks w.length) → lop 1 (fun (n250 : Value → Store → Prop) x251 s252 => vop (binI .lss x251 a0) s252 fun v253 s254 => p4_8 v253 v20 x251 s254 K (.slice (some ⟨hid, 0, none⟩) bn bn) n250) (.int .i64 0) st') :
    p4_9 (.bool false) K st v kv (.slice (some ⟨hid, 0, none⟩) bn bn) a0 v20 := by
  simp -implicitDefEqProofs (maxSteps := 2000000) (disch := first|assumption|omega|rfl|(simp only[RD];done)|(simp only[RD];omega)) only [RN,Int.reduceBEq,Int.reduceBNe,Int.reduceLT,Int.reduceLE,Int.reduceAdd,Int.reduceSub,Int.reduceMul,Nat.reduceAdd,↓bc_flatz,↓bc_flat16,↓agg_bytez, p4_9]
  refine lop1 (fun k x st => ∃ (i : Nat) (B' : List Int), k + i = w.length ∧ x = .int .i64 i ∧ LW σ d hid st s v w B' ∧ Hd B' bn (heldI f w ks i) ∧ ∀ j, i ≤ j → heldI f w ks j = heldI f w ks j) w.length ⟨0, B, rfl, rfl, h, hd, fun _ _ => rfl⟩ ?_
  rintro k x st next ⟨i, B1, hi, rfl, h1, hd1, _⟩ hnx
  have hl := h1.sl.r
  have hkk := hks st h1.b.keeps
  have hkl : (bC ks).length = ks.length := by simp [bC]
  by_cases h5 : (i : Int) < (w.length : Nat)
  · have h6 : i < w.length := by omega
    by_cases h7 : (i : Int) < (ks.length : Nat)
    · have h8 : i < ks.length := by omega
      obtain ⟨p, hp⟩ : ∃ p, w[i]? = some p := ⟨_, List.getElem?_eq_getElem h6⟩
      obtain ⟨y, b⟩ := p
      obtain ⟨⟨y0, y1⟩, hb⟩ := hw (y, b) (List.mem_of_getElem? hp)
      have hb : b.length = 1024 := hb
      obtain ⟨yn, rfl⟩ : ∃ yn : Nat, y = (yn : Nat) := ⟨y.toNat, by simp only at y0; omega⟩
      have hy : yn < bn := by simp only at y1; omega
      obtain ⟨a, o, q1, q2, q3⟩ := held_at hl (fun p hp => (hw p hp).2) hp
      have hkb : (bC ks)[i]? = some (.bool ks[i]) := by unfold bC; rw [List.getElem?_map, List.getElem?_eq_getElem h8]; rfl
      obtain ⟨a', o', r1, r2⟩ := one_at hkk hkb h8
      have hgk : ks.getD i false = ks[i] := by rw [List.getD_eq_getElem?_getD, List.getElem?_eq_getElem h8]; rfl
      have hgw : w.getD i (0, []) = (((yn : Nat) : Int), b) := by rw [List.getD_eq_getElem?_getD, hp]; rfl
      cases hki : ks[i] with
      | false =>
        rw [hki] at r2 hgk
        simp -implicitDefEqProofs (maxSteps := 2000000) (disch := first|assumption|omega|rfl|(simp only[RD];done)|(simp only[RD];omega)) only [RN,Int.reduceBEq,Int.reduceBNe,Int.reduceLT,Int.reduceLE,Int.reduceAdd,Int.reduceSub,Int.reduceMul,Nat.reduceAdd,↓bc_flatz,↓bc_flat16,↓agg_bytez, hl.len, decide_eq_true h5, hkk.len, decide_eq_true h7, p4_6, r1, r2]
        refine hnx _ _ (by omega) ⟨i + 1, _, by omega, by congr 1, h1, ?_, fun _ _ => rfl⟩
        unfold heldI
        rw [hgk]
        exact hd1
      | true =>
        rw [hki] at r2 hgk
        have stb := store_bytes (n := 1024) h1.arr hb (o := yn * 1024) (by rw [hd1.1]; omega)
        simp -implicitDefEqProofs (maxSteps := 2000000) (disch := first|assumption|omega|rfl|(simp only[RD];done)|(simp only[RD];omega)) only [RN,Int.reduceBEq,Int.reduceBNe,Int.reduceLT,Int.reduceLE,Int.reduceAdd,Int.reduceSub,Int.reduceMul,Nat.reduceAdd,↓bc_flatz,↓bc_flat16,↓agg_bytez, hl.len, decide_eq_true h5, hkk.len, decide_eq_true h7, p4_6, r1, r2, q1, q2, q3, Int.toNat_natCast, stb]
        refine hnx _ _ (by omega) ⟨i + 1, _, by omega, by congr 1, h1.store _, ?_, fun _ _ => rfl⟩
        unfold heldI
        rw [hgk, if_pos rfl, hgw]
        exact hd1.keep hy hb
    · simp -implicitDefEqProofs (maxSteps := 2000000) (disch := first|assumption|omega|rfl|(simp only[RD];done)|(simp only[RD];omega)) only [RN,Int.reduceBEq,Int.reduceBNe,Int.reduceLT,Int.reduceLE,Int.reduceAdd,Int.reduceSub,Int.reduceMul,Nat.reduceAdd,↓bc_flatz,↓bc_flat16,↓agg_bytez, hl.len, decide_eq_true h5, hkk.len, decide_eq_false h7]
      refine hk _ _ h1 ?_
      have e : ∀ t, heldI f w ks (i + t) = heldI f w ks i := fun t => by
        induction t with
        | zero => rfl
        | succ t ih =>
          show (if ks.getD (i + t) false then _ else _) = _
          have : ks.getD (i + t) false = false := by rw [List.getD_eq_getElem?_getD, List.getElem?_eq_none (by omega)]; rfl
          rw [this]
          exact ih
      have e2 := e (w.length - i)
      rw [show i + (w.length - i) = w.length by omega] at e2
      rw [e2]; exact hd1
  · have e : i = w.length := by omega
    simp -implicitDefEqProofs (maxSteps := 2000000) (disch := first|assumption|omega|rfl|(simp only[RD];done)|(simp only[RD];omega)) only [RN,Int.reduceBEq,Int.reduceBNe,Int.reduceLT,Int.reduceLE,Int.reduceAdd,Int.reduceSub,Int.reduceMul,Nat.reduceAdd,↓bc_flatz,↓bc_flat16,↓agg_bytez, hl.len, decide_eq_false h5]
    refine hk _ _ h1 ?_
    rw [← e]; exact hd1
/-- The disk tells what the array tells. -/
theorem tell_ {Q : Value → Store → Prop} {m : Nat} (h : LW σ d hid st s v w B) (hd : Hd B bn s.held) (hl : ∀ x b, s.held x = some b → b.length = 1024) (hC : s.C m) (hm : m + bn < 2 ^ 29) (hn : s.n = (bn : Nat)) (hde : s.dead = false) (hwt : s.wait = []) (hh : s.hist = []) (hq : ∀ σ', Q (.bool true) σ') :
    lop 1 (fun (n250 : Value → Store → Prop) x251 s252 => vop (binI .lss x251 (.int .i64 (bn : Nat))) s252 fun v253 s254 => p4_8 v253 (.pointer (some ⟨d, 0, none⟩)) x251 s254 Q (.slice (some ⟨hid, 0, none⟩) bn bn) n250) (.int .i64 0) st := by
  refine lop1 (fun k x st => ∃ (i : Nat) (r : DS), k + i = bn ∧ x = .int .i64 i ∧ LW σ d hid st r v w B ∧ r.C (m + i) ∧ r.n = s.n ∧ r.dead = false ∧ r.wait = [] ∧ r.hist = [] ∧ r.held = s.held) bn ⟨0, s, by omega, rfl, h, hC, rfl, hde, hwt, hh, rfl⟩ ?_
  rintro k x st next ⟨i, r, hi, rfl, h1, c1, rn, rd, rw_, rh, rf⟩ hnx
  by_cases h5 : (i : Int) < (bn : Nat)
  · have h6 : i < bn := by omega
    simp -implicitDefEqProofs (maxSteps := 2000000) (disch := first|assumption|omega|rfl|(simp only[RD];done)|(simp only[RD];omega)) only [RN,Int.reduceBEq,Int.reduceBNe,Int.reduceLT,Int.reduceLE,Int.reduceAdd,Int.reduceSub,Int.reduceMul,Nat.reduceAdd,↓bc_flatz,↓bc_flat16,↓agg_bytez, decide_eq_true h5, p4_8]
    have er : r.read i = ((s.held i).getD zb, 0, { r with reads := r.reads + 1 }) := by
      unfold DS.read
      rw [if_neg (by rw [rd]; decide), if_neg (by rw [rn, hn]; omega)]
      unfold DS.at
      rw [rw_, rf]; rfl
    refine bread_ h1.b c1 (by omega) fun st2 b2 => ?_
    have C2 := read_C c1 (i := i)
    rw [er] at b2 C2 ⊢
    have h2 := h1.op b2
    obtain ⟨t, ht⟩ : ∃ t, t = (s.held i).getD zb := ⟨_, rfl⟩
    have htl : t.length = 1024 := by
      rw [ht]
      cases hx : s.held i with
      | none => exact zb_len
      | some b => exact hl _ _ hx
    have z1 := zb_len
    simp only
    rw [← ht]
    obtain ⟨s3, hs3⟩ : ∃ s3, s3 = st2.push (.cells (bc t) none) := ⟨_, rfl⟩
    have h3 : LW σ d hid s3 { r with reads := r.reads + 1 } v w B := by rw [hs3]; exact h2.push _
    have c3 : s3.get st2.next = some (.cells (bc t) none) := by rw [hs3]; exact Store.get_push_same _ _
    have ra : rdPart (some (.cells (bc B) none)) (i * 1024) 1024 = some (.agg ⟨bc t⟩) := by rw [rdPart_bc (by rw [hd.1]; omega), hd.2 i h6, ht]
    have eq1 := eqA_bc (n := 1024) true htl htl
    rw [decide_eq_true rfl] at eq1
    simp -implicitDefEqProofs (maxSteps := 2000000) (disch := first|assumption|omega|rfl|(simp only[RD];done)|(simp only[RD];omega)) only [RN,Int.reduceBEq,Int.reduceBNe,Int.reduceLT,Int.reduceLE,Int.reduceAdd,Int.reduceSub,Int.reduceMul,Nat.reduceAdd,↓bc_flatz,↓bc_flat16,↓agg_bytez, p4_7, htl]
    rw [← hs3]
    simp -implicitDefEqProofs (maxSteps := 2000000) (disch := first|assumption|omega|rfl|(simp only[RD];done)|(simp only[RD];omega)) only [RN,Int.reduceBEq,Int.reduceBNe,Int.reduceLT,Int.reduceLE,Int.reduceAdd,Int.reduceSub,Int.reduceMul,Nat.reduceAdd,↓bc_flatz,↓bc_flat16,↓agg_bytez, c3, h3.arr, Int.toNat_natCast, ra, eq1]
    exact hnx _ _ (by omega) ⟨i + 1, _, by omega, by congr 1, h3, C2, rn, rd, rw_, rh, rf⟩
  · simp -implicitDefEqProofs (maxSteps := 2000000) (disch := first|assumption|omega|rfl|(simp only[RD];done)|(simp only[RD];omega)) only [RN,Int.reduceBEq,Int.reduceBNe,Int.reduceLT,Int.reduceLE,Int.reduceAdd,Int.reduceSub,Int.reduceMul,Nat.reduceAdd,↓bc_flatz,↓bc_flat16,↓agg_bytez, decide_eq_false h5, p4_8]
    refine bpending_ h1.b c1 (by omega) fun st2 v2 b2 hv2 => ?_
    rw [rw_] at hv2
    have z0 : ((((0 : Nat) : Int)) == 0) = true := rfl
    have hv2 : lenSl v2 = some (.int .i64 ((0 : Nat) : Int)) := hv2
    simp -implicitDefEqProofs (maxSteps := 2000000) (disch := first|assumption|omega|rfl|(simp only[RD];done)|(simp only[RD];omega)) only [RN,Int.reduceBEq,Int.reduceBNe,Int.reduceLT,Int.reduceLE,Int.reduceAdd,Int.reduceSub,Int.reduceMul,Nat.reduceAdd,↓bc_flatz,↓bc_flat16,↓agg_bytez, hv2, z0]
    refine bhist_ b2 c1 (by omega) fun st3 v3 b3 hv3 => ?_
    rw [rh] at hv3
    have hv3 : lenSl v3 = some (.int .i64 ((0 : Nat) : Int)) := hv3
    simp -implicitDefEqProofs (maxSteps := 2000000) (disch := first|assumption|omega|rfl|(simp only[RD];done)|(simp only[RD];omega)) only [RN,Int.reduceBEq,Int.reduceBNe,Int.reduceLT,Int.reduceLE,Int.reduceAdd,Int.reduceSub,Int.reduceMul,Nat.reduceAdd,↓bc_flatz,↓bc_flat16,↓agg_bytez, hv3, z0]
    exact hq _
end Go.Proofs.Ytelnpbgkgcollaa
