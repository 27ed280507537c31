/- Chapter 08: run, where nothing stops the disk. -/
import Derived.Test.YtkmalbaollffiaaBeh
set_option linter.all false
set_option maxRecDepth 100000
set_option maxHeartbeats 1600000
namespace Go.Proofs.Ytkmalbaollffiaa
open Go.Am
variable {σ st st' : Store} {l d : Nat} {w : WS} {s : DS} {m bn : Nat} {os : List (Nat × SObj)} {Q : Value → Store → Prop} {g : Geo} {T : List Int}
theorem Rn.set {j : Nat} {c : List Value} (h : Rn σ st l d w s m ((j, .cells c none) :: os)) (c' : List Value) (hj : σ.next ≤ j) (hne : ∀ p ∈ os, p.1 ≠ j) : Rn σ (st.put j (some (.cells c' none))) l d w s m ((j, .cells c' none) :: os) :=
  h.chg (ch := [j]) (fun q hq => by
    have : q = j := by simpa using hq
    rw [this]; exact ⟨hj, _, List.mem_cons_self ..⟩) (by rw [next_max]; omega) (fun q _ hn => get_put_ne' (by simpa using hn)) fun q hq => by
    rcases List.mem_cons.1 hq with rfl | hq
    · exact ⟨Store.get_put_same _ _ _, .inr ⟨_, List.mem_cons_self ..⟩⟩
    · exact ⟨by rw [get_put_ne' (hne q hq)]; exact h.get (List.mem_cons_of_mem _ hq), .inr ⟨_, List.mem_cons_of_mem _ hq⟩⟩
theorem append_lit {u v : Value} {i j : Nat} (hi : st.get i = some (.cells [u] none)) (hj : st.get j = some (.cells [v] none)) :
    appendV 1 24 (.slice (some ⟨i, 0, none⟩) 1 1) (.slice (some ⟨j, 0, none⟩) 1 1) st = some (.slice (some ⟨st.next, 0, some 1⟩) 2 2, st.push (.cells [u, v] (some 1))) := by
  have h4 : Nat.ble 1 1 = true := rfl
  have h5 : Nat.ble 2 1 = false := rfl
  have h6 : Nat.ble 48 140737488355328 = true := Nat.ble_eq_true_of_le (by omega)
  have h7 : Nat.ble 2 9223372036854775807 = true := Nat.ble_eq_true_of_le (by omega)
  simp [appendV, lenV, sourceV, cellsAt, hi, hj, h4, h5, h6, h7]
/-- One more is told. -/
theorem Rn.tell {oid n : Nat} {og : Option Nat} {c : List Value} (h : Rn σ st l d w s m ((oid, .cells c og) :: os)) (ho : σ.next ≤ oid) (hne : ∀ p ∈ os, p.1 ≠ oid) (hl : c.length = n + 1) (hog : og = some 1 ∨ og = none ∧ n = 0) (hn : n < 1000) (v : Value) :
    ∃ id st', appendV 1 24 (.slice (some ⟨oid, 0, og⟩) (n + 1) (n + 1)) (.slice (some ⟨st.next, 0, none⟩) 1 1) (st.push (.cells [v] none)) = some (.slice (some ⟨id, 0, some 1⟩) (n + 2) (n + 2), st') ∧ Rn σ st' l d w s m ((id, .cells (c ++ [v]) (some 1)) :: os) ∧ σ.next ≤ id ∧ (∀ p ∈ os, p.1 ≠ id) ∧ st.next ≤ id := by
  rcases hog with rfl | ⟨rfl, rfl⟩
  · have hc := h.get (List.mem_cons_self ..)
    have hs : SlG st 1 (.slice (some ⟨oid, 0, some 1⟩) (n + 1) (n + 1)) (n + 1) c := ⟨by omega, .inr ⟨oid, rfl, hc, by omega⟩⟩
    have h' : Rn σ st l d w s m (slO (.slice (some ⟨oid, 0, some 1⟩) (n + 1) (n + 1)) c 1 ++ os) := by simpa [slO, idsV] using h
    obtain ⟨id, st', a1, a2, a3, a4, a5⟩ := h'.app (by_ := 24) hs (fun j hj => by
      have : j = oid := by simpa [idsV] using hj
      rw [this]; exact ho) (fun p hp => by simpa [idsV] using hne p hp) (news := [v]) rfl (by omega) (by omega) (by decide)
    have hid : (id, SObj.cells (c ++ [v]) (some 1)) ∈ slO (.slice (some ⟨id, 0, some 1⟩) (n + 1 + 1) (n + 1 + 1)) (c ++ [v]) 1 ++ os := List.mem_append_left _ (by simp [slO, idsV])
    refine ⟨id, st', a1, by simpa [slO, idsV] using a2, a4, a5, ?_⟩
    have hp := (h.push (.cells [v] none))
    obtain ⟨s'', b1, b2, b3, b4⟩ := SlG.app (j := st.next) (k := 1) (gj := none) (by_ := 24) (hs.same fun i hi => ((Keeps.refl st).push (.cells [v] none)).2 i (hs.lt i hi)) (Store.get_push_same _ _) (news := [v]) rfl (by omega) (by omega) (by decide)
    rw [b1] at a1
    have e := Option.some.inj a1
    have e1 : (Value.slice (some ⟨(st.push (.cells [v] none)).next, 0, some 1⟩) (n + 1 + 1) (n + 1 + 1)) = .slice (some ⟨id, 0, some 1⟩) (n + 1 + 1) (n + 1 + 1) := congrArg Prod.fst e
    injection e1 with e2
    have e3 := Option.some.inj e2
    injection e3 with e4
    rw [Store.next_push] at e4
    omega
  · obtain ⟨u, rfl⟩ : ∃ u, c = [u] := by
      match c, hl with
      | [u], _ => exact ⟨u, rfl⟩
    have h2 := h.push (.cells [v] none)
    have k : Keeps st (st.push (.cells [v] none)) := (Keeps.refl st).push _
    have hc := h.get (List.mem_cons_self ..)
    have a1 := append_lit (u := u) (v := v) (i := oid) (j := st.next) (k.get hc) (Store.get_push_same _ _)
    have h3 := h2.push (.cells [u, v] (some 1))
    refine ⟨_, _, a1, h3.less fun p hp => ?_, h2.keeps.1, fun p hp e => ?_, by rw [Store.next_push]; omega⟩
    · rcases List.mem_cons.1 hp with rfl | hp
      · exact List.mem_cons_self ..
      · exact List.mem_cons_of_mem _ (List.mem_cons_of_mem _ (List.mem_cons_of_mem _ hp))
    · have := Store.lt_of_get (h.get (j := p.1) (o := p.2) (List.mem_cons_of_mem _ hp))
      rw [Store.next_push] at e
      omega
def scC (tv : Value) (least i : Int) : List Value := [tv, .int .i64 least, .int .i64 i, .bool true]
/-- The law in the midst of its run. -/
structure Rm (σ st : Store) (l d : Nat) (w : WS) (s : DS) (m : Nat) (sid oid iid : Nat) (og : Option Nat) (c : List Value) (T : List Int) (bn i : Nat) (least : Int) (cs : List (Nat × SObj)) : Prop where
  r : Rn σ st l d w s m ((sid, .cells (scC (.slice (some ⟨oid, 0, og⟩) (i + 1) (i + 1)) least i) none) :: (oid, .cells c og) :: (iid, .cells (bc T) (some 1024)) :: cs)
  s1 : σ.next ≤ sid
  o1 : σ.next ≤ oid
  s2 : ∀ p ∈ (oid, SObj.cells c og) :: (iid, SObj.cells (bc T) (some 1024)) :: cs, p.1 ≠ sid
  o2 : ∀ p ∈ (iid, SObj.cells (bc T) (some 1024)) :: cs, p.1 ≠ oid
  l1 : c.length = i + 1
  l2 : c[i]? = some (.slice (some ⟨iid, 0, some 1024⟩) bn bn)
  og : og = some 1 ∨ og = none ∧ i = 0
variable {sid oid iid i : Nat} {og : Option Nat} {c : List Value} {least : Int} {cs : List (Nat × SObj)}
theorem Rm.next {w' : WS} {s' : DS} {m' : Nat} {least' : Int} (h : Rm σ st l d w s m sid oid iid og c T bn i least cs) (r : Rn σ st' l d w' s' m' ((sid, .cells (scC (.slice (some ⟨oid, 0, og⟩) (i + 1) (i + 1)) least' i) none) :: (oid, .cells c og) :: (iid, .cells (bc T) (some 1024)) :: cs)) : Rm σ st' l d w' s' m' sid oid iid og c T bn i least' cs :=
  ⟨r, h.s1, h.o1, h.s2, h.o2, h.l1, h.l2, h.og⟩
theorem Rm.set (h : Rm σ st l d w s m sid oid iid og c T bn i least cs) (least' : Int) : Rm σ (st.put sid (some (.cells (scC (.slice (some ⟨oid, 0, og⟩) (i + 1) (i + 1)) least' i) none))) l d w s m sid oid iid og c T bn i least' cs := h.next (h.r.set _ h.s1 h.s2)
theorem Rm.cS (h : Rm σ st l d w s m sid oid iid og c T bn i least cs) : st.get sid = some (.cells (scC (.slice (some ⟨oid, 0, og⟩) (i + 1) (i + 1)) least i) none) := h.r.get (List.mem_cons_self ..)
theorem Rm.cO (h : Rm σ st l d w s m sid oid iid og c T bn i least cs) : st.get oid = some (.cells c og) := h.r.get (List.mem_cons_of_mem _ (List.mem_cons_self ..))
theorem Rm.cc (h : Rm σ st l d w s m sid oid iid og c T bn i least cs) {j : Nat} {o : SObj} (hm : (j, o) ∈ cs) : st.get j = some o := h.r.get (List.mem_cons_of_mem _ (List.mem_cons_of_mem _ (List.mem_cons_of_mem _ hm)))
theorem Rm.gi (h : Rm σ st l d w s m sid oid iid og c T bn i least cs) : iaddrS 1 (.slice (some ⟨oid, 0, og⟩) (i + 1) (i + 1)) (.int .i64 ((i : Nat) : Int)) = some (.pointer (some ⟨oid, i, none⟩)) := by
  rcases h.og with rfl | ⟨rfl, _⟩
  · rw [iaddrS_grown (by omega) (by omega)]; simp
  · rw [iaddrS_eq (by omega) (by omega)]; simp
theorem sc0 (tv : Value) (a b : Int) : (scC tv a b)[0]? = some tv := rfl
theorem sc1 (tv : Value) (a b : Int) : (scC tv a b)[1]? = some (.int .i64 a) := rfl
theorem sc2 (tv : Value) (a b : Int) : (scC tv a b)[2]? = some (.int .i64 b) := rfl
theorem sc3 (tv : Value) (a b : Int) : (scC tv a b)[3]? = some (.bool true) := rfl
theorem st3 {tv : Value} {a b : Int} {j : Nat} (h : st.get j = some (.cells (scC tv a b) none)) : storeV 1 (.pointer (some ⟨j, 3, none⟩)) (.bool true) st = some (junk, st.put j (some (.cells (scC tv a b) none))) := by
  rw [store_cells h (vs := [.bool true]) rfl (by simp [scC])]; rfl
theorem st1 {tv : Value} {a b x : Int} {j : Nat} (h : st.get j = some (.cells (scC tv a b) none)) : storeV 1 (.pointer (some ⟨j, 1, none⟩)) (.int .i64 x) st = some (junk, st.put j (some (.cells (scC tv x b) none))) := by
  rw [store_cells h (vs := [.int .i64 x]) rfl (by simp [scC])]; rfl
theorem st2 {tv : Value} {a b x : Int} {j : Nat} (h : st.get j = some (.cells (scC tv a b) none)) : storeV 1 (.pointer (some ⟨j, 2, none⟩)) (.int .i64 x) st = some (junk, st.put j (some (.cells (scC tv a x) none))) := by
  rw [store_cells h (vs := [.int .i64 x]) rfl (by simp [scC])]; rfl
theorem st0 {tv tv' : Value} {a b : Int} {j : Nat} (ht : ∃ x n k, tv' = .slice x n k) (h : st.get j = some (.cells (scC tv a b) none)) : storeV 1 (.pointer (some ⟨j, 0, none⟩)) tv' st = some (junk, st.put j (some (.cells (scC tv' a b) none))) := by
  obtain ⟨x, n, k, rfl⟩ := ht
  rw [store_cells h (vs := [.slice x n k]) rfl (by simp [scC])]; rfl
theorem wS0 {tv v : Value} {a b : Int} {j : Nat} : wrOne (some (.cells (scC tv a b) none)) st j 0 v = some (junk, st.put j (some (.cells (scC v a b) none))) := rfl
theorem wS1 {tv : Value} {a b x : Int} {j : Nat} : wrOne (some (.cells (scC tv a b) none)) st j 1 (.int .i64 x) = some (junk, st.put j (some (.cells (scC tv x b) none))) := rfl
theorem wS2 {tv : Value} {a b x : Int} {j : Nat} : wrOne (some (.cells (scC tv a b) none)) st j 2 (.int .i64 x) = some (junk, st.put j (some (.cells (scC tv a x) none))) := rfl
theorem wS3 {tv : Value} {a b : Int} {j : Nat} : wrOne (some (.cells (scC tv a b) none)) st j 3 (.bool true) = some (junk, st.put j (some (.cells (scC tv a b) none))) := rfl
end Go.Proofs.Ytkmalbaollffiaa
