/- Chapter 08: run, where nothing stops the disk. -/
import Derived.Test.YtkmalbaollffiaaWbe
import Derived.Test.YtkmalbaollffiaaCut8
set_option linter.all false
set_option maxRecDepth 100000
set_option maxHeartbeats 1600000
namespace Go.Proofs.Ytkmalbaollffiaa
open Go.Am
variable {σ st st' : Store} {l d : Nat} {w : WS} {s : DS} {m bn : Nat} {os : List (Nat × SObj)} {Q : Value → Store → Prop} {g : Geo} {T : List Int}
theorem Rg.set {L : LPt} {j : Nat} {c : List Value} (h : Rg L σ st d s m ((j, .cells c none) :: os)) (c' : List Value) (hj : σ.next ≤ j) (hne : ∀ p ∈ os, p.1 ≠ j) : Rg L σ (st.put j (some (.cells c' none))) d s m ((j, .cells c' none) :: os) :=
  h.chg (ch := [j]) (fun q hq => by
    have : q = j := by simpa using hq
    rw [this]; exact ⟨hj, _, List.mem_cons_self ..⟩) (by rw [next_max]; omega) (fun q _ hn => get_put_ne' (by simpa using hn)) fun q hq => by
    rcases List.mem_cons.1 hq with rfl | hq
    · exact ⟨Store.get_put_same _ _ _, .inr ⟨_, List.mem_cons_self ..⟩⟩
    · exact ⟨by rw [get_put_ne' (hne q hq)]; exact h.get (List.mem_cons_of_mem _ hq), .inr ⟨_, List.mem_cons_of_mem _ hq⟩⟩
theorem append_lit {u v : Value} {i j : Nat} (hi : st.get i = some (.cells [u] none)) (hj : st.get j = some (.cells [v] none)) :
    appendV 1 24 (.slice (some ⟨i, 0, none⟩) 1 1) (.slice (some ⟨j, 0, none⟩) 1 1) st = some (.slice (some ⟨st.next, 0, some 1⟩) 2 2, st.push (.cells [u, v] (some 1))) := by
  have h4 : Nat.ble 1 1 = true := rfl
  have h5 : Nat.ble 2 1 = false := rfl
  have h6 : Nat.ble 48 140737488355328 = true := Nat.ble_eq_true_of_le (by omega)
  have h7 : Nat.ble 2 9223372036854775807 = true := Nat.ble_eq_true_of_le (by omega)
  simp [appendV, lenV, sourceV, cellsAt, hi, hj, h4, h5, h6, h7]
/-- One more is told. -/
theorem Rg.tell {oid n : Nat} {og : Option Nat} {c : List Value} (h : Rn σ st l d w s m ((oid, .cells c og) :: os)) (ho : σ.next ≤ oid) (hne : ∀ p ∈ os, p.1 ≠ oid) (hl : c.length = n + 1) (hog : og = some 1 ∨ og = none ∧ n = 0) (hn : n < 1000) (v : Value) :
    ∃ id st', appendV 1 24 (.slice (some ⟨oid, 0, og⟩) (n + 1) (n + 1)) (.slice (some ⟨st.next, 0, none⟩) 1 1) (st.push (.cells [v] none)) = some (.slice (some ⟨id, 0, some 1⟩) (n + 2) (n + 2), st') ∧ Rn σ st' l d w s m ((id, .cells (c ++ [v]) (some 1)) :: os) ∧ σ.next ≤ id ∧ (∀ p ∈ os, p.1 ≠ id) ∧ st.next ≤ id := by
  rcases hog with rfl | ⟨rfl, rfl⟩
  · have hc := h.get (List.mem_cons_self ..)
    have hs : SlG st 1 (.slice (some ⟨oid, 0, some 1⟩) (n + 1) (n + 1)) (n + 1) c := ⟨by omega, .inr ⟨oid, rfl, hc, by omega⟩⟩
    have h' : Rn σ st l d w s m (slO (.slice (some ⟨oid, 0, some 1⟩) (n + 1) (n + 1)) c 1 ++ os) := by simpa [slO, idsV] using h
    obtain ⟨id, st', a1, a2, a3, a4, a5⟩ := h'.app (by_ := 24) hs (fun j hj => by
      have : j = oid := by simpa [idsV] using hj
      rw [this]; exact ho) (fun p hp => by simpa [idsV] using hne p hp) (news := [v]) rfl (by omega) (by omega) (by decide)
    have hid : (id, SObj.cells (c ++ [v]) (some 1)) ∈ slO (.slice (some ⟨id, 0, some 1⟩) (n + 1 + 1) (n + 1 + 1)) (c ++ [v]) 1 ++ os := List.mem_append_left _ (by simp [slO, idsV])
    refine ⟨id, st', a1, by simpa [slO, idsV] using a2, a4, a5, ?_⟩
    have hp := (h.push (.cells [v] none))
    obtain ⟨s'', b1, b2, b3, b4⟩ := SlG.app (j := st.next) (k := 1) (gj := none) (by_ := 24) (hs.same fun i hi => ((Keeps.refl st).push (.cells [v] none)).2 i (hs.lt i hi)) (Store.get_push_same _ _) (news := [v]) rfl (by omega) (by omega) (by decide)
    rw [b1] at a1
    have e := Option.some.inj a1
    have e1 : (Value.slice (some ⟨(st.push (.cells [v] none)).next, 0, some 1⟩) (n + 1 + 1) (n + 1 + 1)) = .slice (some ⟨id, 0, some 1⟩) (n + 1 + 1) (n + 1 + 1) := congrArg Prod.fst e
    injection e1 with e2
    have e3 := Option.some.inj e2
    injection e3 with e4
    rw [Store.next_push] at e4
    omega
  · obtain ⟨u, rfl⟩ : ∃ u, c = [u] := by
      match c, hl with
      | [u], _ => exact ⟨u, rfl⟩
    have h2 := h.push (.cells [v] none)
    have k : Keeps st (st.push (.cells [v] none)) := (Keeps.refl st).push _
    have hc := h.get (List.mem_cons_self ..)
    have a1 := append_lit (u := u) (v := v) (i := oid) (j := st.next) (k.get hc) (Store.get_push_same _ _)
    have h3 := h2.push (.cells [u, v] (some 1))
    refine ⟨_, _, a1, h3.less fun p hp => ?_, h2.keeps.1, fun p hp e => ?_, by rw [Store.next_push]; omega⟩
    · rcases List.mem_cons.1 hp with rfl | hp
      · exact List.mem_cons_self ..
      · exact List.mem_cons_of_mem _ (List.mem_cons_of_mem _ (List.mem_cons_of_mem _ hp))
    · have := Store.lt_of_get (h.get (j := p.1) (o := p.2) (List.mem_cons_of_mem _ hp))
      rw [Store.next_push] at e
      omega
def scC (tv : Value) (least i : Int) : List Value := [tv, .int .i64 least, .int .i64 i, .bool true]
/-- The law in the midst of its run. -/
structure Rmg (L : LPt) (σ st : Store) (d : Nat) (s : DS) (m : Nat) (sid oid iid : Nat) (og : Option Nat) (c : List Value) (T : List Int) (bn i : Nat) (least : Int) (cs : List (Nat × SObj)) : Prop where
  r : Rg L σ st d s m ((sid, .cells (scC (.slice (some ⟨oid, 0, og⟩) (i + 1) (i + 1)) least i) none) :: (oid, .cells c og) :: (iid, .cells (bc T) (some 1024)) :: cs)
  s1 : σ.next ≤ sid
  o1 : σ.next ≤ oid
  s2 : ∀ p ∈ (oid, SObj.cells c og) :: (iid, SObj.cells (bc T) (some 1024)) :: cs, p.1 ≠ sid
  o2 : ∀ p ∈ (iid, SObj.cells (bc T) (some 1024)) :: cs, p.1 ≠ oid
  l1 : c.length = i + 1
  l2 : c[i]? = some (.slice (some ⟨iid, 0, some 1024⟩) bn bn)
  og : og = some 1 ∨ og = none ∧ i = 0
abbrev Rm (σ st : Store) (l d : Nat) (w : WS) (s : DS) (m : Nat) (sid oid iid : Nat) (og : Option Nat) (c : List Value) (T : List Int) (bn i : Nat) (least : Int) (cs : List (Nat × SObj)) : Prop := Rmg (LW l d w) σ st d s m sid oid iid og c T bn i least cs
variable {sid oid iid i : Nat} {og : Option Nat} {c : List Value} {least : Int} {cs : List (Nat × SObj)} {L L' : LPt}
theorem Rmg.next {s' : DS} {m' : Nat} {least' : Int} (h : Rmg L σ st d s m sid oid iid og c T bn i least cs) (r : Rg L' σ st' d s' m' ((sid, .cells (scC (.slice (some ⟨oid, 0, og⟩) (i + 1) (i + 1)) least' i) none) :: (oid, .cells c og) :: (iid, .cells (bc T) (some 1024)) :: cs)) : Rmg L' σ st' d s' m' sid oid iid og c T bn i least' cs :=
  ⟨r, h.s1, h.o1, h.s2, h.o2, h.l1, h.l2, h.og⟩
theorem Rmg.set (h : Rmg L σ st d s m sid oid iid og c T bn i least cs) (least' : Int) : Rmg L σ (st.put sid (some (.cells (scC (.slice (some ⟨oid, 0, og⟩) (i + 1) (i + 1)) least' i) none))) d s m sid oid iid og c T bn i least' cs := h.next (h.r.set _ h.s1 h.s2)
theorem Rmg.cS (h : Rmg L σ st d s m sid oid iid og c T bn i least cs) : st.get sid = some (.cells (scC (.slice (some ⟨oid, 0, og⟩) (i + 1) (i + 1)) least i) none) := h.r.get (List.mem_cons_self ..)
theorem Rmg.cO (h : Rmg L σ st d s m sid oid iid og c T bn i least cs) : st.get oid = some (.cells c og) := h.r.get (List.mem_cons_of_mem _ (List.mem_cons_self ..))
theorem Rmg.cc (h : Rmg L σ st d s m sid oid iid og c T bn i least cs) {j : Nat} {o : SObj} (hm : (j, o) ∈ cs) : st.get j = some o := h.r.get (List.mem_cons_of_mem _ (List.mem_cons_of_mem _ (List.mem_cons_of_mem _ hm)))
/-- Other objects beside. -/
theorem Rmg.sub {cs' : List (Nat × SObj)} (h : Rmg L σ st d s m sid oid iid og c T bn i least cs) (hs : ∀ p ∈ cs', p ∈ (iid, SObj.cells (bc T) (some 1024)) :: cs) : Rmg L σ st d s m sid oid iid og c T bn i least cs' :=
  ⟨h.r.less fun p hp => by
    rcases List.mem_cons.1 hp with rfl | hp
    · exact List.mem_cons_self ..
    · rcases List.mem_cons.1 hp with rfl | hp
      · exact List.mem_cons_of_mem _ (List.mem_cons_self ..)
      · refine List.mem_cons_of_mem _ (List.mem_cons_of_mem _ ?_)
        rcases List.mem_cons.1 hp with rfl | hp
        · exact List.mem_cons_self ..
        · exact hs p hp, h.s1, h.o1, fun p hp => h.s2 p (by
    rcases List.mem_cons.1 hp with rfl | hp
    · exact List.mem_cons_self ..
    · refine List.mem_cons_of_mem _ ?_
      rcases List.mem_cons.1 hp with rfl | hp
      · exact List.mem_cons_self ..
      · exact hs p hp), fun p hp => h.o2 p (by
    rcases List.mem_cons.1 hp with rfl | hp
    · exact List.mem_cons_self ..
    · exact hs p hp), h.l1, h.l2, h.og⟩
/-- The story is told: its cells are copied. -/
theorem Rmg.ret {v4 aid : Nat} {z4 C : List Value} {A : List Int} (h : Rmg L σ st d s m sid oid iid og c T bn i least cs) (h4 : (v4, SObj.cells z4 none) ∈ cs) (hge : σ.next ≤ v4) (ha : (aid, SObj.cells (bc A) (some 1024)) ∈ cs) :
    Rmg L σ (st.put v4 (some (.cells C none))) d s m sid oid iid og c T bn i least [(aid, .cells (bc A) (some 1024))] := by
  have c4 := h.cc h4
  have ne : ∀ {j : Nat} {x : List Value}, st.get j = some (.cells x (some 1024)) → j ≠ v4 := fun hj e => by
    rw [e, c4] at hj
    have hj := Option.some.inj hj
    injection hj with h1 h2
    cases h2
  have hi := h.r.get (List.mem_cons_of_mem _ (List.mem_cons_of_mem _ (List.mem_cons_self ..)))
  have h5 := h.sub (cs' := (v4, SObj.cells z4 none) :: [(aid, SObj.cells (bc A) (some 1024))]) fun p hp => by
    rcases List.mem_cons.1 hp with rfl | hp
    · exact List.mem_cons_of_mem _ h4
    · rw [List.mem_singleton.1 hp]; exact List.mem_cons_of_mem _ ha
  refine ⟨h5.r.chg (ch := [v4]) (fun q hq => by
    have : q = v4 := by simpa using hq
    rw [this]; exact ⟨hge, _, List.mem_cons_of_mem _ (List.mem_cons_of_mem _ (List.mem_cons_of_mem _ (List.mem_cons_self ..)))⟩) (by rw [next_max]; omega) (fun q _ hn => get_put_ne' (by simpa using hn)) fun q hq => ?_, h.s1, h.o1, fun p hp => h5.s2 p (by
    simp only [List.mem_cons, List.not_mem_nil, or_false] at hp ⊢
    rcases hp with hp | hp | hp
    · exact .inl hp
    · exact .inr (.inl hp)
    · exact .inr (.inr (.inr hp))), fun p hp => h5.o2 p (by
    simp only [List.mem_cons, List.not_mem_nil, or_false] at hp ⊢
    rcases hp with hp | hp
    · exact .inl hp
    · exact .inr (.inr hp)), h.l1, h.l2, h.og⟩
  simp only [List.mem_cons, List.not_mem_nil, or_false] at hq
  rcases hq with rfl | rfl | rfl | rfl
  · exact ⟨by rw [get_put_ne' (fun e => h5.s2 _ (List.mem_cons_of_mem _ (List.mem_cons_of_mem _ (List.mem_cons_self ..))) e.symm)]; exact h.cS, .inr ⟨_, List.mem_cons_self ..⟩⟩
  · exact ⟨by rw [get_put_ne' (fun e => h5.o2 _ (List.mem_cons_of_mem _ (List.mem_cons_self ..)) e.symm)]; exact h.cO, .inr ⟨_, List.mem_cons_of_mem _ (List.mem_cons_self ..)⟩⟩
  · exact ⟨by rw [get_put_ne' (ne hi)]; exact hi, .inr ⟨_, List.mem_cons_of_mem _ (List.mem_cons_of_mem _ (List.mem_cons_self ..))⟩⟩
  · exact ⟨by rw [get_put_ne' (ne (h.cc ha))]; exact h.cc ha, .inr ⟨_, List.mem_cons_of_mem _ (List.mem_cons_of_mem _ (List.mem_cons_of_mem _ (List.mem_cons_of_mem _ (List.mem_cons_self ..))))⟩⟩
theorem Rmg.gi (h : Rmg L σ st d s m sid oid iid og c T bn i least cs) : iaddrS 1 (.slice (some ⟨oid, 0, og⟩) (i + 1) (i + 1)) (.int .i64 ((i : Nat) : Int)) = some (.pointer (some ⟨oid, i, none⟩)) := by
  rcases h.og with rfl | ⟨rfl, _⟩
  · rw [iaddrS_grown (by omega) (by omega)]; simp
  · rw [iaddrS_eq (by omega) (by omega)]; simp
theorem sc0 (tv : Value) (a b : Int) : (scC tv a b)[0]? = some tv := rfl
theorem sc1 (tv : Value) (a b : Int) : (scC tv a b)[1]? = some (.int .i64 a) := rfl
theorem sc2 (tv : Value) (a b : Int) : (scC tv a b)[2]? = some (.int .i64 b) := rfl
theorem sc3 (tv : Value) (a b : Int) : (scC tv a b)[3]? = some (.bool true) := rfl
theorem st3 {tv : Value} {a b : Int} {j : Nat} (h : st.get j = some (.cells (scC tv a b) none)) : storeV 1 (.pointer (some ⟨j, 3, none⟩)) (.bool true) st = some (junk, st.put j (some (.cells (scC tv a b) none))) := by
  rw [store_cells h (vs := [.bool true]) rfl (by simp [scC])]; rfl
theorem st1 {tv : Value} {a b x : Int} {j : Nat} (h : st.get j = some (.cells (scC tv a b) none)) : storeV 1 (.pointer (some ⟨j, 1, none⟩)) (.int .i64 x) st = some (junk, st.put j (some (.cells (scC tv x b) none))) := by
  rw [store_cells h (vs := [.int .i64 x]) rfl (by simp [scC])]; rfl
theorem st2 {tv : Value} {a b x : Int} {j : Nat} (h : st.get j = some (.cells (scC tv a b) none)) : storeV 1 (.pointer (some ⟨j, 2, none⟩)) (.int .i64 x) st = some (junk, st.put j (some (.cells (scC tv a x) none))) := by
  rw [store_cells h (vs := [.int .i64 x]) rfl (by simp [scC])]; rfl
theorem st0 {tv tv' : Value} {a b : Int} {j : Nat} (ht : ∃ x n k, tv' = .slice x n k) (h : st.get j = some (.cells (scC tv a b) none)) : storeV 1 (.pointer (some ⟨j, 0, none⟩)) tv' st = some (junk, st.put j (some (.cells (scC tv' a b) none))) := by
  obtain ⟨x, n, k, rfl⟩ := ht
  rw [store_cells h (vs := [.slice x n k]) rfl (by simp [scC])]; rfl
theorem wS0 {tv v : Value} {a b : Int} {j : Nat} : wrOne (some (.cells (scC tv a b) none)) st j 0 v = some (junk, st.put j (some (.cells (scC v a b) none))) := rfl
theorem wS1 {tv : Value} {a b x : Int} {j : Nat} : wrOne (some (.cells (scC tv a b) none)) st j 1 (.int .i64 x) = some (junk, st.put j (some (.cells (scC tv x b) none))) := rfl
theorem wS2 {tv : Value} {a b x : Int} {j : Nat} : wrOne (some (.cells (scC tv a b) none)) st j 2 (.int .i64 x) = some (junk, st.put j (some (.cells (scC tv a x) none))) := rfl
theorem wS3 {tv : Value} {a b : Int} {j : Nat} : wrOne (some (.cells (scC tv a b) none)) st j 3 (.bool true) = some (junk, st.put j (some (.cells (scC tv a b) none))) := rfl
/-- Blocks behind the log, as a disk holds them. -/
def AT (g : Geo) (bn : Nat) (A : List Int) (f : Int → List Int) : Prop := A.length = bn * 1024 ∧ ∀ x : Nat, x < bn → (A.drop (x * 1024)).take 1024 = f (1 + g.log + x)
/-- What the law knows when the story is told. -/
structure Done8 (σ st : Store) (l d : Nat) (g : Geo) (bn : Nat) (s : DS) (sid oid iid aid : Nat) (og : Option Nat) (c : List Value) (A T : List Int) (i ln : Nat) : Prop where
  r : ∃ k, Rmg (LX l d k) σ st d s 100000 sid oid iid og c T bn i (ln : Nat) [(aid, .cells (bc A) (some 1024))]
  ca : c[ln]? = some (.slice (some ⟨aid, 0, some 1024⟩) bn bn)
  le : ln ≤ i
  n : g.blocks ≤ s.n
  fin : ∃ o Af Bf, GrpOk g o Bf ∧ AT g bn A Af ∧ AT g bn T Bf ∧ ∀ ks, Fin8 g o Af Bf (s.crash ks)
theorem rn_sync2 {os : List (Nat × SObj)} (h : Rn σ st l d w s m os) (hm0 : m + 1000 < 2 ^ 29) (ho : w.opn = false) (hcm : w.commits < 2 ^ 62) (hz : s.at 1 = zb) (hwt : s.wait = [])
    (hq : ∀ st' w' s', Rn σ st' l d w' s' (m + 600) os → w'.opn = false → w'.grp = [] → w'.g = w.g → (∀ y, 1 + w.g.log ≤ y → s'.at y = w.at s y) → s'.at 1 = zb → s'.wait = [] → w'.steps = w.steps → w'.commits ≤ w.commits + 1 → Q (.int .i64 0) st')
    (hq3 : ∀ st' k s', Rg (LX l d k) σ st' d s' (m + 600) os → w.g.blocks ≤ s'.n → (∀ ks, Fin8 w.g w.grp s.at (w.at s) (s'.crash ks)) → Q (.int .i64 3) st') :
    Does Try.prog 20 [.pointer (some ⟨l, 0, none⟩)] st Q := by
  have hW := h.ok
  have hn := h.n
  have hcut := fun hne => commit_cut (mine_dead h.mn) hwt hz hW hn hne
  refine rn_sync h hm0 ho hcm (fun hgr => hq st w s (h.le (by omega)) ho hgr rfl (fun y _ => by unfold WS.at; rw [hgr]; rfl) hz hwt rfl (by omega)) (fun hne e0 st' hR => ?_) (fun hne e3 st' hR => ?_)
  · rcases hcut hne with ⟨_, _, h3, h4⟩ | ⟨h1, _⟩
    · exact hq st' w.done _ hR ho rfl rfl h4.2 h4.1 h3 rfl (by show w.commits + 1 ≤ _; omega)
    · rw [e0] at h1; cases h1
  · rcases hcut hne with ⟨h1, _⟩ | ⟨_, h2⟩
    · rw [e3] at h1; cases h1
    · exact hq3 st' w.mine _ hR (by rw [run_n]; exact hn) h2
theorem rn_begin2 {os : List (Nat × SObj)} (h : Rn σ st l d w s m os) (hm0 : m + 1000 < 2 ^ 29) (ho : w.opn = false) (hcm : w.commits < 2 ^ 62) {r : Int} (hr : 1 ≤ r ∧ r ≤ w.g.log - 1) (hz : s.at 1 = zb) (hwt : s.wait = [])
    (hq : ∀ st' w' s', Rn σ st' l d w' s' (m + 600) os → w'.opn = true → w'.wrote = [] → w'.room = r → w'.g = w.g → (∀ y, 1 + w.g.log ≤ y → w'.at s' y = w.at s y) → s'.at 1 = zb → s'.wait = [] → w'.steps = w.steps → (w'.commits = w.commits ∧ s' = s) ∨ (w'.commits = w.commits + 1 ∧ ∀ y, 1 + w.g.log ≤ y → s'.at y = w.at s y) → Q (.int .i64 0) st')
    (hq3 : ∀ st' k s', Rg (LX l d k) σ st' d s' (m + 600) os → w.g.blocks ≤ s'.n → (∀ ks, Fin8 w.g w.grp s.at (w.at s) (s'.crash ks)) → Q (.int .i64 3) st') :
    Does Try.prog 9 [.pointer (some ⟨l, 0, none⟩), .int .i64 r] st Q := by
  have hW := h.ok
  have hn := h.n
  have hcut := fun hne => commit_cut (mine_dead h.mn) hwt hz hW hn hne
  refine rn_begin h hm0 ho hcm hr (fun st' hR => hq st' _ s hR rfl rfl rfl rfl (fun _ _ => rfl) hz hwt rfl (.inl ⟨rfl, rfl⟩)) (fun hne e0 st' hR => ?_) (fun hne e3 st' hR => ?_)
  · rcases hcut hne with ⟨_, _, h3, h4⟩ | ⟨h1, _⟩
    · exact hq st' (w.done.begin r) _ hR rfl rfl rfl rfl h4.2 h4.1 h3 rfl (.inr ⟨rfl, h4.2⟩)
    · rw [e0] at h1; cases h1
  · rcases hcut hne with ⟨h1, _⟩ | ⟨_, h2⟩
    · rw [e3] at h1; cases h1
    · exact hq3 st' w.mine _ hR (by rw [run_n]; exact hn) h2
end Go.Proofs.Ytkmalbaollffiaa
