/- WalCommit, walked: its changes. -/
import Derived.Test.YtndjgidglnofbaaRRRCmc
set_option linter.all false
set_option maxRecDepth 100000
set_option maxHeartbeats 800000
namespace Go.Proofs.YtndjgidglnofbaaRRR
open Go.Am
variable {σ : Store} {Q : Value → Store → Prop} {g : Geo} {s : DS} {w : WS} {m : Nat} {l d nid : Nat} {F G B X : List Nat} {st sB : Store}
/-- A block that was changed before is changed again. -/
theorem Sc.again {r : Int} {A0 : List Nat} {ov dv : Value} {st2 : Store} {y : Int} {b : List Int} {t : Nat} (sc : Sc l d g r A0 sB w ov dv st) (e0 : (w.write y b).1 = 0) (hb : b.length = 1024) (ht : (ordL w.grp)[t]? = some y)
    (L : Log st2 l d (w.write y b).2 (fresh0 g) F) (D : Disk st2 d (fresh0 g) G) (A : Apart F G) (AB : Apart (F ++ G) (idsV ov ++ idsV dv)) (U : Upd A0 sB st2 ((F ++ G) ++ (idsV ov ++ idsV dv))) (so : SlG st2 1 ov (ordL w.grp).length (ic (ordL w.grp))) (sd : SlG st2 1024 dv (ordL w.grp).length (bc (dataF w.grp))) :
    ∃ a st3, iaddrS 1024 dv (.int .i64 (t : Nat)) = some (.pointer (some ⟨a, t * 1024, none⟩)) ∧ storeV 1024 (.pointer (some ⟨a, t * 1024, none⟩)) (.agg ⟨bc b⟩) st2 = some (junk, st3) ∧ Sc l d g r A0 sB (w.write y b).2 ov dv st3 := by
  have hW := sc.ok
  obtain ⟨k1, k2, k3, k4, k5, k6⟩ := write_keeps w y b
  obtain ⟨w1, w2⟩ := write_yes e0
  have hmem : y ∈ ordL w.grp := List.mem_of_getElem? ht
  have htl : t < (ordL w.grp).length := (List.getElem?_eq_some_iff.1 ht).1
  have hord : ordL (w.write y b).2.grp = ordL w.grp := by rw [w1, ordL_put]; exact if_pos hmem
  have ol := ordL_len w.grp
  rcases sd.2 with ⟨h0, _⟩ | ⟨a, rfl, h2, h3⟩
  · omega
  · have hlt := Store.lt_of_get h2
    have hst := store_bytes (n := 1024) h2 hb (o := t * 1024) (by rw [dataF_len hW.len]; omega)
    have nx : (st2.put a (some (.cells (bc (layB (dataF w.grp) (t * 1024) b)) (some 1024)))).next = st2.next := by rw [next_max]; omega
    refine ⟨a, _, ?_, hst, ⟨ex_mut L D A AB U (by omega) (fun j hj hn => get_put_ne' (fun e => hn (by rw [e]; simp [idsV]))) (fun j hj => ⟨.inl hj, by rw [nx]; exact (U.ids j (List.mem_append_right _ hj)).1⟩), ?_, ?_, sc.ne, by rw [k1, sc.wg], by rw [k3, sc.wo], by rw [k4, sc.wr], by rw [k2, sc.wm], by rw [w1, w2, ordL_put, sc.ord], by rw [k5, k6]; exact sc.cnt⟩⟩
    · rw [iaddrS_grown (by omega) (by omega)]; simp
    · rw [hord]
      exact so.same fun j hj => get_put_ne' (fun e => sc.ne j hj (by rw [e]; simp [idsV]))
    · rw [hord, w1, dataF_set hW.len hW.nodup ht hb]
      refine ⟨by rw [bc_len, layB_len (by rw [dataF_len hW.len, hb]; omega), dataF_len hW.len, ol], .inr ⟨a, rfl, Store.get_put_same _ _ _, h3⟩⟩
/-- A block is changed for the first time. -/
theorem Sc.first {r : Int} {A0 : List Nat} {ov dv : Value} {st2 : Store} {y : Int} {b : List Int} (sc : Sc l d g r A0 sB w ov dv st) (e0 : (w.write y b).1 = 0) (hb : b.length = 1024) (ht : y ∉ ordL w.grp) (hcap : w.grp.length ≤ 1000)
    (L : Log st2 l d (w.write y b).2 (fresh0 g) F) (D : Disk st2 d (fresh0 g) G) (A : Apart F G) (AB : Apart (F ++ G) (idsV ov ++ idsV dv)) (U : Upd A0 sB st2 ((F ++ G) ++ (idsV ov ++ idsV dv))) (so : SlG st2 1 ov (ordL w.grp).length (ic (ordL w.grp))) (sd : SlG st2 1024 dv (ordL w.grp).length (bc (dataF w.grp))) :
    ∃ s4 ov' s6 dv' a s7, appendV 1 8 ov (.slice (some ⟨st2.next, 0, none⟩) 1 1) (st2.push (.cells [.int .i64 y] none)) = some (ov', s4) ∧ appendV 1024 1024 dv (.slice (some ⟨s4.next, 0, none⟩) 1 1) (s4.push (.cells (bc zb) none)) = some (dv', s6) ∧
      iaddrS 1024 dv' (.int .i64 ((ordL w.grp).length : Nat)) = some (.pointer (some ⟨a, (ordL w.grp).length * 1024, none⟩)) ∧ storeV 1024 (.pointer (some ⟨a, (ordL w.grp).length * 1024, none⟩)) (.agg ⟨bc b⟩) s6 = some (junk, s7) ∧ Sc l d g r A0 sB (w.write y b).2 ov' dv' s7 ∧ (∀ j, j < st2.next → j ∉ idsV ov ++ idsV dv → s6.get j = st2.get j) ∧ st2.next ≤ s6.next := by
  have hW := sc.ok
  obtain ⟨k1, k2, k3, k4, k5, k6⟩ := write_keeps w y b
  obtain ⟨w1, w2⟩ := write_yes e0
  have hord : ordL (w.write y b).2.grp = ordL w.grp ++ [y] := by rw [w1, ordL_put]; exact if_neg ht
  have ol := ordL_len w.grp
  obtain ⟨s3, hs3⟩ : ∃ s3, s3 = st2.push (.cells [.int .i64 y] none) := ⟨_, rfl⟩
  have q3 : Keeps st2 s3 := by rw [hs3]; exact (Keeps.refl _).push _
  have c3 : s3.get st2.next = some (.cells [.int .i64 y] none) := by rw [hs3]; exact Store.get_push_same _ _
  have n3 : s3.next = st2.next + 1 := by rw [hs3, Store.next_push]
  obtain ⟨s4, a1, a2, a3, a4⟩ := SlG.app (by_ := 8) (k := 1) (gj := none) (so.same (σ' := s3) fun j hj => q3.2 j (so.lt j hj)) c3 rfl (by omega) (by omega) (by decide)
  have solt := so.lt
  have sdlt := sd.lt
  have sd4 : SlG s4 1024 dv (ordL w.grp).length (bc (dataF w.grp)) := sd.same fun j hj => by
    have := sdlt j hj
    rw [a4 j (by omega) (fun h => sc.ne j h hj), q3.2 j (by omega)]
  obtain ⟨s5, hs5⟩ : ∃ s5, s5 = s4.push (.cells (bc zb) none) := ⟨_, rfl⟩
  have q5 : Keeps s4 s5 := by rw [hs5]; exact (Keeps.refl _).push _
  have c5 : s5.get s4.next = some (.cells (bc zb) none) := by rw [hs5]; exact Store.get_push_same _ _
  have n5 : s5.next = s4.next + 1 := by rw [hs5, Store.next_push]
  obtain ⟨s6, b1, b2, b3, b4⟩ := SlG.app (by_ := 1024) (k := 1) (gj := none) (sd4.same (σ' := s5) fun j hj => q5.2 j (sd4.lt j hj)) c5 (by rw [bc_len, zb_len]) (by omega) (by omega) (by decide)
  have hget : s6.get s5.next = some (.cells (bc (dataF w.grp ++ zb)) (some 1024)) := by
    rcases b2.2 with ⟨h0, _⟩ | ⟨i, e, h2, _⟩
    · omega
    · have e : s5.next = i := by simpa using e
      rw [e, h2, bc_app]
  have hst := store_bytes (n := 1024) hget hb (o := (ordL w.grp).length * 1024) (by rw [List.length_append, dataF_len hW.len, zb_len]; omega)
  have o6 : ∀ j, j < st2.next → j ∉ idsV ov ++ idsV dv → s6.get j = st2.get j := fun j hj hn => by
    have hn1 : j ∉ idsV ov := fun h => hn (List.mem_append_left _ h)
    have hn2 : j ∉ idsV dv := fun h => hn (List.mem_append_right _ h)
    rw [b4 j (by omega) hn2, q5.2 j (by omega), a4 j (by omega) hn1, q3.2 j hj]
  have nx : (s6.put s5.next (some (.cells (bc (layB (dataF w.grp ++ zb) ((ordL w.grp).length * 1024) b)) (some 1024)))).next = s6.next := by rw [next_max]; omega
  rw [← hs3]
  refine ⟨s4, _, s6, _, s5.next, _, a1, by rw [← hs5]; exact b1, ?_, hst, ⟨ex_mut L D A AB U (by omega) (fun j hj hn => by rw [get_put_ne' (by omega)]; exact o6 j hj hn) (fun j hj => ?_), ?_, ?_, fun j hj hj' => ?_, by rw [k1, sc.wg], by rw [k3, sc.wo], by rw [k4, sc.wr], by rw [k2, sc.wm], by rw [w1, w2, ordL_put, sc.ord], by rw [k5, k6]; exact sc.cnt⟩, o6, by omega⟩
  · rw [iaddrS_grown (by omega) (by omega)]; simp
  · have : j = s3.next ∨ j = s5.next := by simpa [idsV] using hj
    omega
  · rw [hord, List.length_append, ic_app]
    refine SlG.same (σ := s4) a2 fun j hj => ?_
    have : j = s3.next := by simpa [idsV] using hj
    rw [get_put_ne' (by omega), b4 j (by omega) (fun h => by have := sdlt j h; omega), q5.2 j (by omega)]
  · rw [hord, List.length_append, w1, dataF_new hW.len ht hb, ← ol]
    refine ⟨by rw [bc_len, layB_len (by rw [List.length_append, dataF_len hW.len, zb_len, hb]; omega), List.length_append, dataF_len hW.len, zb_len, List.length_singleton]; omega, .inr ⟨s5.next, rfl, Store.get_put_same _ _ _, by simp⟩⟩
  · have e1 : j = s3.next := by simpa [idsV] using hj
    have e2 : j = s5.next := by simpa [idsV] using hj'
    omega
end Go.Proofs.YtndjgidglnofbaaRRR
