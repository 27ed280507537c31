/- Contracts of the package disk: the rest but Image. -/
import Derived.Test.YthojojlgmaoecaaGreatImg
import Derived.Test.YthojojlgmaoecaaGreatCrs
set_option linter.all false
set_option maxRecDepth 100000
set_option maxHeartbeats 400000
namespace Go.Proofs.YthojojlgmaoecaaGreat
open Go.Am
variable {σ σ' : Store} {d m hm lm : Nat} {pv hv : Value} {s : DS} {F : List Nat} {Q : Value → Store → Prop}
def iC (l : List Int) : List Value := l.map (.int .i64)
theorem pending_ (h : DAt σ d s hm lm pv hv) (hok : s.Ok) (hw : s.wait.length < 2 ^ 30) (hq : ∀ σ' v, Keeps σ σ' → SlG σ' 1 v s.wait.length (iC (s.wait.map (·.1))) → (∀ i ∈ idsV v, σ.next ≤ i) → Q v σ') : Does Tryz.prog 13 [.pointer (some ⟨d, 0, none⟩)] σ Q := by
  refine d13 ?_
  have c1 := h.cells
  simp -implicitDefEqProofs (maxSteps := 2000000) (disch := first|assumption|omega|rfl|(simp only[RD];done)|(simp only[RD];omega)) only [RN,Int.reduceBEq,Int.reduceBNe,Int.reduceLT,Int.reduceLE,Int.reduceAdd,Int.reduceSub,Int.reduceMul,Nat.reduceAdd,↓bc_flatz,↓bc_flat16,↓agg_bytez, p13]
  refine is_ c1 hok.n ?_
  simp -implicitDefEqProofs (maxSteps := 2000000) (disch := first|assumption|omega|rfl|(simp only[RD];done)|(simp only[RD];omega)) only [RN,Int.reduceBEq,Int.reduceBNe,Int.reduceLT,Int.reduceLE,Int.reduceAdd,Int.reduceSub,Int.reduceMul,Nat.reduceAdd,↓bc_flatz,↓bc_flat16,↓agg_bytez, c1, DS.cells, h.wait.len]
  refine lop2 (fun k x v st => ∃ i : Nat, k + i = s.wait.length ∧ v = .int .i64 i ∧ Keeps σ st ∧ SlG st 1 x i (iC ((s.wait.take i).map (·.1))) ∧ ∀ j ∈ idsV x, σ.next ≤ j) s.wait.length ⟨0, rfl, rfl, Keeps.refl _, SlG.nil, fun j hj => by simp [idsV] at hj⟩ ?_
  rintro k x v st next ⟨i, hi, rfl, hk, hx, hxi⟩ hnx
  by_cases h5 : (i : Int) < s.wait.length
  · have h6 : i < s.wait.length := by omega
    obtain ⟨p, hp⟩ : ∃ p, s.wait[i]? = some p := ⟨_, List.getElem?_eq_getElem h6⟩
    obtain ⟨y, b⟩ := p
    have hb : b.length = 1024 := hok.wait (y, b) (List.mem_of_getElem? hp)
    obtain ⟨a, o, q1, q2, q3, q4⟩ := (h.later hk).wait.r.at (by omega) h6
    rw [waitC_at hok.wait hp] at q3
    have l25 : (Value.int .i64 y :: bc b).length = 1025 := by simp [hb]
    simp -implicitDefEqProofs (maxSteps := 2000000) (disch := first|assumption|omega|rfl|(simp only[RD];done)|(simp only[RD];omega)) only [RN,Int.reduceBEq,Int.reduceBNe,Int.reduceLT,Int.reduceLE,Int.reduceAdd,Int.reduceSub,Int.reduceMul,Nat.reduceAdd,↓bc_flatz,↓bc_flat16,↓agg_bytez, decide_eq_true h5, q1, q3, l25]
    obtain ⟨s2, hs2⟩ : ∃ s2, s2 = st.push (.cells (.int .i64 y :: bc b) none) := ⟨_, rfl⟩
    have k2 : Keeps st s2 := by rw [hs2]; exact (Keeps.refl _).push _
    have n2 : s2.next = st.next + 1 := by rw [hs2, Store.next_push]
    have k3 : Keeps s2 (s2.push (.cells [.int .i64 y] none)) := (Keeps.refl _).push _
    have k23 := k2.trans k3
    obtain ⟨s4, a1, a2, a3, a4⟩ := SlG.app (σ := s2.push (.cells [.int .i64 y] none)) (sz := 1) (j := s2.next) (k := 1) (gj := none) (by_ := 8) (hx.same fun j hj => k23.2 j (hx.lt j hj)) (Store.get_push_same _ _) rfl (by omega) (by omega) (by decide)
    rw [← hs2, ← n2]
    simp -implicitDefEqProofs (maxSteps := 2000000) (disch := first|assumption|omega|rfl|(simp only[RD];done)|(simp only[RD];omega)) only [RN,Int.reduceBEq,Int.reduceBNe,Int.reduceLT,Int.reduceLE,Int.reduceAdd,Int.reduceSub,Int.reduceMul,Nat.reduceAdd,↓bc_flatz,↓bc_flat16,↓agg_bytez, a1]
    have hkn := hk.1
    have hlt := hx.lt
    refine hnx _ _ _ (by omega) ⟨i + 1, by omega, by congr 1, ⟨by rw [a3, Store.next_push, n2]; omega, fun j hj => ?_⟩, ?_, fun j hj => ?_⟩
    · rw [a4 j (by rw [Store.next_push, n2]; omega) (fun hjx => by have := hxi j hjx; omega), k23.2 j (by omega), hk.2 j hj]
    · rw [List.take_add_one, hp]
      simp only [Option.toList_some, List.map_append, List.map_cons, List.map_nil]
      have : iC ((s.wait.take i).map (·.1) ++ [y]) = iC ((s.wait.take i).map (·.1)) ++ [.int .i64 y] := by simp [iC]
      rw [this]
      rw [Store.next_push] at a2
      exact a2
    · have : j = s2.next + 1 := by simpa [idsV, Store.next_push] using hj
      omega
  · have hii : i = s.wait.length := by omega
    simp -implicitDefEqProofs (maxSteps := 2000000) (disch := first|assumption|omega|rfl|(simp only[RD];done)|(simp only[RD];omega)) only [RN,Int.reduceBEq,Int.reduceBNe,Int.reduceLT,Int.reduceLE,Int.reduceAdd,Int.reduceSub,Int.reduceMul,Nat.reduceAdd,↓bc_flatz,↓bc_flat16,↓agg_bytez, decide_eq_false h5]
    subst hii
    rw [List.take_length] at hx
    exact hq _ _ hk hx hxi
theorem pending_o (h : Disk σ d s F) (hC : s.C m) (hm0 : m < 2 ^ 29) (hq : ∀ σ' v, Keeps σ σ' → SlG σ' 1 v s.wait.length (iC (s.wait.map (·.1))) → (∀ i ∈ idsV v, σ.next ≤ i) → Q v σ') : Does Tryz.prog 13 [.pointer (some ⟨d, 0, none⟩)] σ Q := by
  obtain ⟨_, _, _, _, h, rfl⟩ := h
  exact pending_ h hC.ok (by have := hC.wait; omega) hq
/-- How much a disk's history holds. -/
theorem histlen_o (h : Disk σ d s F) (hC : s.C m) (hm0 : m < 2 ^ 29) (hq : ∀ σ' v, Keeps σ σ' → SlG σ' 1026 v s.hist.length (histC s.hist) → (∀ i ∈ idsV v, σ.next ≤ i) → Q v σ') : Does Tryz.prog 10 [.pointer (some ⟨d, 0, none⟩)] σ Q := by
  obtain ⟨_, _, _, _, h, rfl⟩ := h
  refine d10 ?_
  simp -implicitDefEqProofs (maxSteps := 2000000) (disch := first|assumption|omega|rfl|(simp only[RD];done)|(simp only[RD];omega)) only [RN,Int.reduceBEq,Int.reduceBNe,Int.reduceLT,Int.reduceLE,Int.reduceAdd,Int.reduceSub,Int.reduceMul,Nat.reduceAdd,↓bc_flatz,↓bc_flat16,↓agg_bytez, p10]
  refine is_ h.cells hC.ok.n ?_
  simp -implicitDefEqProofs (maxSteps := 2000000) (disch := first|assumption|omega|rfl|(simp only[RD];done)|(simp only[RD];omega)) only [RN,Int.reduceBEq,Int.reduceBNe,Int.reduceLT,Int.reduceLE,Int.reduceAdd,Int.reduceSub,Int.reduceMul,Nat.reduceAdd,↓bc_flatz,↓bc_flat16,↓agg_bytez, h.cells, DS.cells]
  have hh := h.hist
  rcases hh.2 with ⟨h1, rfl⟩ | ⟨i, rfl, h2, h3⟩
  · have e : appendV 1026 1040 (.slice none 0 0) (.slice none 0 0) σ = some (.slice none 0 0, σ) := rfl
    simp -implicitDefEqProofs (maxSteps := 2000000) (disch := first|assumption|omega|rfl|(simp only[RD];done)|(simp only[RD];omega)) only [RN,Int.reduceBEq,Int.reduceBNe,Int.reduceLT,Int.reduceLE,Int.reduceAdd,Int.reduceSub,Int.reduceMul,Nat.reduceAdd,↓bc_flatz,↓bc_flat16,↓agg_bytez, e]
    refine hq _ _ (Keeps.refl _) ?_ fun i hi => by simp [idsV] at hi
    have : s.hist = [] := List.eq_nil_of_length_eq_zero h1
    rw [this]; exact SlG.nil
  · obtain ⟨t, ht⟩ : ∃ t, s.hist.length = t + 1 := ⟨s.hist.length - 1, by omega⟩
    have hlen := hh.1
    have hcap := hC.hist
    rw [ht] at hlen ⊢
    have e := append_nil (σ := σ) (sz := 1026) (by_ := 1040) (gj := some 1026) (c := t + 1) h2 hlen (by omega) (by omega)
    simp -implicitDefEqProofs (maxSteps := 2000000) (disch := first|assumption|omega|rfl|(simp only[RD];done)|(simp only[RD];omega)) only [RN,Int.reduceBEq,Int.reduceBNe,Int.reduceLT,Int.reduceLE,Int.reduceAdd,Int.reduceSub,Int.reduceMul,Nat.reduceAdd,↓bc_flatz,↓bc_flat16,↓agg_bytez, e]
    refine hq _ _ ((Keeps.refl _).push _) ?_ fun i hi => by
      have : i = σ.next := by simpa [idsV] using hi
      omega
    rw [ht]
    exact ⟨hlen, .inr ⟨_, rfl, Store.get_push_same _ _, by omega⟩⟩
theorem newbad_ {n : Int} (h : n < 1 ∨ 1048576 < n) (hq : Q (.tuple #[.pointer none, .int .i64 2]) σ) : Does Tryz.prog 20 [.int .i64 n] σ Q := by
  refine d20 ?_
  by_cases h0 : n < 1
  · simp -implicitDefEqProofs (maxSteps := 2000000) (disch := first|assumption|omega|rfl|(simp only[RD];done)|(simp only[RD];omega)) only [RN,Int.reduceBEq,Int.reduceBNe,Int.reduceLT,Int.reduceLE,Int.reduceAdd,Int.reduceSub,Int.reduceMul,Nat.reduceAdd,↓bc_flatz,↓bc_flat16,↓agg_bytez, p20, decide_eq_true h0]
    exact hq
  · have h1 : 1048576 < n := by omega
    simp -implicitDefEqProofs (maxSteps := 2000000) (disch := first|assumption|omega|rfl|(simp only[RD];done)|(simp only[RD];omega)) only [RN,Int.reduceBEq,Int.reduceBNe,Int.reduceLT,Int.reduceLE,Int.reduceAdd,Int.reduceSub,Int.reduceMul,Nat.reduceAdd,↓bc_flatz,↓bc_flat16,↓agg_bytez, p20, decide_eq_false h0, decide_eq_true h1]
    exact hq
/-! ## what is in a disk stays in it -/
theorem burnt_W (h : s.W) : s.burnt.W := by
  have e := burnt_same s
  exact ⟨fun x b hb => by rw [e.1]; rw [e.2.1] at hb; exact h.held x b hb, fun p hp => by rw [e.1]; rw [e.2.2.1] at hp; exact h.wait p hp⟩
theorem write_W (h : s.W) {i : Int} {b : List Int} : (s.write i b).2.W := by
  unfold DS.write
  split
  · exact h
  · split
    · exact h
    · rename_i h2
      split
      · exact burnt_W h
      · have hB := burnt_W h
        have e := burnt_same s
        refine ⟨hB.held, fun p hp => ?_⟩
        rcases List.mem_append.1 hp with hp | hp
        · have := h.wait p hp
          show 0 ≤ p.1 ∧ p.1 < s.burnt.n
          rw [e.1]; exact this
        · have : p = (i, b) := by simpa using hp
          subst this
          show 0 ≤ i ∧ i < s.burnt.n
          rw [e.1]; omega
theorem keepF_W {f : Int → Option (List Int)} {n i : Int} {b : List Int} (hf : ∀ x c, f x = some c → 0 ≤ x ∧ x < n ∧ c ≠ zb) (hi : 0 ≤ i ∧ i < n) : ∀ x c, keepF f i b x = some c → 0 ≤ x ∧ x < n ∧ c ≠ zb := by
  intro x c h
  unfold keepF at h
  split at h
  · rename_i hx
    split at h
    · cases h
    · rename_i hb
      cases h
      exact ⟨by omega, by omega, hb⟩
  · exact hf x c h
theorem barHeld_W : ∀ {w : List HB} {f : Int → Option (List Int)} {n : Int}, (∀ p ∈ w, 0 ≤ p.1 ∧ p.1 < n) → (∀ x c, f x = some c → 0 ≤ x ∧ x < n ∧ c ≠ zb) → ∀ x c, barHeld f w x = some c → 0 ≤ x ∧ x < n ∧ c ≠ zb
  | [], f, n, _, hf => hf
  | p :: w, f, n, hw, hf => barHeld_W (w := w) (f := keepF f p.1 p.2) (fun q hq => hw q (List.mem_cons_of_mem _ hq)) (keepF_W hf (hw p List.mem_cons_self))
theorem barrier_W (h : s.W) : s.barrier.2.W := by
  unfold DS.barrier
  split
  · exact h
  · split
    · exact burnt_W h
    · have e := burnt_same s
      exact ⟨fun x b hb => by
        show 0 ≤ x ∧ x < s.burnt.n ∧ b ≠ zb
        rw [e.1]; exact barHeld_W h.wait h.held x b hb, fun p hp => by cases hp⟩
theorem heldI_W {f : Int → Option (List Int)} {w : List HB} {n : Int} {ks : List Bool} (hw : ∀ p ∈ w, 0 ≤ p.1 ∧ p.1 < n) (hf : ∀ x c, f x = some c → 0 ≤ x ∧ x < n ∧ c ≠ zb) : ∀ i, i ≤ w.length → ∀ x c, heldI f w ks i x = some c → 0 ≤ x ∧ x < n ∧ c ≠ zb
  | 0, _ => hf
  | i + 1, hi => by
    have ih := heldI_W (ks := ks) hw hf i (by omega)
    have e : w.getD i (0, []) = w[i] := by rw [List.getD_eq_getElem?_getD, List.getElem?_eq_getElem (show i < w.length by omega)]; rfl
    unfold heldI
    split
    · rw [e]; exact keepF_W ih (hw _ (List.getElem_mem _))
    · exact ih
theorem crash_W {ks : List Bool} (h : s.W) : (s.crash ks).W := ⟨heldI_W h.wait h.held _ (Nat.le_refl _), fun p hp => by cases hp⟩
end Go.Proofs.YthojojlgmaoecaaGreat
