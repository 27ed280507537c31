/- Contract of head.Decode. -/
import Derived.Test.YtiaonndafhfkmaaHead
set_option linter.all false
set_option maxRecDepth 100000
set_option maxHeartbeats 400000
namespace Go.Proofs.Ytiaonndafhfkmaa
open Go.Am
def BytesOk (b : List Int) : Prop := ∀ v ∈ b, 0 ≤ v ∧ v < 256
def u32at (b : List Int) (x : Nat) : Nat := u32 (((b.drop x).take 4).map Int.toNat)
theorem u32at_lt {b : List Int} (h : BytesOk b) (x : Nat) : u32at b x < 4294967296 := by
  unfold u32at u32
  have key : ∀ i, (((b.drop x).take 4).map Int.toNat).getD i 0 < 256 := fun i => by
    rw [List.getD_eq_getElem?_getD]
    cases hc : (((b.drop x).take 4).map Int.toNat)[i]? with
    | none => simp
    | some v =>
      have := List.mem_of_getElem? hc
      obtain ⟨y, hy, e⟩ := List.mem_map.1 this
      have := h y (List.mem_of_mem_drop (List.mem_of_mem_take hy))
      simp only [Option.getD_some]
      omega
  have h0 := key 0
  have h1 := key 1
  have h2 := key 2
  have h3 := key 3
  omega
variable {σ : Store} {Q : Value → Store → Prop} {g : Geo}
theorem u32at_ {b : List Int} (hb : b.length = 1024) (hB : BytesOk b) {x : Nat} (hx : x ≤ 1020) (hq : Q (.int .u32 (u32at b x)) σ) : Does Try.prog 45 [.agg ⟨bc b⟩, .int .i64 x] σ Q := by
  refine u32_ (c := ((b.drop x).take 4).map Int.toNat) hb hx (by simp; omega) ?_ ?_ hq
  · rw [List.map_map]
    symm
    have : ∀ l : List Int, (∀ v ∈ l, 0 ≤ v) → l.map ((fun n : Nat => (n : Int)) ∘ Int.toNat) = l := fun l hl => by
      induction l with
      | nil => rfl
      | cons y l ih =>
        rw [List.map_cons, ih fun v hv => hl v (List.mem_cons_of_mem _ hv)]
        have := hl y List.mem_cons_self
        simp only [Function.comp]
        congr 1
        omega
    exact this _ fun v hv => (hB v (List.mem_of_mem_drop (List.mem_of_mem_take hv))).1
  · intro n hn
    obtain ⟨y, hy, e⟩ := List.mem_map.1 hn
    have := hB y (List.mem_of_mem_drop (List.mem_of_mem_take hy))
    omega
/-- The numbers that a header's block says. -/
def decL (b : List Int) : List Int := (List.range (u32at b 0)).map fun i => ((u32at b (4 * (i + 1)) : Nat) : Int)
theorem decL_len (b : List Int) : (decL b).length = u32at b 0 := by simp [decL]
theorem decL_get {b : List Int} {i : Nat} (h : i < u32at b 0) : (decL b)[i]? = some ((u32at b (4 * (i + 1)) : Nat) : Int) := by
  simp [decL, h]
/-- May a block be a header? -/
def DecOk (g : Geo) (b : List Int) : Prop := MayL g (decL b)
instance (g : Geo) (b : List Int) : Decidable (DecOk g b) := by unfold DecOk; exact inferInstance
theorem hdecode_ (hg : g.ok) {b : List Int} (hb : b.length = 1024) (hB : BytesOk b)
    (hq1 : ¬ DecOk g b → ∀ σ', Keeps σ σ' → Q (.tuple #[.agg ⟨[.slice none 0 0]⟩, .int .i64 4]) σ')
    (hq2 : DecOk g b → ∀ σ' v, Keeps σ σ' → SlG σ' 1 v (decL b).length (ic (decL b)) → (∀ j ∈ idsV v, σ.next ≤ j) → Q (.tuple #[.agg ⟨[v]⟩, .int .i64 0]) σ') :
    Does Try.prog 23 [.agg ⟨ic g.lay⟩, .agg ⟨bc b⟩] σ Q := by
  refine d23 ?_
  obtain ⟨g1, g2, g3, g4, g5, g6, g7⟩ := id hg
  have hlay : ic g.lay = [.int .i64 g.blocks, .int .i64 g.log, .int .i64 g.inodes, .int .i64 1, .int .i64 (1 + g.log), .int .i64 g.nodeBlocks, .int .i64 g.bitsAt, .int .i64 g.bitsBlocks, .int .i64 g.dataAt] := rfl
  have l9 : (ic g.lay).length = 9 := rfl
  have z1 : unrle [(1, Value.slice none 0 0)] = [.slice none 0 0] := rfl
  have r0 : rdOne (some (.cells (ic g.lay) none)) 1 = some (.int .i64 g.log) := rfl
  obtain ⟨k1, hk1, e1⟩ : ∃ s1, Keeps σ s1 ∧ s1 = ((σ.push (.cells (ic g.lay) none)).push (.cells (bc b) none)).push (.cells [.slice none 0 0] none) := ⟨_, (((Keeps.refl σ).push _).push _).push _, rfl⟩
  have n1 : k1.next = σ.next + 3 := by rw [e1]; simp only [Store.next_push]
  have c1 : k1.get σ.next = some (.cells (ic g.lay) none) := by rw [e1]; simp -implicitDefEqProofs (maxSteps := 2000000) (disch := first|assumption|omega|rfl|(simp only[RD];done)|(simp only[RD];omega)) only [RN,Int.reduceBEq,Int.reduceBNe,Int.reduceLT,Int.reduceLE,Int.reduceAdd,Int.reduceSub,Int.reduceMul,Nat.reduceAdd,↓bc_flatz,↓bc_flat16,↓agg_bytez]
  have c2 : k1.get (σ.next + 1) = some (.cells (bc b) none) := by rw [e1]; simp -implicitDefEqProofs (maxSteps := 2000000) (disch := first|assumption|omega|rfl|(simp only[RD];done)|(simp only[RD];omega)) only [RN,Int.reduceBEq,Int.reduceBNe,Int.reduceLT,Int.reduceLE,Int.reduceAdd,Int.reduceSub,Int.reduceMul,Nat.reduceAdd,↓bc_flatz,↓bc_flat16,↓agg_bytez]
  have c3 : k1.get (σ.next + 2) = some (.cells [.slice none 0 0] none) := by rw [e1]; simp -implicitDefEqProofs (maxSteps := 2000000) (disch := first|assumption|omega|rfl|(simp only[RD];done)|(simp only[RD];omega)) only [RN,Int.reduceBEq,Int.reduceBNe,Int.reduceLT,Int.reduceLE,Int.reduceAdd,Int.reduceSub,Int.reduceMul,Nat.reduceAdd,↓bc_flatz,↓bc_flat16,↓agg_bytez]
  simp -implicitDefEqProofs (maxSteps := 2000000) (disch := first|assumption|omega|rfl|(simp only[RD];done)|(simp only[RD];omega)) only [RN,Int.reduceBEq,Int.reduceBNe,Int.reduceLT,Int.reduceLE,Int.reduceAdd,Int.reduceSub,Int.reduceMul,Nat.reduceAdd,↓bc_flatz,↓bc_flat16,↓agg_bytez, p23, l9, z1]
  rw [← e1]
  clear e1
  simp -implicitDefEqProofs (maxSteps := 2000000) (disch := first|assumption|omega|rfl|(simp only[RD];done)|(simp only[RD];omega)) only [RN,Int.reduceBEq,Int.reduceBNe,Int.reduceLT,Int.reduceLE,Int.reduceAdd,Int.reduceSub,Int.reduceMul,Nat.reduceAdd,↓bc_flatz,↓bc_flat16,↓agg_bytez, p23_4]
  refine fits_ hg ?_
  simp -implicitDefEqProofs (maxSteps := 2000000) (disch := first|assumption|omega|rfl|(simp only[RD];done)|(simp only[RD];omega)) only [RN,Int.reduceBEq,Int.reduceBNe,Int.reduceLT,Int.reduceLE,Int.reduceAdd,Int.reduceSub,Int.reduceMul,Nat.reduceAdd,↓bc_flatz,↓bc_flat16,↓agg_bytez, c2, hb]
  refine u32at_ (x := 0) hb hB (by omega) ?_
  have hlt := u32at_lt hB 0
  have hlen := decL_len b
  by_cases h1 : g.log - 1 < ((u32at b 0 : Nat) : Int)
  · simp -implicitDefEqProofs (maxSteps := 2000000) (disch := first|assumption|omega|rfl|(simp only[RD];done)|(simp only[RD];omega)) only [RN,Int.reduceBEq,Int.reduceBNe,Int.reduceLT,Int.reduceLE,Int.reduceAdd,Int.reduceSub,Int.reduceMul,Nat.reduceAdd,↓bc_flatz,↓bc_flat16,↓agg_bytez, c1, r0, p23_3, decide_eq_true h1, z1, c3]
    exact hq1 (fun h => by have := h.1; omega) _ (hk1.put _ (by omega))
  · simp -implicitDefEqProofs (maxSteps := 2000000) (disch := first|assumption|omega|rfl|(simp only[RD];done)|(simp only[RD];omega)) only [RN,Int.reduceBEq,Int.reduceBNe,Int.reduceLT,Int.reduceLE,Int.reduceAdd,Int.reduceSub,Int.reduceMul,Nat.reduceAdd,↓bc_flatz,↓bc_flat16,↓agg_bytez, c1, r0, p23_3, decide_eq_false h1, z1]
    refine lop1 (fun k w st => ∃ (i : Nat) (u : Value), k + i = u32at b 0 ∧ w = .int .i64 i ∧ Keeps k1 st ∧ k1.next < st.next ∧ st.get k1.next = some (.cells [u] none) ∧ SlG st 1 u i (ic ((decL b).take i)) ∧ ∀ j ∈ idsV u, k1.next < j) (u32at b 0) ⟨0, .slice none 0 0, rfl, rfl, (Keeps.refl _).push _, by rw [Store.next_push]; omega, Store.get_push_same _ _, SlG.nil, fun j hj => by simp [idsV] at hj⟩ ?_
    rintro k w st next ⟨i, u, hi, rfl, hk, hn, hc, hs, hid⟩ hnx
    have hc2 : st.get (σ.next + 1) = some (.cells (bc b) none) := by rw [hk.2 _ (by omega), c2]
    have hc1 : st.get σ.next = some (.cells (ic g.lay) none) := by rw [hk.2 _ (by omega), c1]
    have hc3 : st.get (σ.next + 2) = some (.cells [.slice none 0 0] none) := by rw [hk.2 _ (by omega), c3]
    by_cases h2 : (i : Int) < ((u32at b 0 : Nat) : Int)
    · have h3 : i < u32at b 0 := by omega
      have e4 : (4 : Int) * ((i : Int) + 1) = ((4 * (i + 1) : Nat) : Int) := by push_cast; omega
      simp -implicitDefEqProofs (maxSteps := 2000000) (disch := first|assumption|omega|rfl|(simp only[RD];done)|(simp only[RD];omega)) only [RN,Int.reduceBEq,Int.reduceBNe,Int.reduceLT,Int.reduceLE,Int.reduceAdd,Int.reduceSub,Int.reduceMul,Nat.reduceAdd,↓bc_flatz,↓bc_flat16,↓agg_bytez, decide_eq_true h2, p23_1, hc2, hb]
      rw [e4]
      refine u32at_ hb hB (by omega) ?_
      have hlt2 := u32at_lt hB (4 * (i + 1))
      have ul : ∀ j ∈ idsV u, j < st.next := hs.lt
      obtain ⟨st2, a1, a2, a3, a4⟩ := SlG.app (j := st.next) (k := 1) (gj := none) (by_ := 8) (hs.same (σ' := st.push (.cells [.int .i64 ((u32at b (4 * (i + 1)) : Nat) : Int)] none)) fun x hx => get_push_ne (ul x hx)) (Store.get_push_same _ _) rfl (by omega) (by omega) (by omega)
      have f1 : st2.get k1.next = some (.cells [u] none) := by
        rw [a4 _ (by rw [Store.next_push]; omega) (fun h => by have := hid _ h; omega), get_push_ne (by omega), hc]
      rw [Store.next_push] at a1 a2 a3 a4
      simp -implicitDefEqProofs (maxSteps := 2000000) (disch := first|assumption|omega|rfl|(simp only[RD];done)|(simp only[RD];omega)) only [RN,Int.reduceBEq,Int.reduceBNe,Int.reduceLT,Int.reduceLE,Int.reduceAdd,Int.reduceSub,Int.reduceMul,Nat.reduceAdd,↓bc_flatz,↓bc_flat16,↓agg_bytez, hc, a1, f1]
      have htk : (decL b).take (i + 1) = (decL b).take i ++ [((u32at b (4 * (i + 1)) : Nat) : Int)] := by rw [List.take_succ, decL_get h3]; rfl
      refine hnx _ _ (by omega) ⟨i + 1, .slice (some ⟨st.next + 1, 0, some 1⟩) (i + 1) (i + 1), by omega, by congr 1, ?_, ?_, Store.get_put_same _ _ _, ?_, fun j hj => ?_⟩
      · refine ⟨by rw [next_max]; omega, fun j hj => ?_⟩
        rw [get_put_ne' (by omega), a4 j (by omega) (fun h => by have := hid _ h; omega), get_push_ne (by omega), hk.2 j hj]
      · rw [next_max]; omega
      · rw [htk, ic_app]
        refine a2.same fun j hj => get_put_ne' ?_
        have : j = st.next + 1 := by simpa [idsV] using hj
        omega
      · have : j = st.next + 1 := by simpa [idsV] using hj
        omega
    · have h3 : i = u32at b 0 := by omega
      subst h3
      rw [← hlen, List.take_length] at hs
      simp -implicitDefEqProofs (maxSteps := 2000000) (disch := first|assumption|omega|rfl|(simp only[RD];done)|(simp only[RD];omega)) only [RN,Int.reduceBEq,Int.reduceBNe,Int.reduceLT,Int.reduceLE,Int.reduceAdd,Int.reduceSub,Int.reduceMul,Nat.reduceAdd,↓bc_flatz,↓bc_flat16,↓agg_bytez, decide_eq_false h2, p23_2, hc1, hc, l9]
      refine may_ hg hs.r (by omega) ?_
      by_cases hM : MayL g (decL b)
      · rw [decide_eq_true hM]
        simp -implicitDefEqProofs (maxSteps := 2000000) (disch := first|assumption|omega|rfl|(simp only[RD];done)|(simp only[RD];omega)) only [RN,Int.reduceBEq,Int.reduceBNe,Int.reduceLT,Int.reduceLE,Int.reduceAdd,Int.reduceSub,Int.reduceMul,Nat.reduceAdd,↓bc_flatz,↓bc_flat16,↓agg_bytez, hc, hc3]
        refine hq2 hM _ u ((hk1.trans hk).put _ (by omega)) (hs.same fun j hj => get_put_ne' (by have := hid j hj; omega)) fun j hj => by have := hid j hj; omega
      · rw [decide_eq_false hM]
        simp -implicitDefEqProofs (maxSteps := 2000000) (disch := first|assumption|omega|rfl|(simp only[RD];done)|(simp only[RD];omega)) only [RN,Int.reduceBEq,Int.reduceBNe,Int.reduceLT,Int.reduceLE,Int.reduceAdd,Int.reduceSub,Int.reduceMul,Nat.reduceAdd,↓bc_flatz,↓bc_flat16,↓agg_bytez, z1, hc3]
        exact hq1 hM _ ((hk1.trans hk).put _ (by omega))
theorem zb_bytes : BytesOk zb := fun v hv => by
  have := List.eq_of_mem_replicate hv
  omega
theorem decL_zb : decL zb = [] := by
  have : u32at zb 0 = 0 := by decide +kernel
  unfold decL
  rw [this]; rfl
end Go.Proofs.Ytiaonndafhfkmaa
