/- The closure of past.Block: a block is added to a list if it is not there. -/
import Derived.Test.YthojojlgmaoecaaGreatAft
set_option linter.all false
set_option maxRecDepth 100000
set_option maxHeartbeats 800000
namespace Go.Proofs.YthojojlgmaoecaaGreat
open Go.Am
variable {σ σ' : Store} {Q : Value → Store → Prop} {n : Int} {v u w : Value} {l : List (List Int)} {a : Int} {b : List Int}
abbrev keyD : EqD := .fields [(0, 1, .one (.int .i64)), (1, 1024, .ints .u8 1024)]
def keyV (a : Int) (b : List Int) : Value := .agg ⟨.int .i64 a :: bc b⟩
theorem key_eq {c : List Int} (hb : b.length = 1024) (hc : c.length = 1024) : eqE keyD (keyV a b) (keyV a c) = some (decide (b = c)) := by
  have e1 : (bc b).take 1024 = bc b := List.take_of_length_le (by rw [bc_len]; omega)
  have e2 : (bc c).take 1024 = bc c := List.take_of_length_le (by rw [bc_len]; omega)
  have e3 := eqInts_bc 1024 b c hb hc
  simp [eqE, keyV, eqD, eqDs, eqLeaf, eq1, e1, e2, e3]
/-- A map whose keys are a place and blocks. -/
def SeenAt (σ : Store) (r : Nat) (a : Int) (l : List (List Int)) : Prop := ∃ es ck, σ.get r = some (.map es ck) ∧ es.map (·.key) = l.map (keyV a)
theorem SeenAt.same {r : Nat} (h : SeenAt σ r a l) (hg : σ'.get r = σ.get r) : SeenAt σ' r a l := by
  obtain ⟨es, ck, h1, h2⟩ := h
  exact ⟨es, ck, by rw [hg, h1], h2⟩
theorem SeenAt.lt {r : Nat} (h : SeenAt σ r a l) : r < σ.next := by
  obtain ⟨es, ck, h1, h2⟩ := h
  exact Store.lt_of_get h1
theorem find_seen (hb : b.length = 1024) : ∀ (es : List MapEntry) (l : List (List Int)) (i : Nat), (∀ c ∈ l, c.length = 1024) → es.map (·.key) = l.map (keyV a) → if b ∈ l then ∃ p, findE keyD (keyV a b) es i = some (some p) else findE keyD (keyV a b) es i = some none
  | [], [], _, _, _ => by simp [findE]
  | [], c :: l, _, _, h => by simp at h
  | e :: es, [], _, _, h => by simp at h
  | e :: es, c :: l, i, hl, h => by
    simp only [List.map_cons, List.cons.injEq] at h
    have hc := hl c (List.mem_cons_self ..)
    have ih := find_seen hb es l (i + 1) (fun d hd => hl d (List.mem_cons_of_mem _ hd)) h.2
    have he := key_eq (a := a) hb hc
    by_cases hbc : b = c
    · rw [if_pos (by rw [hbc]; exact List.mem_cons_self ..)]
      rw [decide_eq_true hbc] at he
      exact ⟨_, by unfold findE; rw [h.1, he]⟩
    · rw [decide_eq_false hbc] at he
      have hf : findE keyD (keyV a b) (e :: es) i = findE keyD (keyV a b) es (i + 1) := by
        conv => lhs; unfold findE
        rw [h.1, he]
      rw [hf]
      by_cases hm : b ∈ l
      · rw [if_pos hm] at ih; rw [if_pos (List.mem_cons_of_mem _ hm)]; exact ih
      · rw [if_neg hm] at ih; rw [if_neg (fun hh => by rcases List.mem_cons.1 hh with h1 | h1; exact hbc h1; exact hm h1)]; exact ih
theorem SeenAt.yes {r : Nat} (h : SeenAt σ r a l) (hl : ∀ c ∈ l, c.length = 1024) (hb : b.length = 1024) (hm : b ∈ l) (z : Value) : ∃ x, lookupE keyD z (.map (some r)) (keyV a b) true σ.get = some (.tuple #[x, .bool true]) := by
  obtain ⟨es, ck, h1, h2⟩ := h
  have hf := find_seen (a := a) hb es l 0 hl h2
  rw [if_pos hm] at hf
  obtain ⟨⟨i, x⟩, hf⟩ := hf
  have hk := key_eq (a := a) hb hb
  exact ⟨x, by simp only [lookupE, h1, hk, Option.isSome_some, cond_true, hf]⟩
theorem SeenAt.no {r : Nat} (h : SeenAt σ r a l) (hl : ∀ c ∈ l, c.length = 1024) (hb : b.length = 1024) (hm : b ∉ l) (z : Value) : lookupE keyD z (.map (some r)) (keyV a b) true σ.get = some (.tuple #[z, .bool false]) := by
  obtain ⟨es, ck, h1, h2⟩ := h
  have hf := find_seen (a := a) hb es l 0 hl h2
  rw [if_neg hm] at hf
  have hk := key_eq (a := a) hb hb
  simp only [lookupE, h1, hk, Option.isSome_some, cond_true, hf]
theorem SeenAt.upd {r : Nat} (h : SeenAt σ r a l) (hl : ∀ c ∈ l, c.length = 1024) (hb : b.length = 1024) (hm : b ∉ l) (x : Value) : ∃ o, updE keyD (.map (some r)) (keyV a b) x σ = some (junk, σ.put r (some o)) ∧ SeenAt (σ.put r (some o)) r a (l ++ [b]) := by
  obtain ⟨es, ck, h1, h2⟩ := h
  have hf := find_seen (a := a) hb es l 0 hl h2
  rw [if_neg hm] at hf
  have hk := key_eq (a := a) hb hb
  refine ⟨.map (es ++ [{ key := keyV a b, val := x, born := ck }]) (ck + 1), by simp only [updE, h1, hk, Option.isSome_some, cond_true, hf], _, _, Store.get_put_same _ _ _, ?_⟩
  rw [List.map_append, h2, List.map_append]; rfl
def addU (l : List (List Int)) (b : List Int) : List (List Int) := if b ∈ l then l else l ++ [b]
theorem addU_len (hl : ∀ c ∈ l, c.length = 1024) (hb : b.length = 1024) : ∀ c ∈ addU l b, c.length = 1024 := by
  unfold addU
  split
  · exact hl
  · intro c hc
    rcases List.mem_append.1 hc with h | h
    · exact hl c h
    · have : c = b := by simpa using h
      rw [this]; exact hb
theorem addU_le : (addU l b).length ≤ l.length + 1 := by
  unfold addU
  split <;> simp
/-- The list of blocks, the map of what is in it, the place: as the closure holds them. -/
structure AddC (σ : Store) (ia im il r : Nat) (vl : Value) (a : Int) (l : List (List Int)) : Prop where
  at_ : σ.get ia = some (.cells [.int .i64 a] none)
  m : σ.get im = some (.cells [.map (some r)] none)
  lb : σ.get il = some (.cells [vl] none)
  seen : SeenAt σ r a l
  lst : SlG σ 1024 vl l.length (bc l.flatten)
  len : ∀ c ∈ l, c.length = 1024
  ne : il ∉ idsV vl ∧ im ∉ idsV vl ∧ ia ∉ idsV vl ∧ r ∉ idsV vl
theorem AddC.ids {ia im il r : Nat} {vl : Value} (h : AddC σ ia im il r vl a l) : ia ≠ il ∧ im ≠ il → ia ≠ r ∧ im ≠ r ∧ il ≠ r := fun _ => by
  obtain ⟨es, ck, h1, _⟩ := h.seen
  refine ⟨fun e => ?_, fun e => ?_, fun e => ?_⟩
  · have := h.at_; rw [e, h1] at this; cases this
  · have := h.m; rw [e, h1] at this; cases this
  · have := h.lb; rw [e, h1] at this; cases this
theorem add_ {ia im il r : Nat} {vl : Value} (h : AddC σ ia im il r vl a l) (hd : ia ≠ il ∧ im ≠ il) (hb : b.length = 1024) (hcap : l.length < 2 ^ 30)
    (hq : ∀ st vl', σ.next ≤ st.next → (∀ j, j < σ.next → j ≠ r → j ≠ il → j ∉ idsV vl → st.get j = σ.get j) → AddC st ia im il r vl' a (addU l b) → (∀ j ∈ idsV vl', j ∈ idsV vl ∨ σ.next ≤ j) → Q (.tuple #[]) st) :
    Does Tryz.prog 34 [bv b, .pointer (some ⟨ia, 0, none⟩), .pointer (some ⟨im, 0, none⟩), .pointer (some ⟨il, 0, none⟩)] σ Q := by
  refine d34 ?_
  obtain ⟨d1, d2, d3⟩ := h.ids hd
  have l25 : (Value.int .i64 a :: bc b).length = 1025 := by simp [hb]
  have bl : (bc b).length = 1024 := by rw [bc_len, hb]
  obtain ⟨s1, hs1⟩ : ∃ s1, s1 = σ.push (.cells (bc b) none) := ⟨_, rfl⟩
  have k1 : Keeps σ s1 := by rw [hs1]; exact (Keeps.refl _).push _
  have c1 : s1.get σ.next = some (.cells (bc b) none) := by rw [hs1]; exact Store.get_push_same _ _
  have n1 : s1.next = σ.next + 1 := by rw [hs1, Store.next_push]
  have a1 := k1.get h.at_
  obtain ⟨s2, hs2⟩ : ∃ s2, s2 = s1.push (.cells (.int .i64 a :: bc b) none) := ⟨_, rfl⟩
  have k2 : Keeps s1 s2 := by rw [hs2]; exact (Keeps.refl _).push _
  have c2 : s2.get s1.next = some (.cells (.int .i64 a :: bc b) none) := by rw [hs2]; exact Store.get_push_same _ _
  have n2 : s2.next = σ.next + 2 := by rw [hs2, Store.next_push, n1]
  have k12 := k1.trans k2
  have m2 := k12.get h.m
  have l2 := k12.get h.lb
  have hrl := h.seen.lt
  have se2 := h.seen.same (k12.2 r hrl)
  have x1 : ∀ a b, extractV (.tuple #[a, b]) 1 = some b := fun _ _ => rfl
  have x0 : ∀ a b, extractV (.tuple #[a, b]) 0 = some a := fun _ _ => rfl
  have ek : (Value.agg ⟨.int .i64 a :: bc b⟩) = keyV a b := rfl
  unfold p34 bv
  rw [box_agg, nop_some, ← hs1]
  simp -implicitDefEqProofs (maxSteps := 2000000) (disch := first|assumption|omega|rfl|(simp only[RD];done)|(simp only[RD];omega)) only [RN,Int.reduceBEq,Int.reduceBNe,Int.reduceLT,Int.reduceLE,Int.reduceAdd,Int.reduceSub,Int.reduceMul,Nat.reduceAdd,↓bc_flatz,↓bc_flat16,↓agg_bytez, a1, c1, hb, l25]
  rw [← hs2]
  by_cases hm : b ∈ l
  · obtain ⟨x, hx⟩ := se2.yes h.len hb hm (.int .i64 0)
    unfold keyV at hx
    simp -implicitDefEqProofs (maxSteps := 2000000) (disch := first|assumption|omega|rfl|(simp only[RD];done)|(simp only[RD];omega)) only [RN,Int.reduceBEq,Int.reduceBNe,Int.reduceLT,Int.reduceLE,Int.reduceAdd,Int.reduceSub,Int.reduceMul,Nat.reduceAdd,↓bc_flatz,↓bc_flat16,↓agg_bytez, m2, c2, l25, hx, x0, x1]
    have e : addU l b = l := if_pos hm
    refine hq _ vl (by omega) (fun j hj _ _ _ => k12.2 j hj) ⟨k12.get h.at_, m2, l2, by rw [e]; exact se2, by rw [e]; exact h.lst.same fun j hj => k12.2 j (h.lst.lt j hj), by rw [e]; exact h.len, h.ne⟩ fun j hj => .inl hj
  · have hx := se2.no h.len hb hm (.int .i64 0)
    obtain ⟨o, u1, u2⟩ := se2.upd h.len hb hm (.int .i64 (l.length : Nat))
    unfold keyV at hx u1
    have hll : lenSl vl = some (.int .i64 (l.length : Nat)) := h.lst.len
    have e : addU l b = l ++ [b] := if_neg hm
    obtain ⟨s3, hs3⟩ : ∃ s3, s3 = s2.put r (some o) := ⟨_, rfl⟩
    have g3 : ∀ j, j ≠ r → s3.get j = s2.get j := fun j hj => by rw [hs3, get_put_ne' hj]
    have n3 : s3.next = σ.next + 2 := by rw [hs3, next_max, n2]; omega
    have hilr : il < σ.next := Store.lt_of_get h.lb
    have hial : ia < σ.next := Store.lt_of_get h.at_
    have himl : im < σ.next := Store.lt_of_get h.m
    have l3 : s3.get il = some (.cells [vl] none) := by rw [g3 _ d3, l2]
    have c3 : s3.get σ.next = some (.cells (bc b) none) := by rw [g3 _ (by omega), k2.get c1]
    have hx' : ∀ j ∈ idsV vl, s3.get j = σ.get j := fun j hj => by rw [g3 j (fun e => h.ne.2.2.2 (e ▸ hj)), k12.2 j (h.lst.lt j hj)]
    have hS3 : SlG s3 1024 vl l.length (bc l.flatten) := h.lst.same hx'
    obtain ⟨s4, hs4⟩ : ∃ s4, s4 = s3.push (.cells (bc b) none) := ⟨_, rfl⟩
    have k4 : Keeps s3 s4 := by rw [hs4]; exact (Keeps.refl _).push _
    have n4 : s4.next = σ.next + 3 := by rw [hs4, Store.next_push, n3]
    have l4 := k4.get l3
    have hS4 : SlG s4 1024 vl l.length (bc l.flatten) := hS3.same fun j hj => k4.2 j (by have := h.lst.lt j hj; omega)
    obtain ⟨s5, a1, a2, a3, a4⟩ := SlG.app (σ := s4) (sz := 1024) (j := s3.next) (k := 1) (gj := none) (by_ := 1024) hS4 (by rw [hs4]; exact Store.get_push_same _ _) (by simp [hb]) (by omega) (by omega) (by decide)
    have l5 : s5.get il = some (.cells [vl] none) := by rw [a4 _ (by omega) (fun hj => h.ne.1 hj), l4]
    have c12 := k2.get c1
    simp -implicitDefEqProofs (maxSteps := 2000000) (disch := first|assumption|omega|rfl|(simp only[RD];done)|(simp only[RD];omega)) only [RN,Int.reduceBEq,Int.reduceBNe,Int.reduceLT,Int.reduceLE,Int.reduceAdd,Int.reduceSub,Int.reduceMul,Nat.reduceAdd,↓bc_flatz,↓bc_flat16,↓agg_bytez, m2, c2, l25, hx, x0, x1, l2, hll, u1, c12, hb]
    rw [← hs3]
    try simp -implicitDefEqProofs (maxSteps := 2000000) (disch := first|assumption|omega|rfl|(simp only[RD];done)|(simp only[RD];omega)) only [RN,Int.reduceBEq,Int.reduceBNe,Int.reduceLT,Int.reduceLE,Int.reduceAdd,Int.reduceSub,Int.reduceMul,Nat.reduceAdd,↓bc_flatz,↓bc_flat16,↓agg_bytez, l3, c3, hb]
    rw [← hs4, a1, eop_some]
    simp -implicitDefEqProofs (maxSteps := 2000000) (disch := first|assumption|omega|rfl|(simp only[RD];done)|(simp only[RD];omega)) only [RN,Int.reduceBEq,Int.reduceBNe,Int.reduceLT,Int.reduceLE,Int.reduceAdd,Int.reduceSub,Int.reduceMul,Nat.reduceAdd,↓bc_flatz,↓bc_flat16,↓agg_bytez, l5]
    have g5 : ∀ j, j < σ.next → j ≠ r → j ≠ il → j ∉ idsV vl → (s5.put il (some (.cells [.slice (some ⟨s4.next, 0, some 1024⟩) (l.length + 1) (l.length + 1)] none))).get j = σ.get j := fun j h1 h2 h3 h4 => by
      rw [get_put_ne' h3, a4 j (by omega) h4, k4.2 j (by omega), g3 j h2, k12.2 j h1]
    refine hq _ (.slice (some ⟨s4.next, 0, some 1024⟩) (l.length + 1) (l.length + 1)) (by rw [next_max, a3]; omega) g5 ⟨?_, ?_, Store.get_put_same _ _ _, ?_, ?_, ?_, ?_⟩ fun j hj => .inr (by have : j = s4.next := (by simpa [idsV] using hj); omega)
    · rw [g5 ia hial d1 hd.1 h.ne.2.2.1, h.at_]
    · rw [g5 im himl d2 hd.2 h.ne.2.1, h.m]
    · rw [e]
      rw [← hs3] at u2
      exact u2.same (by rw [get_put_ne' (fun e => d3 e.symm), a4 r (by omega) h.ne.2.2.2, k4.2 r (by omega)])
    · rw [e]
      have e2 : bc (l ++ [b]).flatten = bc l.flatten ++ bc b := by simp [bc]
      rw [e2, List.length_append, List.length_singleton]
      refine a2.same fun i hi => ?_
      have : i = s4.next := by simpa [idsV] using hi
      rw [get_put_ne' (by omega)]
    · exact addU_len h.len hb
    · have : idsV (.slice (some ⟨s4.next, 0, some 1024⟩) (l.length + 1) (l.length + 1)) = [s4.next] := rfl
      rw [this]
      simp only [List.mem_singleton]
      exact ⟨by omega, by omega, by omega, by omega⟩
end Go.Proofs.YthojojlgmaoecaaGreat
