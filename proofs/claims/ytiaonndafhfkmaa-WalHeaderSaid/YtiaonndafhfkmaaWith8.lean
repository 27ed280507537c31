/- The reference's With: an image with a block written. -/
import Derived.Test.YtiaonndafhfkmaaIm8
set_option linter.all false
set_option maxRecDepth 100000
set_option maxHeartbeats 800000
namespace Go.Proofs.Ytiaonndafhfkmaa
open Go.Am
variable {σ : Store} {Q : Value → Store → Prop} {n x : Int} {v : Value} {L : List HB} {b : List Int} {f : Int → Option (List Int)}
/-- The list, gone through; was the block laid? -/
def wgo (x : Int) (b : List Int) : Bool → List HB → List HB
  | done, [] => if done then [] else [(x, b)]
  | done, h :: r => (if done = false ∧ x ≤ h.1 then [(x, b)] else []) ++ ((if h.1 ≠ x then [h] else []) ++ wgo x b (done || decide (x ≤ h.1)) r)
theorem wgo_true : ∀ L : List HB, wgo x b true L = L.filter fun p => decide (p.1 ≠ x)
  | [] => rfl
  | h :: r => by
    unfold wgo
    rw [if_neg (by simp), Bool.true_or, wgo_true r, List.filter_cons]
    by_cases e : h.1 = x
    · rw [if_neg (by simp [e]), if_neg (by simp [e])]; rfl
    · rw [if_pos e, if_pos (by simp [e])]; rfl
theorem wgo_mem : ∀ {L : List HB}, (L.Pairwise fun a b => a.1 < b.1) → ∀ p, p ∈ wgo x b false L ↔ p = (x, b) ∨ (p ∈ L ∧ p.1 ≠ x)
  | [], _, p => by simp [wgo]
  | h :: r, hp, p => by
    obtain ⟨h1, h2⟩ := List.pairwise_cons.1 hp
    unfold wgo
    by_cases hx : x ≤ h.1
    · rw [if_pos ⟨rfl, hx⟩, decide_eq_true hx, Bool.or_true, wgo_true]
      by_cases e : h.1 = x
      · rw [if_neg (by simp [e])]
        simp only [List.singleton_append, List.nil_append, List.mem_cons, List.mem_filter, decide_eq_true_eq]
        constructor
        · rintro (h | ⟨h, h'⟩)
          · exact .inl h
          · exact .inr ⟨.inr h, h'⟩
        · rintro (h | ⟨h | h, h'⟩)
          · exact .inl h
          · exact absurd (by rw [h]; exact e) h'
          · exact .inr ⟨h, h'⟩
      · rw [if_pos e]
        simp only [List.singleton_append, List.cons_append, List.nil_append, List.mem_cons, List.mem_filter, decide_eq_true_eq]
        constructor
        · rintro (h | h | ⟨h, h'⟩)
          · exact .inl h
          · exact .inr ⟨.inl h, by rw [h]; exact e⟩
          · exact .inr ⟨.inr h, h'⟩
        · rintro (h | ⟨h | h, h'⟩)
          · exact .inl h
          · exact .inr (.inl h)
          · exact .inr (.inr ⟨h, h'⟩)
    · rw [if_neg (fun h => hx h.2), decide_eq_false hx, Bool.or_false, if_pos (by omega)]
      simp only [List.singleton_append, List.nil_append, List.mem_cons, wgo_mem h2 p]
      constructor
      · rintro (h | h | ⟨h, h'⟩)
        · exact .inr ⟨.inl h, by rw [h]; omega⟩
        · exact .inl h
        · exact .inr ⟨.inr h, h'⟩
      · rintro (h | ⟨h | h, h'⟩)
        · exact .inr (.inl h)
        · exact .inl h
        · exact .inr (.inr ⟨h, h'⟩)
theorem wgo_asc : ∀ {L : List HB}, (L.Pairwise fun a b => a.1 < b.1) → (wgo x b false L).Pairwise fun a b => a.1 < b.1
  | [], _ => by simp [wgo]
  | h :: r, hp => by
    obtain ⟨h1, h2⟩ := List.pairwise_cons.1 hp
    unfold wgo
    by_cases hx : x ≤ h.1
    · rw [if_pos ⟨rfl, hx⟩, decide_eq_true hx, Bool.or_true, wgo_true]
      have hf : (r.filter fun p => decide (p.1 ≠ x)).Pairwise fun a b => a.1 < b.1 := h2.filter _
      have hr : ∀ p ∈ r.filter fun p => decide (p.1 ≠ x), h.1 < p.1 := fun p hp => h1 p (List.mem_filter.1 hp).1
      by_cases e : h.1 = x
      · rw [if_neg (by simp [e])]
        simp only [List.singleton_append, List.nil_append]
        exact List.pairwise_cons.2 ⟨fun p hp => by have := hr p hp; show x < p.1; omega, hf⟩
      · rw [if_pos e]
        simp only [List.singleton_append, List.cons_append, List.nil_append]
        refine List.pairwise_cons.2 ⟨fun p hp => ?_, List.pairwise_cons.2 ⟨hr, hf⟩⟩
        show x < p.1
        rcases List.mem_cons.1 hp with rfl | hp
        · omega
        · have := hr p hp; omega
    · rw [if_neg (fun h => hx h.2), decide_eq_false hx, Bool.or_false, if_pos (by omega)]
      simp only [List.singleton_append, List.nil_append]
      refine List.pairwise_cons.2 ⟨fun p hp => ?_, wgo_asc h2⟩
      rcases (wgo_mem h2 p).1 hp with e | ⟨e, _⟩
      · rw [e]; show h.1 < x; omega
      · exact h1 p e
def withL (x : Int) (b : List Int) (L : List HB) : List HB := wgo x b (decide (b = zb)) L
theorem withL_held (h : HeldL f L) : HeldL (keepF f x b) (withL x b L) := by
  unfold withL
  by_cases hb : b = zb
  · rw [decide_eq_true hb, wgo_true]
    refine ⟨h.asc.filter _, fun p => ?_⟩
    rw [List.mem_filter, h.mem p]
    unfold keepF
    by_cases hx : p.1 = x
    · rw [if_pos hx, if_pos hb]; simp [hx]
    · rw [if_neg hx]; simp [hx]
  · rw [decide_eq_false hb]
    refine ⟨wgo_asc h.asc, fun p => ?_⟩
    rw [wgo_mem h.asc, h.mem p]
    unfold keepF
    by_cases hx : p.1 = x
    · rw [if_pos hx, if_neg hb]
      constructor
      · rintro (h | ⟨_, h⟩)
        · rw [h]
        · exact absurd hx h
      · intro h
        have h : b = p.2 := by simpa using h
        exact .inl (by rw [h, ← hx])
    · rw [if_neg hx]
      constructor
      · rintro (h | ⟨h, _⟩)
        · rw [h] at hx; exact absurd rfl hx
        · exact h
      · exact fun h => .inr ⟨h, hx⟩
theorem wgo_lens (hb : b.length = 1024) : ∀ {L : List HB} {done : Bool}, (∀ p ∈ L, p.2.length = 1024) → ∀ p ∈ wgo x b done L, p.2.length = 1024
  | [], done, _, p, hp => by
    unfold wgo at hp
    split at hp
    · cases hp
    · rw [List.mem_singleton.1 hp]; exact hb
  | h :: r, done, hl, p, hp => by
    unfold wgo at hp
    rcases List.mem_append.1 hp with hp | hp
    · split at hp
      · rw [List.mem_singleton.1 hp]; exact hb
      · cases hp
    · rcases List.mem_append.1 hp with hp | hp
      · split at hp
        · rw [List.mem_singleton.1 hp]; exact hl h (List.mem_cons_self ..)
        · cases hp
      · exact wgo_lens hb (fun q hq => hl q (List.mem_cons_of_mem _ hq)) p hp
theorem wgo_len : ∀ {L : List HB}, (wgo x b false L).length ≤ L.length + 1
  | [] => by simp [wgo]
  | h :: r => by
    have ih := wgo_len (L := r)
    have hf := List.length_filter_le (fun p : HB => decide (p.1 ≠ x)) r
    have e2 : (if h.1 ≠ x then [h] else []).length ≤ 1 := by split <;> simp
    unfold wgo
    by_cases hx : x ≤ h.1
    · rw [if_pos ⟨rfl, hx⟩, decide_eq_true hx, Bool.or_true, wgo_true, List.length_append, List.length_append, List.length_cons, List.length_cons, List.length_nil]
      omega
    · rw [if_neg (fun h => hx h.2), decide_eq_false hx, Bool.or_false, List.length_append, List.length_append, List.length_cons, List.length_nil]
      omega
theorem withL_len : (withL x b L).length ≤ L.length + 1 := by
  unfold withL
  by_cases hb : b = zb
  · rw [decide_eq_true hb, wgo_true]
    have := List.length_filter_le (fun p : HB => decide (p.1 ≠ x)) L
    omega
  · rw [decide_eq_false hb]; exact wgo_len
theorem withL_lens (hb : b.length = 1024) (hl : ∀ p ∈ L, p.2.length = 1024) : ∀ p ∈ withL x b L, p.2.length = 1024 := wgo_lens hb hl
/-- The midst of With: four cells of its own, and the list so far. -/
structure Wm (σ st : Store) (n : Int) (v : Value) (b : List Int) (ov : Value) (M : List HB) : Prop where
  k : Keeps σ st
  c0 : st.get σ.next = some (.cells [.int .i64 n, v] none)
  c1 : st.get (σ.next + 1) = some (.cells (bc b) none)
  c2 : st.get (σ.next + 2) = some (.cells [.int .i64 0, .slice none 0 0] none)
  c3 : st.get (σ.next + 3) = some (.cells [.int .i64 n, ov] none)
  s : SlG st 1025 ov M.length (waitC M)
  f : ∀ j ∈ idsV ov, σ.next + 3 < j
theorem Wm.push {st : Store} {ov : Value} {M : List HB} (h : Wm σ st n v b ov M) (o : SObj) : Wm σ (st.push o) n v b ov M := by
  have k := (Keeps.refl st).push o
  exact ⟨h.k.trans k, k.get h.c0, k.get h.c1, k.get h.c2, k.get h.c3, h.s.same fun j hj => k.2 j (h.s.lt j hj), h.f⟩
/-- One more element. -/
theorem Wm.app {st : Store} {ov : Value} {M : List HB} (h : Wm σ st n v b ov M) (hM : M.length < 2 ^ 36) (p : HB) (hp : p.2.length = 1024) :
    ∃ id st', appendV 1025 1032 ov (.slice (some ⟨st.next, 0, none⟩) 1 1) (st.push (.cells (.int .i64 p.1 :: bc p.2) none)) = some (.slice (some ⟨id, 0, some 1025⟩) (M.length + 1) (M.length + 1), st') ∧ (∀ j, j < st.next → j ∉ idsV ov → st'.get j = st.get j) ∧ st'.get (σ.next + 3) = some (.cells [.int .i64 n, ov] none) ∧
      Wm σ (st'.put (σ.next + 3) (some (.cells [.int .i64 n, .slice (some ⟨id, 0, some 1025⟩) (M.length + 1) (M.length + 1)] none))) n v b (.slice (some ⟨id, 0, some 1025⟩) (M.length + 1) (M.length + 1)) (M ++ [p]) := by
  have h1 := h.push (.cells (.int .i64 p.1 :: bc p.2) none)
  obtain ⟨s', a1, a2, a3, a4⟩ := SlG.app (j := st.next) (k := 1) (gj := none) (by_ := 1032) h1.s (Store.get_push_same _ _) (news := .int .i64 p.1 :: bc p.2) (by simp [hp]) (by omega) (by omega) (by decide)
  have l3 := Store.lt_of_get h1.c3
  have hne : ∀ j, j ≤ σ.next + 3 → j ∉ idsV ov := fun j hj hm => by have := h.f j hm; omega
  have e : ∀ j, j ≤ σ.next + 3 → s'.get j = (st.push (.cells (.int .i64 p.1 :: bc p.2) none)).get j := fun j hj => a4 j (by omega) (hne j hj)
  have hlt : ∀ j, j ≤ σ.next + 3 → j < (st.push (.cells (.int .i64 p.1 :: bc p.2) none)).next := fun j hj => by omega
  have n1 : (st.push (.cells (.int .i64 p.1 :: bc p.2) none)).next = st.next + 1 := Store.next_push _ _
  refine ⟨_, s', a1, fun j hj hn => by rw [a4 j (by omega) hn]; exact ((Keeps.refl st).push _).2 j hj, by rw [e _ (by omega)]; exact h1.c3, ⟨⟨?_, fun j hj => ?_⟩, ?_, ?_, ?_, Store.get_put_same _ _ _, ?_, fun j hj => ?_⟩⟩
  · rw [next_max, a3]; have := h1.k.1; omega
  · rw [get_put_ne' (by omega), e j (by omega)]; exact h1.k.2 j hj
  · rw [get_put_ne' (by omega), e _ (by omega)]; exact h1.c0
  · rw [get_put_ne' (by omega), e _ (by omega)]; exact h1.c1
  · rw [get_put_ne' (by omega), e _ (by omega)]; exact h1.c2
  · have hl : (M ++ [p]).length = M.length + 1 := by simp
    rw [hl, waitC_app]
    refine a2.same fun j hj => get_put_ne' ?_
    have : j = (st.push (.cells (.int .i64 p.1 :: bc p.2) none)).next := by simpa [idsV] using hj
    omega
  · have : j = (st.push (.cells (.int .i64 p.1 :: bc p.2) none)).next := by simpa [idsV] using hj
    omega
theorem with_ (hv : SlR σ 1025 v L.length (waitC L)) (hl : ∀ p ∈ L, p.2.length = 1024) (hcap : L.length < 2 ^ 30) (hb : b.length = 1024)
    (hq : ∀ st' ov, Keeps σ st' → SlG st' 1025 ov (withL x b L).length (waitC (withL x b L)) → (∀ j ∈ idsV ov, σ.next ≤ j) → Q (.agg ⟨[.int .i64 n, ov]⟩) st') :
    Does Try.prog 27 [.agg ⟨[.int .i64 n, v]⟩, .int .i64 x, .agg ⟨bc b⟩] σ Q := by
  refine d27 ?_
  have z1 := zb_len
  have u2 : unrle [(1, Value.int .i64 0), (1, .slice none 0 0)] = [.int .i64 0, .slice none 0 0] := rfl
  have g2 : ([.int .i64 0, .slice none 0 0] : List Value).length = 2 := rfl
  have g3 : ∀ ov : Value, ([.int .i64 n, ov] : List Value).length = 2 := fun _ => rfl
  have rp : ∀ ov : Value, rdPart (some (.cells [.int .i64 n, ov] none)) 0 2 = some (.agg ⟨[.int .i64 n, ov]⟩) := fun _ => rfl
  obtain ⟨s1, hs1⟩ : ∃ s1, s1 = σ.push (.cells [.int .i64 n, v] none) := ⟨_, rfl⟩
  obtain ⟨s2, hs2⟩ : ∃ s2, s2 = s1.push (.cells (bc b) none) := ⟨_, rfl⟩
  obtain ⟨s3, hs3⟩ : ∃ s3, s3 = s2.push (.cells [.int .i64 0, .slice none 0 0] none) := ⟨_, rfl⟩
  obtain ⟨s4, hs4⟩ : ∃ s4, s4 = s3.push (.cells [.int .i64 n, .slice none 0 0] none) := ⟨_, rfl⟩
  have k1 : Keeps σ s1 := by rw [hs1]; exact (Keeps.refl _).push _
  have k2 : Keeps s1 s2 := by rw [hs2]; exact (Keeps.refl _).push _
  have k3 : Keeps s2 s3 := by rw [hs3]; exact (Keeps.refl _).push _
  have k4 : Keeps s3 s4 := by rw [hs4]; exact (Keeps.refl _).push _
  have n1 : s1.next = σ.next + 1 := by rw [hs1, Store.next_push]
  have n2 : s2.next = σ.next + 2 := by rw [hs2, Store.next_push, n1]
  have n3 : s3.next = σ.next + 3 := by rw [hs3, Store.next_push, n2]
  have c0 : s1.get σ.next = some (.cells [.int .i64 n, v] none) := by rw [hs1]; exact Store.get_push_same _ _
  have c1 : s2.get s1.next = some (.cells (bc b) none) := by rw [hs2]; exact Store.get_push_same _ _
  have c2 : s3.get s2.next = some (.cells [.int .i64 0, .slice none 0 0] none) := by rw [hs3]; exact Store.get_push_same _ _
  have c3 : s4.get s3.next = some (.cells [.int .i64 n, .slice none 0 0] none) := by rw [hs4]; exact Store.get_push_same _ _
  have W0 : Wm σ s4 n v b (.slice none 0 0) [] := ⟨((k1.trans k2).trans k3).trans k4, k4.get (k3.get (k2.get c0)), by rw [← n1]; exact k4.get (k3.get c1), by rw [← n2]; exact k4.get c2, by rw [← n3]; exact c3, SlG.nil, fun j hj => by simp [idsV] at hj⟩
  have ez := eqA_bc (n := 1024) false hb z1
  unfold p27
  rw [box_agg, nop_some, ← hs1]
  unfold p27_5
  rw [box_agg, nop_some, ← hs2, u2, nop_some, ← hs3]
  have d0 : s3.get σ.next = some (.cells [.int .i64 n, v] none) := k3.get (k2.get c0)
  have d1 : s4.get (σ.next + 1) = some (.cells (bc b) none) := W0.c1
  simp -implicitDefEqProofs (maxSteps := 2000000) (disch := first|assumption|omega|rfl|(simp only[RD];done)|(simp only[RD];omega)) only [RN,Int.reduceBEq,Int.reduceBNe,Int.reduceLT,Int.reduceLE,Int.reduceAdd,Int.reduceSub,Int.reduceMul,Nat.reduceAdd,↓bc_flatz,↓bc_flat16,↓agg_bytez, d0, u2, g2, n1, n2, n3]
  rw [← hs4]
  rw [n1] at c1
  have d1' : s3.get (σ.next + 1) = some (.cells (bc b) none) := k3.get c1
  simp -implicitDefEqProofs (maxSteps := 2000000) (disch := first|assumption|omega|rfl|(simp only[RD];done)|(simp only[RD];omega)) only [RN,Int.reduceBEq,Int.reduceBNe,Int.reduceLT,Int.reduceLE,Int.reduceAdd,Int.reduceSub,Int.reduceMul,Nat.reduceAdd,↓bc_flatz,↓bc_flat16,↓agg_bytez, d1', hb, ez]
  obtain ⟨d00, hd00⟩ : ∃ d00 : Bool, d00 = decide (b = zb) := ⟨_, rfl⟩
  have ew : withL x b L = wgo x b d00 L := by rw [hd00]; rfl
  have l25 : ∀ p : HB, p.2.length = 1024 → (Value.int .i64 p.1 :: bc p.2).length = 1025 := fun p hp => by simp [hp]
  have hlen := withL_len (x := x) (b := b) (L := L)
  rw [← hd00]
  refine lop2 (fun k y z st => ∃ (i : Nat) (dn : Bool) (M : List HB) (ov : Value), k + i = L.length ∧ y = .bool dn ∧ z = .int .i64 i ∧ Wm σ st n v b ov M ∧ M ++ wgo x b dn (L.drop i) = withL x b L) L.length ⟨0, d00, [], .slice none 0 0, rfl, by simp, rfl, W0, by rw [ew]; rfl⟩ ?_
  rintro k y z st next ⟨i, dn, M, ov, hi, rfl, rfl, hM, hw⟩ hnx
  have hMl : M.length ≤ L.length + 1 := by
    have := congrArg List.length hw
    rw [List.length_append] at this
    omega
  have hv3 : SlR st 1025 v L.length (waitC L) := hv.keeps fun i o h => hM.k.get h
  have m0 := hM.c0
  by_cases h5 : (i : Int) < L.length
  · have h6 : i < L.length := by omega
    obtain ⟨p, hp⟩ : ∃ p, L[i]? = some p := ⟨_, List.getElem?_eq_getElem h6⟩
    have hdr : L.drop i = p :: L.drop (i + 1) := by
      rw [List.drop_eq_getElem_cons h6]
      rw [List.getElem?_eq_getElem h6] at hp
      rw [Option.some.inj hp]
    rw [hdr] at hw
    have hpl : p.2.length = 1024 := hl p (List.mem_of_getElem? hp)
    obtain ⟨a, o, q1, q2, q3, q4⟩ := hv3.at (by omega) h6
    obtain ⟨y, c⟩ := p
    rw [waitC_at hl hp] at q3
    have hc : c.length = 1024 := hpl
    have l25' := l25 (y, c) hpl
    have hM1 := hM.push (.cells (.int .i64 y :: bc c) none)
    obtain ⟨sa, hsa⟩ : ∃ sa, sa = st.push (.cells (.int .i64 y :: bc c) none) := ⟨_, rfl⟩
    have ch : sa.get st.next = some (.cells (.int .i64 y :: bc c) none) := by rw [hsa]; exact Store.get_push_same _ _
    rw [← hsa] at hM1
    have fin : ∀ (st2 : Store) (dn2 : Bool) (M2 : List HB) (ov2 : Value), Wm σ st2 n v b ov2 M2 → st2.get st.next = some (.cells (.int .i64 y :: bc c) none) → M2 ++ ((if y ≠ x then [(y, c)] else []) ++ wgo x b dn2 (L.drop (i + 1))) = withL x b L → M2.length ≤ L.length + 1 → 
        vop (rdOne (st2.get st.next) 0) st2 fun v80 s81 =>
        vop (binI .neq v80 (.int .i64 x)) s81 fun v82 s83 =>
        condH v82 (
        vop (faddr 1 (.pointer (some ⟨σ.next + 3, 0, none⟩))) s83 fun v84 s85 =>
        vop (loadV false 1 v84 s85.get) s85 fun v86 s87 =>
        vop (loadV true 1025 (.pointer (some ⟨st.next, 0, none⟩)) s87.get) s87 fun v88 s89 =>
        nop (sliceOf 1 (buildL (List.replicate 1 (unrle [(1, (.int .i64 0)), (1024, (.int .u8 0))])) [(0, v88)])) s89 fun v90 s91 =>
        eop (appendV 1025 1032 v86 v90 s91) fun v92 s93 =>
        vop (faddr 1 (.pointer (some ⟨σ.next + 3, 0, none⟩))) s93 fun v94 s95 =>
        eop (storeV 1 v94 v92 s95) fun _ s97 =>
        (fun (y : Value) (s : Store) => vop (binI .add (.int .i64 (i : Nat)) (.int .i64 1)) s fun v100 s101 => next y v100 s101) (.bool dn2) s97) (
        (fun (y : Value) (s : Store) => vop (binI .add (.int .i64 (i : Nat)) (.int .i64 1)) s fun v100 s101 => next y v100 s101) (.bool dn2) s83) := by
      intro st2 dn2 M2 ov2 hM2 ch2 hw2 hMl2
      have m3 := hM2.c3
      by_cases hyx : y = x
      · have e : (y != x) = false := by simp [hyx]
        rw [if_neg (by simp [hyx])] at hw2
        simp -implicitDefEqProofs (maxSteps := 2000000) (disch := first|assumption|omega|rfl|(simp only[RD];done)|(simp only[RD];omega)) only [RN,Int.reduceBEq,Int.reduceBNe,Int.reduceLT,Int.reduceLE,Int.reduceAdd,Int.reduceSub,Int.reduceMul,Nat.reduceAdd,↓bc_flatz,↓bc_flat16,↓agg_bytez, ch2, e]
        exact hnx _ _ _ (by omega) ⟨i + 1, dn2, M2, ov2, by omega, rfl, by congr 1, hM2, hw2⟩
      · have e : (y != x) = true := by simp [hyx]
        rw [if_pos hyx] at hw2
        obtain ⟨id, s6, r1, r4, r2, r3⟩ := hM2.app (by omega) (y, c) hpl
        simp -implicitDefEqProofs (maxSteps := 2000000) (disch := first|assumption|omega|rfl|(simp only[RD];done)|(simp only[RD];omega)) only [RN,Int.reduceBEq,Int.reduceBNe,Int.reduceLT,Int.reduceLE,Int.reduceAdd,Int.reduceSub,Int.reduceMul,Nat.reduceAdd,↓bc_flatz,↓bc_flat16,↓agg_bytez, ch2, e, m3, l25', r1, r2]
        refine hnx _ _ _ (by omega) ⟨i + 1, dn2, M2 ++ [(y, c)], _, by omega, rfl, by congr 1, r3, ?_⟩
        rw [← hw2]; simp
    cases dn with
    | true =>
      simp -implicitDefEqProofs (maxSteps := 2000000) (disch := first|assumption|omega|rfl|(simp only[RD];done)|(simp only[RD];omega)) only [RN,Int.reduceBEq,Int.reduceBNe,Int.reduceLT,Int.reduceLE,Int.reduceAdd,Int.reduceSub,Int.reduceMul,Nat.reduceAdd,↓bc_flatz,↓bc_flat16,↓agg_bytez, m0, hv3.len, decide_eq_true h5, p27_4, q1, q3, l25']
      rw [← hsa]
      simp -implicitDefEqProofs (maxSteps := 2000000) (disch := first|assumption|omega|rfl|(simp only[RD];done)|(simp only[RD];omega)) only [RN,Int.reduceBEq,Int.reduceBNe,Int.reduceLT,Int.reduceLE,Int.reduceAdd,Int.reduceSub,Int.reduceMul,Nat.reduceAdd,↓bc_flatz,↓bc_flat16,↓agg_bytez, p27_2, p27_1]
      have := fin sa true M ov hM1 ch (by
        have h := hw
        unfold wgo at h
        rw [if_neg (by simp), Bool.true_or] at h
        exact h) hMl
      try simp -implicitDefEqProofs (maxSteps := 2000000) (disch := first|assumption|omega|rfl|(simp only[RD];done)|(simp only[RD];omega)) only [RN,Int.reduceBEq,Int.reduceBNe,Int.reduceLT,Int.reduceLE,Int.reduceAdd,Int.reduceSub,Int.reduceMul,Nat.reduceAdd,↓bc_flatz,↓bc_flat16,↓agg_bytez] at this
      exact this
    | false =>
      by_cases hyx : x ≤ y
      · have hw1 : (M ++ [(x, b)]) ++ ((if y ≠ x then [(y, c)] else []) ++ wgo x b true (L.drop (i + 1))) = withL x b L := by
          have h := hw
          unfold wgo at h
          rw [if_pos ⟨rfl, hyx⟩, decide_eq_true hyx, Bool.or_true] at h
          rw [← h]; simp
        have hMl2 : (M ++ [(x, b)]).length ≤ L.length + 1 := by
          have := congrArg List.length hw1
          rw [List.length_append] at this
          omega
        have m1 := hM1.c1
        have m3 := hM1.c3
        obtain ⟨id, s6, r1, r4, r2, r3⟩ := hM1.app (by omega) (x, b) hb
        have lxb := l25 (x, b) hb
        have ne3 : st.next ≠ σ.next + 3 := fun e => by have := Store.lt_of_get hM.c3; omega
        have ch6 : s6.get st.next = some (.cells (.int .i64 y :: bc c) none) := by
          rw [r4 st.next (Store.lt_of_get ch) (fun hj => Nat.lt_irrefl _ (hM.s.lt _ hj)), ch]
        simp -implicitDefEqProofs (maxSteps := 2000000) (disch := first|assumption|omega|rfl|(simp only[RD];done)|(simp only[RD];omega)) only [RN,Int.reduceBEq,Int.reduceBNe,Int.reduceLT,Int.reduceLE,Int.reduceAdd,Int.reduceSub,Int.reduceMul,Nat.reduceAdd,↓bc_flatz,↓bc_flat16,↓agg_bytez, m0, hv3.len, decide_eq_true h5, p27_4, q1, q3, l25']
        rw [← hsa]
        simp -implicitDefEqProofs (maxSteps := 2000000) (disch := first|assumption|omega|rfl|(simp only[RD];done)|(simp only[RD];omega)) only [RN,Int.reduceBEq,Int.reduceBNe,Int.reduceLT,Int.reduceLE,Int.reduceAdd,Int.reduceSub,Int.reduceMul,Nat.reduceAdd,↓bc_flatz,↓bc_flat16,↓agg_bytez, p27_2, p27_1, ch, decide_eq_true hyx, m3, m1, hb, r1, r2]
        have := fin _ true (M ++ [(x, b)]) _ r3 (by rw [get_put_ne' ne3]; exact ch6) hw1 hMl2
        try simp -implicitDefEqProofs (maxSteps := 2000000) (disch := first|assumption|omega|rfl|(simp only[RD];done)|(simp only[RD];omega)) only [RN,Int.reduceBEq,Int.reduceBNe,Int.reduceLT,Int.reduceLE,Int.reduceAdd,Int.reduceSub,Int.reduceMul,Nat.reduceAdd,↓bc_flatz,↓bc_flat16,↓agg_bytez] at this
        exact this
      · have hw1 : M ++ ((if y ≠ x then [(y, c)] else []) ++ wgo x b false (L.drop (i + 1))) = withL x b L := by
          have h := hw
          unfold wgo at h
          rw [if_neg (fun h => hyx h.2), decide_eq_false hyx, Bool.or_false] at h
          exact h
        simp -implicitDefEqProofs (maxSteps := 2000000) (disch := first|assumption|omega|rfl|(simp only[RD];done)|(simp only[RD];omega)) only [RN,Int.reduceBEq,Int.reduceBNe,Int.reduceLT,Int.reduceLE,Int.reduceAdd,Int.reduceSub,Int.reduceMul,Nat.reduceAdd,↓bc_flatz,↓bc_flat16,↓agg_bytez, m0, hv3.len, decide_eq_true h5, p27_4, q1, q3, l25']
        rw [← hsa]
        simp -implicitDefEqProofs (maxSteps := 2000000) (disch := first|assumption|omega|rfl|(simp only[RD];done)|(simp only[RD];omega)) only [RN,Int.reduceBEq,Int.reduceBNe,Int.reduceLT,Int.reduceLE,Int.reduceAdd,Int.reduceSub,Int.reduceMul,Nat.reduceAdd,↓bc_flatz,↓bc_flat16,↓agg_bytez, p27_2, p27_1, ch, decide_eq_false hyx]
        have := fin sa false M ov hM1 ch hw1 hMl
        try simp -implicitDefEqProofs (maxSteps := 2000000) (disch := first|assumption|omega|rfl|(simp only[RD];done)|(simp only[RD];omega)) only [RN,Int.reduceBEq,Int.reduceBNe,Int.reduceLT,Int.reduceLE,Int.reduceAdd,Int.reduceSub,Int.reduceMul,Nat.reduceAdd,↓bc_flatz,↓bc_flat16,↓agg_bytez, ch] at this
        exact this
  · have hib : i = L.length := by omega
    rw [hib, List.drop_length] at hw
    have m1 := hM.c1
    have m2 := hM.c2
    have m3 := hM.c3
    have hge : ∀ {st2 : Store} {ov2 : Value} {M2 : List HB}, Wm σ st2 n v b ov2 M2 → M2 = withL x b L → Q (.agg ⟨[.int .i64 n, ov2]⟩) (st2.put (σ.next + 2) (some (.cells [.int .i64 n, ov2] none))) := fun {st2 ov2 M2} h e => by
      subst e
      exact hq _ _ (h.k.put _ (by omega)) (h.s.same fun j hj => get_put_ne' (by have := h.f j hj; omega)) fun j hj => by have := h.f j hj; omega
    cases dn with
    | true =>
      have e : M = withL x b L := by rw [← hw]; simp [wgo]
      simp -implicitDefEqProofs (maxSteps := 2000000) (disch := first|assumption|omega|rfl|(simp only[RD];done)|(simp only[RD];omega)) only [RN,Int.reduceBEq,Int.reduceBNe,Int.reduceLT,Int.reduceLE,Int.reduceAdd,Int.reduceSub,Int.reduceMul,Nat.reduceAdd,↓bc_flatz,↓bc_flat16,↓agg_bytez, m0, hv3.len, decide_eq_false h5, p27_4, p27_3, m3, rp, m2, g2, g3]
      exact hge hM e
    | false =>
      have e : M ++ [(x, b)] = withL x b L := by rw [← hw]; simp [wgo]
      obtain ⟨id, s6, r1, r4, r2, r3⟩ := hM.app (by omega) (x, b) hb
      have m6 := r3.c3
      have m7 := r3.c2
      rw [get_put_ne' (by omega)] at m7
      simp -implicitDefEqProofs (maxSteps := 2000000) (disch := first|assumption|omega|rfl|(simp only[RD];done)|(simp only[RD];omega)) only [RN,Int.reduceBEq,Int.reduceBNe,Int.reduceLT,Int.reduceLE,Int.reduceAdd,Int.reduceSub,Int.reduceMul,Nat.reduceAdd,↓bc_flatz,↓bc_flat16,↓agg_bytez, m7, g2, g3, m0, hv3.len, decide_eq_false h5, p27_4, p27_3, m3, m1, hb, r1, r2]
      try simp -implicitDefEqProofs (maxSteps := 2000000) (disch := first|assumption|omega|rfl|(simp only[RD];done)|(simp only[RD];omega)) only [RN,Int.reduceBEq,Int.reduceBNe,Int.reduceLT,Int.reduceLE,Int.reduceAdd,Int.reduceSub,Int.reduceMul,Nat.reduceAdd,↓bc_flatz,↓bc_flat16,↓agg_bytez, m6, rp, m7, g2, g3]
      exact hge r3 e
end Go.Proofs.Ytiaonndafhfkmaa
