/- Contract of past.Changed. -/
import Derived.Test.YthojojlgmaoecaaGreatChg5
set_option linter.all false
set_option maxRecDepth 100000
set_option maxHeartbeats 1600000
namespace Go.Proofs.YthojojlgmaoecaaGreat
open Go.Am Go.Sort
variable {σ : Store} {Q : Value → Store → Prop} {n m : Int} {v u : Value} {L A : List HB} {f g : Int → Option (List Int)}
theorem sort_ints {st : Store} {i n : Nat} {L : List Int} (hi : st.get i = some (.cells (iC L) (some 1))) (hn : L.length = n) (hsz : n < 4611686018427387904)
    (hq : ∀ st', st'.next = st.next → st'.get i = some (.cells (iC (srtI L)) (some 1)) → (∀ k, k ≠ i → st'.get k = st.get k) → Q (.tuple #[]) st') :
    Does Tryz.prog 39 [.slice (some ⟨i, 0, some 1⟩) n n] st Q :=
  ⟨_, _, sorti_sim (fun w blk off c zs hH hb hs => calls_of_every_depth fun D => AnyS.slices_Sort_int_in slI D blk off c zs w hH hb hs) hi hn hsz, hq _ (Store.next_put_lt _ _ (Store.lt_of_get hi)) (Store.get_put_same _ _ _) fun k hk => Store.get_put_ne _ _ hk⟩
theorem sort_none {st : Store} (hq : Q (.tuple #[]) st) : Does Tryz.prog 39 [.slice none 0 0] st Q := by
  refine ⟨_, _, ⟨Nat.le_refl _, fun M w cargs hr ha => ?_⟩, hq⟩
  obtain ⟨u0, rfl, v0⟩ : ∃ u0, cargs = #[u0] ∧ VR M false (.slice none 0 0) u0 := by
    obtain ⟨hs, hv⟩ := ha
    have hs : cargs.size = 1 := by simpa using hs.symm
    refine ⟨cargs[0], ?_, hv 0 _ _ rfl (by simp)⟩
    apply Array.ext
    · simp [hs]
    · intro j h1 h2
      have : j = 0 := by simp at h2; omega
      subst this; rfl
  obtain rfl := VR.scalar_eq rfl v0
  refine Calls.mono (Any.slices_Sort_int_none slI none 0 w) ?_
  rintro e w' ⟨rfl, rfl⟩
  exact ⟨M, .tuple #[], rfl, .tuple _ _ rfl fun i v v' hv => by simp at hv, hr, Step.refl _ _ _⟩
theorem few_ents {l : Ents} (hk : (keysE l).Nodup) (hf : ∀ x, eget l x = (f x).map bv) (hn : n ≤ 1048576) (hb : ∀ x b, f x = some b → 0 ≤ x ∧ x < n) : l.length < 2 ^ 28 := by
  have h1 := nodup_ints (l := keysE l) hk (n := n) fun x hx => by
    obtain ⟨p, hp, rfl⟩ := List.mem_map.1 hx
    exact hb _ _ (ents_val hk hf hp).1
  have h2 : (keysE l).length = l.length := by simp [keysE]
  rcases h1 with h1 | h1
  · omega
  · rw [h1] at h2; simp at h2; omega
theorem changed_ (hv : SlR σ 1025 v L.length (waitC L)) (hl : ∀ p ∈ L, p.2.length = 1024) (hcap : L.length < 2 ^ 40) (hu : SlR σ 1025 u A.length (waitC A)) (hla : ∀ p ∈ A, p.2.length = 1024) (hcapa : A.length < 2 ^ 40)
    (hq1 : okIm n L → okIm m A → n = m → ∀ l v st, l.Pairwise (· < ·) → (∀ x, x ∈ l ↔ ldF (fun _ => none) L x ≠ ldF (fun _ => none) A x) → Keeps σ st → SlG st 1 v l.length (iC l) → (∀ i ∈ idsV v, σ.next ≤ i) → Q v st)
    (hq2 : ¬ (okIm n L ∧ okIm m A ∧ n = m) → ∀ st, Keeps σ st → Q (.slice none 0 0) st) :
    Does Tryz.prog 31 [.agg ⟨[.int .i64 n, v]⟩, .agg ⟨[.int .i64 m, u]⟩] σ Q := by
  have g2' : ∀ (n : Int) (v : Value), ([.int .i64 n, v] : List Value).length = 2 := fun _ _ => rfl
  obtain ⟨s1, hs1⟩ : ∃ s1, s1 = σ.push (.cells [.int .i64 n, v] none) := ⟨_, rfl⟩
  have k1 : Keeps σ s1 := by rw [hs1]; exact (Keeps.refl _).push _
  have c1 : s1.get σ.next = some (.cells [.int .i64 n, v] none) := by rw [hs1]; exact Store.get_push_same _ _
  obtain ⟨s2, hs2⟩ : ∃ s2, s2 = s1.push (.cells [.int .i64 m, u] none) := ⟨_, rfl⟩
  have k2 : Keeps s1 s2 := by rw [hs2]; exact (Keeps.refl _).push _
  have c2 : s2.get s1.next = some (.cells [.int .i64 m, u] none) := by rw [hs2]; exact Store.get_push_same _ _
  have k12 := k1.trans k2
  have c1' := k2.get c1
  obtain ⟨r1, t1, sim1, h1, kt1⟩ := both_ (Q := fun r st => (r = .bool true ∧ okIm n L ∧ okIm m A ∧ n = m ∨ r = .bool false ∧ ¬ (okIm n L ∧ okIm m A ∧ n = m)) ∧ Keeps s2 st) (hv.keeps fun i o h => k12.get h) hl (by omega) (hu.keeps fun i o h => k12.get h) hla (by omega) (fun h1 h2 h3 st k => ⟨.inl ⟨rfl, h1, h2, h3⟩, k⟩) fun h st k => ⟨.inr ⟨rfl, h⟩, k⟩
  have k01 := k12.trans kt1
  have d1 := kt1.get c1'
  have d2 := kt1.get c2
  rcases h1 with ⟨rfl, ho1, ho2, hnm⟩ | ⟨rfl, hno⟩
  rotate_left
  · refine DoesD.does (σ' := t1) (r := .slice none 0 0) k01.1 ?_ (hq2 hno t1 k01)
    refine d31 ?_
    unfold p31
    rw [box_agg, nop_some, ← hs1, box_agg, nop_some, ← hs2]
    simp -implicitDefEqProofs (maxSteps := 2000000) (disch := first|assumption|omega|rfl|(simp only[RD];done)|(simp only[RD];omega)) only [RN,Int.reduceBEq,Int.reduceBNe,Int.reduceLT,Int.reduceLE,Int.reduceAdd,Int.reduceSub,Int.reduceMul,Nat.reduceAdd,↓bc_flatz,↓bc_flat16,↓agg_bytez, c1', c2, g2']
    refine ⟨_, _, sim1, ?_⟩
    simp -implicitDefEqProofs (maxSteps := 2000000) (disch := first|assumption|omega|rfl|(simp only[RD];done)|(simp only[RD];omega)) only [RN,Int.reduceBEq,Int.reduceBNe,Int.reduceLT,Int.reduceLE,Int.reduceAdd,Int.reduceSub,Int.reduceMul,Nat.reduceAdd,↓bc_flatz,↓bc_flat16,↓agg_bytez]
    exact ⟨by trivial, by trivial, fun i o h => h⟩
  subst hnm
  have hq9 := hq1 ho1 ho2 rfl
  obtain ⟨r2, t2, sim2, m1, rfl, kt2, hm1, M1⟩ := pheld_ (n := n) (Q := fun r st => ∃ a, r = .map (some a) ∧ Keeps t1 st ∧ t1.next ≤ a ∧ MapAt st a fun x => (ldF (fun _ => none) L x).map bv) (hv.keeps fun i o h => k01.get h) hl hcap fun st r k h1 h2 => ⟨r, rfl, k, h1, h2⟩
  have k02 := k01.trans kt2
  obtain ⟨r3, t3, sim3, m2, rfl, kt3, hm2, M2⟩ := pheld_ (n := n) (Q := fun r st => ∃ a, r = .map (some a) ∧ Keeps t2 st ∧ t2.next ≤ a ∧ MapAt st a fun x => (ldF (fun _ => none) A x).map bv) (hu.keeps fun i o h => k02.get h) hla hcapa fun st r k h1 h2 => ⟨r, rfl, k, h1, h2⟩
  have k03 := k02.trans kt3
  have hm1l := M1.lt
  have hm2l := M2.lt
  have M1 := M1.same (kt3.2 _ hm1l)
  obtain ⟨l1, ck1, e1, hck1, hf⟩ := M1
  obtain ⟨l2, ck2, e2, hck2, hg⟩ := M2
  obtain ⟨f, hfd⟩ : ∃ f, f = ldF (fun _ => none) L := ⟨_, rfl⟩
  obtain ⟨g, hgd⟩ : ∃ g, g = ldF (fun _ => none) A := ⟨_, rfl⟩
  have hf : ∀ x, eget l1 x = (f x).map bv := fun x => by rw [hfd]; exact hf x
  have hg : ∀ x, eget l2 x = (g x).map bv := fun x => by rw [hgd]; exact hg x
  have hfl : ∀ x b, f x = some b → b.length = 1024 := fun x b h => ldF_len hl x b (by rw [← hfd]; exact h)
  have hgl : ∀ x b, g x = some b → b.length = 1024 := fun x b h => ldF_len hla x b (by rw [← hgd]; exact h)
  have hfr : ∀ x b, f x = some b → 0 ≤ x ∧ x < n ∧ b ≠ zb := fun x b h => (load_W ho1).held x b (by rw [hfd] at h; exact h)
  have hgr : ∀ x b, g x = some b → 0 ≤ x ∧ x < n ∧ b ≠ zb := fun x b h => (load_W ho2).held x b (by rw [hgd] at h; exact h)
  have hfz : ∀ x, f x ≠ some zb := fun x h => (hfr x zb h).2.2 rfl
  rw [← hfd, ← hgd] at hq9
  have fw1 := few_ents hck1.1 hf ho1.2.1 fun x b h => ⟨(hfr x b h).1, (hfr x b h).2.1⟩
  have fw2 := few_ents hck2.1 hg ho1.2.1 fun x b h => ⟨(hgr x b h).1, (hgr x b h).2.1⟩
  have q1 := ch1_le (g := g) l1
  have q2 := ch2_le (f := f) l2
  obtain ⟨X, hX⟩ : ∃ X, X = ch1 g l1 ++ ch2 f l2 := ⟨_, rfl⟩
  have hXl : X.length = (ch1 g l1).length + (ch2 f l2).length := by rw [hX, List.length_append]
  have hnx := k03.1
  have hN : σ.next ≤ t3.next + 2 + l1.length + l2.length + 2 * X.length := by omega
  have hD : DoesD Tryz.prog 31 [.agg ⟨[.int .i64 n, v]⟩, .agg ⟨[.int .i64 n, u]⟩] σ fun r st => st.next = t3.next + 2 + l1.length + l2.length + 2 * X.length ∧ SlG st 1 r X.length (iC (srtI X)) ∧ (∀ i ∈ idsV r, σ.next ≤ i) ∧ ∀ j, j < σ.next → st.get j = σ.get j := by
    refine d31 ?_
    unfold p31
    rw [box_agg, nop_some, ← hs1, box_agg, nop_some, ← hs2]
    simp -implicitDefEqProofs (maxSteps := 2000000) (disch := first|assumption|omega|rfl|(simp only[RD];done)|(simp only[RD];omega)) only [RN,Int.reduceBEq,Int.reduceBNe,Int.reduceLT,Int.reduceLE,Int.reduceAdd,Int.reduceSub,Int.reduceMul,Nat.reduceAdd,↓bc_flatz,↓bc_flat16,↓agg_bytez, c1', c2, g2']
    refine ⟨_, _, sim1, ?_⟩
    simp -implicitDefEqProofs (maxSteps := 2000000) (disch := first|assumption|omega|rfl|(simp only[RD];done)|(simp only[RD];omega)) only [RN,Int.reduceBEq,Int.reduceBNe,Int.reduceLT,Int.reduceLE,Int.reduceAdd,Int.reduceSub,Int.reduceMul,Nat.reduceAdd,↓bc_flatz,↓bc_flat16,↓agg_bytez, d1, g2']
    refine ⟨_, _, sim2, ?_⟩
    have d2' := kt2.get d2
    simp -implicitDefEqProofs (maxSteps := 2000000) (disch := first|assumption|omega|rfl|(simp only[RD];done)|(simp only[RD];omega)) only [RN,Int.reduceBEq,Int.reduceBNe,Int.reduceLT,Int.reduceLE,Int.reduceAdd,Int.reduceSub,Int.reduceMul,Nat.reduceAdd,↓bc_flatz,↓bc_flat16,↓agg_bytez, d2, d2', g2']
    refine ⟨_, _, sim3, ?_⟩
    have R0 := (range_map e1 hck1).2
    have e0 := (range_map e1 hck1).1
    have x0 : ∀ a b c, extractV (.tuple #[a, b, c]) 0 = some a := fun _ _ _ => rfl
    have y0 : ∀ a b, extractV (.tuple #[a, b]) 0 = some a := fun _ _ => rfl
    have y1 : ∀ a b, extractV (.tuple #[a, b]) 1 = some b := fun _ _ => rfl
    simp -implicitDefEqProofs (maxSteps := 2000000) (disch := first|assumption|omega|rfl|(simp only[RD];done)|(simp only[RD];omega)) only [RN,Int.reduceBEq,Int.reduceBNe,Int.reduceLT,Int.reduceLE,Int.reduceAdd,Int.reduceSub,Int.reduceMul,Nat.reduceAdd,↓bc_flatz,↓bc_flat16,↓agg_bytez, p31_3, e0]
    refine lop1 (fun k y st => ∃ done, Rng st t3.next m1 l1 ck1 done ∧ k + done.length = l1.length ∧ st.next = t3.next + 1 + done.length + 2 * (ch1 g done).length ∧ SlG st 1 y (ch1 g done).length (iC (ch1 g done)) ∧ (∀ j ∈ idsV y, t3.next + 1 ≤ j) ∧ ∀ j, j < t3.next → st.get j = t3.get j) l1.length ?_ ?_
    · exact ⟨[], R0, by simp, by rw [Store.next_push]; rfl, SlG.nil, fun j hj => by simp [idsV] at hj, fun j hj => by rw [get_push_ne (by omega)]⟩
    rintro k y st next ⟨done, R, hk, hn, hS, hyi, hgs⟩ hnx1
    have hdl := R.len
    have hcl := ch1_le (g := g) done
    refine R.next_ (fun hperm => ?_) fun p st1 hp hpd R1 hn1 hg1 => ?_
    · -- the first map is gone through
      have hlen : done.length = l1.length := hperm.length_eq
      have hc1 : (ch1 g done).Perm (ch1 g l1) := (hperm.filter _).map _
      have hcl1 := hc1.length_eq
      have e2' : st.get m2 = some (.map (ents l2) ck2) := by rw [hgs m2 hm2l, e2]
      have R02 := (range_map e2' hck2).2
      have e02 := (range_map e2' hck2).1
      simp -implicitDefEqProofs (maxSteps := 2000000) (disch := first|assumption|omega|rfl|(simp only[RD];done)|(simp only[RD];omega)) only [RN,Int.reduceBEq,Int.reduceBNe,Int.reduceLT,Int.reduceLE,Int.reduceAdd,Int.reduceSub,Int.reduceMul,Nat.reduceAdd,↓bc_flatz,↓bc_flat16,↓agg_bytez, e02]
      refine lop1 (fun k2 y2 st2 => ∃ done2, Rng st2 st.next m2 l2 ck2 done2 ∧ k2 + done2.length = l2.length ∧ st2.next = st.next + 1 + done2.length + 2 * (ch2 f done2).length ∧ SlG st2 1 y2 (ch1 g done ++ ch2 f done2).length (iC (ch1 g done ++ ch2 f done2)) ∧ (∀ j ∈ idsV y2, t3.next + 1 ≤ j ∧ j ≠ st.next) ∧ ∀ j, j < t3.next → st2.get j = t3.get j) l2.length ?_ ?_
      · refine ⟨[], R02, by simp, by rw [Store.next_push]; rfl, ?_, fun j hj => ⟨hyi j hj, by have := hS.lt j hj; omega⟩, fun j hj => by rw [get_push_ne (by omega), hgs j hj]⟩
        have : ch1 g done ++ ch2 f [] = ch1 g done := by simp [ch2]
        rw [this]
        exact hS.same fun j hj => by rw [get_push_ne (by have := hS.lt j hj; omega)]
      rintro k2 y2 st2 next2 ⟨done2, R2, hk2, hn2, hS2, hyi2, hgs2⟩ hnx2
      have hdl2 := R2.len
      have hcl2 := ch2_le (f := f) done2
      refine R2.next_ (fun hperm2 => ?_) fun p st3 hp hpd R3 hn3 hg3 => ?_
      · have hlen2 : done2.length = l2.length := hperm2.length_eq
        have hc2 : (ch2 f done2).Perm (ch2 f l2) := (hperm2.filter _).map _
        have hcl2' := hc2.length_eq
        have hXp : (ch1 g done ++ ch2 f done2).Perm X := by rw [hX]; exact hc1.append hc2
        have hXe := srtI_eq hXp
        have hXn := hXp.length_eq
        have old : ∀ (st' : Store), (∀ j, j < σ.next → st'.get j = st2.get j) → ∀ j, j < σ.next → st'.get j = σ.get j := fun st' h j hj => by
          rw [h j hj, hgs2 j (by omega), k03.2 j hj]
        simp -implicitDefEqProofs (maxSteps := 2000000) (disch := first|assumption|omega|rfl|(simp only[RD];done)|(simp only[RD];omega)) only [RN,Int.reduceBEq,Int.reduceBNe,Int.reduceLT,Int.reduceLE,Int.reduceAdd,Int.reduceSub,Int.reduceMul,Nat.reduceAdd,↓bc_flatz,↓bc_flat16,↓agg_bytez]
        rcases hS2.2 with ⟨hz, h0⟩ | ⟨i, h0, h2, h3⟩
        · subst h0
          refine sort_none ?_
          refine ⟨by rw [hn2, hn]; omega, ?_, fun j hj => by simp [idsV] at hj, old st2 fun _ _ => rfl⟩
          have : X = [] := List.eq_nil_of_length_eq_zero (by omega)
          have e : srtI [] = [] := List.eq_nil_of_length_eq_zero ((srtI_perm []).length_eq)
          rw [this, e]
          exact SlG.nil
        · subst h0
          have hii := hyi2 i (by simp [idsV])
          refine sort_ints h2 rfl (by omega) fun st' f1 f2 f3 => ?_
          refine ⟨by rw [f1, hn2, hn]; omega, ?_, fun j hj => by have : j = i := (by simpa [idsV] using hj); omega, old st' fun j hj => f3 j (by omega)⟩
          rw [hXe] at f2
          rw [hXn]
          refine ⟨by simp [iC, (srtI_perm X).length_eq], .inr ⟨i, rfl, f2, by omega⟩⟩
      · obtain ⟨hgv, hpv⟩ := ents_val hck2.1 hg hp
        have hbl := hgl _ _ hgv
        have hent := R3.entry_
        obtain ⟨b, hb⟩ : ∃ b, b = ofB p.2.1 := ⟨_, rfl⟩
        rw [← hb] at hgv hpv hbl
        rw [hpv] at hent ⊢
        unfold bv at hent
        have M3 : MapAt st3 m1 fun x => (f x).map bv := ⟨l1, ck1, by rw [hg3 m1 (by omega), hgs2 m1 (by omega), e1], hck1, hf⟩
        have hlk := M3.look (.agg ⟨bc zb⟩) p.1
        have hdone : done2.length + 1 ≤ l2.length := by have := R3.len; simpa using this
        have hl1 : (done2 ++ [p]).length = done2.length + 1 := by simp
        have hsn := ch2_snoc (f := f) done2 p
        cases hfp : f p.1 with
        | none =>
          rw [hfp] at hlk
          have hlk : lookupH (.int .i64) (.agg ⟨bc zb⟩) (.map (some m1)) (.int .i64 p.1) true st3.get = some (.tuple #[.agg ⟨bc zb⟩, .bool false]) := hlk
          rw [if_pos hfp] at hsn
          obtain ⟨s5, hs5⟩ : ∃ s5, s5 = st3.push (.cells (bc zb) none) := ⟨_, rfl⟩
          have k5 : Keeps st3 s5 := by rw [hs5]; exact (Keeps.refl _).push _
          have n5 : s5.next = st3.next + 1 := by rw [hs5, Store.next_push]
          obtain ⟨s6, hs6⟩ : ∃ s6, s6 = s5.push (.cells [.int .i64 p.1] none) := ⟨_, rfl⟩
          have k6 : Keeps s5 s6 := by rw [hs6]; exact (Keeps.refl _).push _
          have n6 : s6.next = st3.next + 2 := by rw [hs6, Store.next_push, n5]
          have hS6 : SlG s6 1 y2 (ch1 g done ++ ch2 f done2).length (iC (ch1 g done ++ ch2 f done2)) := hS2.same fun j hj => by
            have := hS2.lt j hj
            have := hyi2 j hj
            rw [k6.2 j (by omega), k5.2 j (by omega), hg3 j this.2]
          have hz := zb_len
          have hap : (ch1 g done ++ ch2 f done2).length = (ch1 g done).length + (ch2 f done2).length := List.length_append
          obtain ⟨s7, a1, a2, a3, a4⟩ := SlG.app (σ := s6) (sz := 1) (j := s5.next) (k := 1) (gj := none) (by_ := 8) hS6 (by rw [hs6]; exact Store.get_push_same _ _) rfl (by rw [List.length_append]; omega) (by omega) (by decide)
          simp -implicitDefEqProofs (maxSteps := 2000000) (disch := first|assumption|omega|rfl|(simp only[RD];done)|(simp only[RD];omega)) only [RN,Int.reduceBEq,Int.reduceBNe,Int.reduceLT,Int.reduceLE,Int.reduceAdd,Int.reduceSub,Int.reduceMul,Nat.reduceAdd,↓bc_flatz,↓bc_flat16,↓agg_bytez, p31_2, x0, hent, y0, y1, hlk, hz]
          rw [← hs5, ← n5, ← hs6, a1, eop_some]
          refine hnx2 _ _ (by omega) ⟨done2 ++ [p], ?_, by rw [hl1]; omega, ?_, ?_, fun j hj => ?_, fun j hj => ?_⟩
          · refine R3.same ?_ ?_
            · rw [a4 _ (by omega) (fun h => (hyi2 _ h).2 rfl), k6.2 _ (by omega), k5.2 _ (by omega)]
            · rw [a4 _ (by omega) (fun h => by have := hyi2 _ h; omega), k6.2 _ (by omega), k5.2 _ (by omega)]
          · rw [a3, hsn, hl1, List.length_append, List.length_singleton]; omega
          · have hx : (ch1 g done ++ ch2 f (done2 ++ [p])).length = (ch1 g done ++ ch2 f done2).length + 1 := by rw [hsn]; simp; omega
            rw [hx, hsn, ← List.append_assoc]
            have : iC ((ch1 g done ++ ch2 f done2) ++ [p.1]) = iC (ch1 g done ++ ch2 f done2) ++ [.int .i64 p.1] := by simp [iC]
            rw [this]; exact a2
          · have : j = s6.next := by simpa [idsV] using hj
            omega
          · rw [a4 j (by omega) (fun h => by have := hyi2 _ h; omega), k6.2 j (by omega), k5.2 j (by omega), hg3 j (by omega), hgs2 j hj]
        | some c =>
          rw [hfp] at hlk
          have hlk : lookupH (.int .i64) (.agg ⟨bc zb⟩) (.map (some m1)) (.int .i64 p.1) true st3.get = some (.tuple #[.agg ⟨bc c⟩, .bool true]) := hlk
          rw [if_neg (by rw [hfp]; exact fun h => by cases h), List.append_nil] at hsn
          have hcl := hfl _ _ hfp
          obtain ⟨s5, hs5⟩ : ∃ s5, s5 = st3.push (.cells (bc c) none) := ⟨_, rfl⟩
          have k5 : Keeps st3 s5 := by rw [hs5]; exact (Keeps.refl _).push _
          have n5 : s5.next = st3.next + 1 := by rw [hs5, Store.next_push]
          simp -implicitDefEqProofs (maxSteps := 2000000) (disch := first|assumption|omega|rfl|(simp only[RD];done)|(simp only[RD];omega)) only [RN,Int.reduceBEq,Int.reduceBNe,Int.reduceLT,Int.reduceLE,Int.reduceAdd,Int.reduceSub,Int.reduceMul,Nat.reduceAdd,↓bc_flatz,↓bc_flat16,↓agg_bytez, p31_2, x0, hent, y0, y1, hlk, hcl]
          rw [← hs5]
          refine hnx2 _ _ (by omega) ⟨done2 ++ [p], ?_, by rw [hl1]; omega, by rw [hsn, hl1]; omega, ?_, hyi2, fun j hj => ?_⟩
          · exact R3.same (by rw [k5.2 _ (by omega)]) (by rw [k5.2 _ (by omega)])
          · rw [hsn]
            refine hS2.same fun j hj => ?_
            have := hS2.lt j hj
            have := hyi2 j hj
            rw [k5.2 j (by omega), hg3 j this.2]
          · rw [k5.2 j (by omega), hg3 j (by omega), hgs2 j hj]
    · obtain ⟨hgv, hpv⟩ := ents_val hck1.1 hf hp
      have hbl := hfl _ _ hgv
      have hent := R1.entry_
      have hsn := ch1_snoc (g := g) done p
      obtain ⟨b, hb⟩ : ∃ b, b = ofB p.2.1 := ⟨_, rfl⟩
      rw [← hb] at hgv hpv hbl hsn
      rw [hpv] at hent ⊢
      unfold bv at hent
      have hdone : done.length + 1 ≤ l1.length := by have := R1.len; simpa using this
      have hl1 : (done ++ [p]).length = done.length + 1 := by simp
      obtain ⟨s5, hs5⟩ : ∃ s5, s5 = st1.push (.cells (bc b) none) := ⟨_, rfl⟩
      have k5 : Keeps st1 s5 := by rw [hs5]; exact (Keeps.refl _).push _
      have n5 : s5.next = st1.next + 1 := by rw [hs5, Store.next_push]
      have c5 : s5.get st1.next = some (.cells (bc b) none) := by rw [hs5]; exact Store.get_push_same _ _
      have M5 : MapAt s5 m2 fun x => (g x).map bv := ⟨l2, ck2, by rw [k5.2 _ (by omega), hg1 m2 (by omega), hgs m2 hm2l, e2], hck2, hg⟩
      have hlk := M5.look1 (.agg ⟨bc zb⟩) p.1
      have hgb : ((g p.1).map bv).getD (.agg ⟨bc zb⟩) = .agg ⟨bc ((g p.1).getD zb)⟩ := by cases g p.1 <;> rfl
      rw [hgb] at hlk
      have hgbl : ((g p.1).getD zb).length = 1024 := by
        cases hc : g p.1 with
        | none => exact zb_len
        | some c => exact hgl _ _ hc
      have ez := eqA_bc (n := 1024) true hgbl hbl
      have hS5 : SlG s5 1 y (ch1 g done).length (iC (ch1 g done)) := hS.same fun j hj => by
        have := hS.lt j hj
        have := hyi j hj
        rw [k5.2 j (by omega), hg1 j (by omega)]
      by_cases hz : (g p.1).getD zb = b
      · rw [decide_eq_true hz] at ez
        rw [if_pos hz, List.append_nil] at hsn
        simp -implicitDefEqProofs (maxSteps := 2000000) (disch := first|assumption|omega|rfl|(simp only[RD];done)|(simp only[RD];omega)) only [RN,Int.reduceBEq,Int.reduceBNe,Int.reduceLT,Int.reduceLE,Int.reduceAdd,Int.reduceSub,Int.reduceMul,Nat.reduceAdd,↓bc_flatz,↓bc_flat16,↓agg_bytez, p31_1, x0, hent, y0, y1, hbl]
        rw [← hs5]
        simp -implicitDefEqProofs (maxSteps := 2000000) (disch := first|assumption|omega|rfl|(simp only[RD];done)|(simp only[RD];omega)) only [RN,Int.reduceBEq,Int.reduceBNe,Int.reduceLT,Int.reduceLE,Int.reduceAdd,Int.reduceSub,Int.reduceMul,Nat.reduceAdd,↓bc_flatz,↓bc_flat16,↓agg_bytez, hlk, c5, hbl, ez]
        refine hnx1 _ _ (by omega) ⟨done ++ [p], ?_, by rw [hl1]; omega, by rw [hsn, hl1]; omega, by rw [hsn]; exact hS5, hyi, fun j hj => ?_⟩
        · exact R1.same (by rw [k5.2 _ (by omega)]) (by rw [k5.2 _ (by omega)])
        · rw [k5.2 j (by omega), hg1 j (by omega), hgs j hj]
      · rw [decide_eq_false hz] at ez
        rw [if_neg hz] at hsn
        obtain ⟨s6, hs6⟩ : ∃ s6, s6 = s5.push (.cells [.int .i64 p.1] none) := ⟨_, rfl⟩
        have k6 : Keeps s5 s6 := by rw [hs6]; exact (Keeps.refl _).push _
        have n6 : s6.next = st1.next + 2 := by rw [hs6, Store.next_push, n5]
        have hS6 := hS5.same fun j hj => k6.2 j (hS5.lt j hj)
        obtain ⟨s7, a1, a2, a3, a4⟩ := SlG.app (σ := s6) (sz := 1) (j := s5.next) (k := 1) (gj := none) (by_ := 8) hS6 (by rw [hs6]; exact Store.get_push_same _ _) rfl (by omega) (by omega) (by decide)
        simp -implicitDefEqProofs (maxSteps := 2000000) (disch := first|assumption|omega|rfl|(simp only[RD];done)|(simp only[RD];omega)) only [RN,Int.reduceBEq,Int.reduceBNe,Int.reduceLT,Int.reduceLE,Int.reduceAdd,Int.reduceSub,Int.reduceMul,Nat.reduceAdd,↓bc_flatz,↓bc_flat16,↓agg_bytez, p31_1, x0, hent, y0, y1, hbl]
        rw [← hs5]
        simp -implicitDefEqProofs (maxSteps := 2000000) (disch := first|assumption|omega|rfl|(simp only[RD];done)|(simp only[RD];omega)) only [RN,Int.reduceBEq,Int.reduceBNe,Int.reduceLT,Int.reduceLE,Int.reduceAdd,Int.reduceSub,Int.reduceMul,Nat.reduceAdd,↓bc_flatz,↓bc_flat16,↓agg_bytez, hlk, c5, hbl, ez]
        rw [← hs6, a1, eop_some]
        refine hnx1 _ _ (by omega) ⟨done ++ [p], ?_, by rw [hl1]; omega, ?_, ?_, fun j hj => ?_, fun j hj => ?_⟩
        · refine R1.same ?_ ?_
          · rw [a4 _ (by omega) (fun h => by have := hyi _ h; omega), k6.2 _ (by omega), k5.2 _ (by omega)]
          · rw [a4 _ (by omega) (fun h => by have := hyi _ h; omega), k6.2 _ (by omega), k5.2 _ (by omega)]
        · rw [a3, hsn, hl1, List.length_append, List.length_singleton]; omega
        · rw [hsn, List.length_append, List.length_singleton]
          have : iC (ch1 g done ++ [p.1]) = iC (ch1 g done) ++ [.int .i64 p.1] := by simp [iC]
          rw [this]; exact a2
        · have : j = s6.next := by simpa [idsV] using hj
          omega
        · rw [a4 j (by omega) (fun h => by have := hyi _ h; omega), k6.2 j (by omega), k5.2 j (by omega), hg1 j (by omega), hgs j hj]
  have hmem : ∀ x, x ∈ srtI X ↔ f x ≠ g x := fun x => by rw [(srtI_perm X).mem_iff, hX]; exact chg_mem hck1.1 hck2.1 hf hg hfz x
  have hasc : (srtI X).Pairwise (· < ·) := by
    have h1 := srtI_sorted X
    have h2 : (srtI X).Nodup := (srtI_perm X).nodup_iff.2 (by rw [hX]; exact chg_nodup hck1.1 hck2.1 hf)
    exact (h1.and h2).imp fun ⟨a, b⟩ => by omega
  have hsl := (srtI_perm X).length_eq
  by_cases h0 : X = []
  · refine DoesD.does (σ' := stS σ _ hN) (r := .slice none 0 0) hN (DoesD.mono_ hD ?_) ?_
    · rintro r st ⟨h1, h2, h3, h4⟩
      refine ⟨?_, h1, fun i o hi => ?_⟩
      · rcases h2.2 with ⟨_, e⟩ | ⟨i, _, _, e⟩
        · exact e
        · rw [h0] at e; simp at e
      · have hi : (if i < σ.next then σ.get i else none) = some o := hi
        split at hi
        · rename_i hlt; rw [h4 i hlt, hi]
        · cases hi
    · refine hq9 _ _ _ hasc hmem ⟨hN, fun j hj => if_pos hj⟩ ?_ fun i hi => by simp [idsV] at hi
      have e : ∀ (st : Store) (M : List Int), M = [] → SlG st 1 (.slice none 0 0) M.length (iC M) := by rintro st M rfl; exact SlG.nil
      exact e _ _ (List.eq_nil_of_length_eq_zero (by rw [hsl, h0]; rfl))
  · have hpos : 0 < X.length := List.length_pos_iff.2 h0
    refine DoesD.ren (c := iC (srtI X)) (g := some 1) (F := fun a => .slice (some ⟨a, 0, some 1⟩) X.length X.length) hN (DoesD.mono_ hD ?_) (fun a M M' v h1 _ h3 => vr_sl h1 h3) ?_
    · rintro r st ⟨h1, h2, h3, h4⟩
      rcases h2.2 with ⟨e, _⟩ | ⟨i, rfl, h6, _⟩
      · omega
      · exact ⟨i, rfl, h3 i (by simp [idsV]), h1, h6, fun j o hj => by rw [h4 j (Store.lt_of_get hj), hj]⟩
    · refine hq9 _ _ _ hasc hmem ⟨by show σ.next ≤ _ + 1; omega, fun j hj => ?_⟩ ?_ fun i hi => by have : i = t3.next + 2 + l1.length + l2.length + 2 * X.length := (by simpa [idsV] using hi); omega
      · show (if j = _ then _ else if j < σ.next then σ.get j else none) = _
        rw [if_neg (by omega), if_pos hj]
      · rw [hsl]
        exact ⟨by simp [iC, hsl], .inr ⟨_, rfl, if_pos rfl, hpos⟩⟩
end Go.Proofs.YthojojlgmaoecaaGreat
