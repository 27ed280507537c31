/- Contract of past.image. -/
import Derived.Test.YthojojlgmaoecaaGreatSo1
import Derived.Test.YthojojlgmaoecaaGreatPst1
import Derived.Test.YthojojlgmaoecaaGreatRng
import Derived.Test.YthojojlgmaoecaaGreatRen
set_option linter.all false
set_option maxRecDepth 100000
set_option maxHeartbeats 800000
namespace Go.Proofs.YthojojlgmaoecaaGreat
open Go.Am Go.Sort
variable {σ σ' : Store} {n : Int} {Q : Value → Store → Prop} {g : Int → Option (List Int)}
/-- What is not blank. -/
def nbF (g : Int → Option (List Int)) (x : Int) : Option (List Int) := match g x with | some b => if b = zb then none else some b | none => none
def ofM (l : Ents) : List HB := l.map fun p => (p.1, ofB p.2.1)
def ofN (l : Ents) : List HB := (ofM l).filter fun p => decide (p.2 ≠ zb)
theorem ofN_snoc (l : Ents) (p : Int × Value × Nat) : ofN (l ++ [p]) = ofN l ++ if ofB p.2.1 = zb then [] else [(p.1, ofB p.2.1)] := by
  unfold ofN ofM
  rw [List.map_append, List.filter_append, List.map_cons, List.map_nil, List.filter_cons]
  by_cases h : ofB p.2.1 = zb
  · rw [if_neg (by simp [h]), if_pos h]; rfl
  · rw [if_pos (by simp [h]), if_neg h]; rfl
theorem ofN_len (l : Ents) : (ofN l).length ≤ l.length := by
  unfold ofN ofM
  exact Nat.le_trans (List.length_filter_le _ _) (by simp)
/-- The entries that are not blank, in whatever order, sorted. -/
theorem srt_nb {l done : Ents} (hk : (keysE l).Nodup) (hf : ∀ x, eget l x = (g x).map bv) (hb : ∀ x b, g x = some b → 0 ≤ x ∧ x < 1099511627776) (hp : done.Perm l) : HeldL (nbF g) (srt (ltOf fun x y : HB => kP x - kP y) (ofN done)) := by
  have hperm := srt_perm swo_P (ofN done)
  have hm0 : ∀ p : HB, p ∈ ofM done ↔ g p.1 = some p.2 := fun p => by
    unfold ofM
    constructor
    · intro hp'
      obtain ⟨q, hq, rfl⟩ := List.mem_map.1 hp'
      have h1 := eget_mem hk q (hp.mem_iff.1 hq)
      rw [hf] at h1
      cases hfq : g q.1 with
      | none => rw [hfq] at h1; cases h1
      | some b =>
        rw [hfq] at h1
        have : bv b = q.2.1 := by simpa using h1
        show _ = some (ofB q.2.1)
        rw [← this, ofB_bv]
    · intro h
      have h1 : eget l p.1 = some (bv p.2) := by rw [hf, h]; rfl
      obtain ⟨q, hq, e1, e2⟩ := mem_eget h1
      exact List.mem_map.2 ⟨q, hp.mem_iff.2 hq, by rw [e1, e2, ofB_bv]⟩
  have hm : ∀ p : HB, p ∈ ofN done ↔ nbF g p.1 = some p.2 := fun p => by
    unfold ofN
    rw [List.mem_filter, hm0]
    unfold nbF
    constructor
    · rintro ⟨h1, h2⟩
      rw [h1]
      exact if_neg (of_decide_eq_true h2)
    · intro h
      cases hfq : g p.1 with
      | none => rw [hfq] at h; cases h
      | some b =>
        rw [hfq] at h
        have h : (if b = zb then none else some b) = some p.2 := h
        by_cases e : b = zb
        · rw [if_pos e] at h; cases h
        · rw [if_neg e] at h
          have e2 := Option.some.inj h
          exact ⟨by rw [e2], decide_eq_true (by rw [← e2]; exact e)⟩
  have hrg : ∀ p ∈ ofN done, 0 ≤ p.1 ∧ p.1 < 1099511627776 := fun p hp' => hb p.1 p.2 ((hm0 p).1 (List.mem_filter.1 hp').1)
  refine ⟨?_, fun p => hperm.mem_iff.trans (hm p)⟩
  have hkeys : ((ofN done).map (·.1)).Nodup := by
    have h1 : ((ofM done).map (·.1)).Nodup := by
      unfold ofM
      rw [List.map_map]
      have : (done.map ((fun x : HB => x.1) ∘ fun p => (p.1, ofB p.2.1))) = keysE done := rfl
      rw [this]
      exact (hp.map _).nodup_iff.2 hk
    exact h1.sublist (List.Sublist.map _ (List.filter_sublist ..))
  have hk2 : ((srt (ltOf fun x y : HB => kP x - kP y) (ofN done)).map (·.1)).Nodup := (hperm.map _).nodup_iff.2 hkeys
  have hs := srt_sorted swo_P (ofN done)
  unfold List.Nodup at hk2
  rw [List.pairwise_map] at hk2
  refine List.Pairwise.imp_of_mem ?_ (hs.and hk2)
  rintro x y hx hy ⟨h1, h2⟩
  have rx := hrg x (hperm.mem_iff.1 hx)
  have ry := hrg y (hperm.mem_iff.1 hy)
  have h3 : ¬ (kP y - kP x < 0) := of_decide_eq_false h1
  unfold kP at h3
  rw [Int.emod_eq_of_lt rx.1 rx.2, Int.emod_eq_of_lt ry.1 ry.2] at h3
  omega
theorem vr_list {M M' : Places} {a N k : Nat} {v : Value} (h : VR M false (.agg ⟨[.int .i64 n, .slice (some ⟨a, 0, some 1025⟩) k k]⟩) v) (hle : M.le M') (hN : M' N = M a) : VR M' false (.agg ⟨[.int .i64 n, .slice (some ⟨N, 0, some 1025⟩) k k]⟩) v := by
  obtain ⟨ys, rfl, hs, h⟩ := h.agg_
  refine .agg _ _ hs fun i u u' hu hu' => ?_
  match i, hu with
  | 0, hu => exact (h 0 u u' hu hu').mono hle
  | 1, hu =>
    have e : u = .slice (some ⟨N, 0, some 1025⟩) k k := by
      have : some (Value.slice (some ⟨N, 0, some 1025⟩) k k) = some u := hu
      exact (Option.some.inj this).symm
    subst e
    have h1 := h 1 (.slice (some ⟨a, 0, some 1025⟩) k k) u' rfl hu'
    obtain ⟨l, c', q1, rfl, q2, q3⟩ := h1.slice_
    rcases q3 with ⟨q3, _⟩ | ⟨sz, room, q3, q4, q5⟩
    · cases q3
    · cases q3
      obtain ⟨b, base, gr⟩ := l
      have q4 : gr = some (1025, room) := q4
      subst q4
      exact .grown N 0 k k c' 1025 room b base (by rw [hN, q1]) q2 q5
  | i + 2, hu => cases hu
theorem DoesD.mono_ {P : Program} {f : FuncId} {args : List Value} {R S : Value → Store → Prop} (h : DoesD P f args σ R) (hRS : ∀ r s, R r s → S r s) : DoesD P f args σ S :=
  fun M w cargs hr ha => Calls.mono (h M w cargs hr ha) fun e w' ⟨r, s, M', v, h1, h2⟩ => ⟨r, s, M', v, hRS _ _ h1, h2⟩
theorem image_D {m ck : Nat} {l : Ents} (hg : σ.get m = some (.map (ents l) ck)) (hck : Clk l ck) (hf : ∀ x, eget l x = (g x).map bv) (hb : ∀ x b, g x = some b → 0 ≤ x ∧ x < 1099511627776) (hl : ∀ x b, g x = some b → b.length = 1024) (hsz : l.length < 2 ^ 30) :
    DoesD Tryz.prog 29 [.int .i64 n, .map (some m)] σ fun r st => ∃ L v, HeldL (nbF g) L ∧ r = .agg ⟨[.int .i64 n, v]⟩ ∧ st.next = σ.next + 3 + l.length + 2 * L.length ∧ SlG st 1025 v L.length (waitC L) ∧ (∀ i ∈ idsV v, σ.next ≤ i) ∧ ∀ j, j < σ.next → st.get j = σ.get j := by
  refine d29 ?_
  have u2 : unrle [(1, Value.int .i64 0), (1, .slice none 0 0)] = [.int .i64 0, .slice none 0 0] := rfl
  have g2 : ([.int .i64 n, .slice none 0 0] : List Value).length = 2 := rfl
  have g2' : ∀ v : Value, ([.int .i64 n, v] : List Value).length = 2 := fun _ => rfl
  have rg : ∀ st : Store, st.get m = some (.map (ents l) ck) → rangeH (.map (some m)) st = some (ptrTo st.next, st.push (.iter (some m) ck [] ck)) := fun st hs => (range_map hs hck).1
  simp -implicitDefEqProofs (maxSteps := 2000000) (disch := first|assumption|omega|rfl|(simp only[RD];done)|(simp only[RD];omega)) only [RN,Int.reduceBEq,Int.reduceBNe,Int.reduceLT,Int.reduceLE,Int.reduceAdd,Int.reduceSub,Int.reduceMul,Nat.reduceAdd,↓bc_flatz,↓bc_flat16,↓agg_bytez, p29, u2, g2]
  obtain ⟨s2, hs2⟩ : ∃ s2, s2 = (σ.push (.cells [.int .i64 0, .slice none 0 0] none)).push (.cells [.int .i64 n, .slice none 0 0] none) := ⟨_, rfl⟩
  rw [← hs2]
  have k2 : Keeps σ s2 := by rw [hs2]; exact ((Keeps.refl _).push _).push _
  have n2 : s2.next = σ.next + 2 := by rw [hs2]; simp only [Store.next_push]
  have c0 : s2.get σ.next = some (.cells [.int .i64 0, .slice none 0 0] none) := by rw [hs2]; simp -implicitDefEqProofs (maxSteps := 2000000) (disch := first|assumption|omega|rfl|(simp only[RD];done)|(simp only[RD];omega)) only [RN,Int.reduceBEq,Int.reduceBNe,Int.reduceLT,Int.reduceLE,Int.reduceAdd,Int.reduceSub,Int.reduceMul,Nat.reduceAdd,↓bc_flatz,↓bc_flat16,↓agg_bytez]
  have c1 : s2.get (σ.next + 1) = some (.cells [.int .i64 n, .slice none 0 0] none) := by rw [hs2]; simp -implicitDefEqProofs (maxSteps := 2000000) (disch := first|assumption|omega|rfl|(simp only[RD];done)|(simp only[RD];omega)) only [RN,Int.reduceBEq,Int.reduceBNe,Int.reduceLT,Int.reduceLE,Int.reduceAdd,Int.reduceSub,Int.reduceMul,Nat.reduceAdd,↓bc_flatz,↓bc_flat16,↓agg_bytez]
  have m2 := k2.get hg
  have R0 := (range_map m2 hck).2
  have e0 := rg s2 m2
  simp -implicitDefEqProofs (maxSteps := 2000000) (disch := first|assumption|omega|rfl|(simp only[RD];done)|(simp only[RD];omega)) only [RN,Int.reduceBEq,Int.reduceBNe,Int.reduceLT,Int.reduceLE,Int.reduceAdd,Int.reduceSub,Int.reduceMul,Nat.reduceAdd,↓bc_flatz,↓bc_flat16,↓agg_bytez, e0, n2]
  rw [n2] at R0
  refine lop0 (fun k st => ∃ done v, Rng st (σ.next + 2) m l ck done ∧ k + done.length = l.length ∧ st.next = σ.next + 3 + done.length + 2 * (ofN done).length ∧ st.get σ.next = some (.cells [.int .i64 0, .slice none 0 0] none) ∧ st.get (σ.next + 1) = some (.cells [.int .i64 n, v] none) ∧
      SlG st 1025 v (ofN done).length (flatL encH (ofN done)) ∧ (∀ j ∈ idsV v, σ.next + 3 ≤ j) ∧ ∀ j, j < σ.next → st.get j = σ.get j) l.length ?_ ?_
  · refine ⟨[], .slice none 0 0, R0, by simp, by rw [Store.next_push, n2]; simp [ofN, ofM], ?_, ?_, SlG.nil, fun j hj => by simp [idsV] at hj, fun j hj => ?_⟩
    · rw [get_push_ne (by omega), c0]
    · rw [get_push_ne (by omega), c1]
    · rw [get_push_ne (by omega), k2.2 j hj]
  rintro k st next ⟨done, v, R, hk, hn, b0, b1, hS, hvi, hgs⟩ hnx
  have hdl := R.len
  have hNl := ofN_len done
  refine R.next_ (fun hperm => ?_) fun p st1 hp hpd R1 hn1 hg1 => ?_
  · have hlen : done.length = l.length := hperm.length_eq
    have hu := srt_nb hck.1 hf hb hperm
    have hsl : (srt (ltOf fun x y : HB => kP x - kP y) (ofN done)).length = (ofN done).length := srt_len swo_P _
    have hrg : ∀ p ∈ ofN done, 0 ≤ p.1 ∧ p.1 < 1099511627776 := fun p hp' => by
      have h1 := (hu.mem p).1 ((srt_perm swo_P (ofN done)).mem_iff.2 hp')
      unfold nbF at h1
      cases hfq : g p.1 with
      | none => rw [hfq] at h1; cases h1
      | some b => exact hb _ _ hfq
    have hwl : ∀ p ∈ srt (ltOf fun x y : HB => kP x - kP y) (ofN done), p.2.length = 1024 := fun p hp => by
      have h1 := (hu.mem p).1 hp
      unfold nbF at h1
      cases hfq : g p.1 with
      | none => rw [hfq] at h1; cases h1
      | some b =>
        rw [hfq] at h1
        have h1 : (if b = zb then none else some b) = some p.2 := h1
        split at h1
        · cases h1
        · rw [← Option.some.inj h1]; exact hl _ _ hfq
    simp -implicitDefEqProofs (maxSteps := 2000000) (disch := first|assumption|omega|rfl|(simp only[RD];done)|(simp only[RD];omega)) only [RN,Int.reduceBEq,Int.reduceBNe,Int.reduceLT,Int.reduceLE,Int.reduceAdd,Int.reduceSub,Int.reduceMul,Nat.reduceAdd,↓bc_flatz,↓bc_flat16,↓agg_bytez, b1]
    rcases hS.2 with ⟨h1, h0⟩ | ⟨i, h1, h2, h3⟩
    · subst h0
      refine him_none ?_
      simp -implicitDefEqProofs (maxSteps := 2000000) (disch := first|assumption|omega|rfl|(simp only[RD];done)|(simp only[RD];omega)) only [RN,Int.reduceBEq,Int.reduceBNe,Int.reduceLT,Int.reduceLE,Int.reduceAdd,Int.reduceSub,Int.reduceMul,Nat.reduceAdd,↓bc_flatz,↓bc_flat16,↓agg_bytez, b1, g2', b0]
      refine ⟨srt (ltOf fun x y : HB => kP x - kP y) (ofN done), .slice none 0 0, hu, rfl, by rw [next_max, hn, hsl, hlen]; omega, ?_, fun j hj => by simp [idsV] at hj, fun j hj => by rw [get_put_ne' (by omega), hgs j hj]⟩
      have e : ofN done = [] := List.eq_nil_of_length_eq_zero h1
      rw [e]
      have e2 : srt (ltOf fun x y : HB => kP x - kP y) [] = [] := List.eq_nil_of_length_eq_zero (by rw [srt_len swo_P]; rfl)
      rw [e2]
      exact SlG.nil
    · subst h1
      have hii := hvi i (by simp [idsV])
      refine him_sort hrg h2 rfl (by omega) fun st' f1 f2 f3 => ?_
      have b0' := b0
      rw [← f3 σ.next (by omega)] at b0'
      have b1' := b1
      rw [← f3 (σ.next + 1) (by omega)] at b1'
      simp -implicitDefEqProofs (maxSteps := 2000000) (disch := first|assumption|omega|rfl|(simp only[RD];done)|(simp only[RD];omega)) only [RN,Int.reduceBEq,Int.reduceBNe,Int.reduceLT,Int.reduceLE,Int.reduceAdd,Int.reduceSub,Int.reduceMul,Nat.reduceAdd,↓bc_flatz,↓bc_flat16,↓agg_bytez, b1', g2', b0']
      refine ⟨srt (ltOf fun x y : HB => kP x - kP y) (ofN done), _, hu, rfl, by rw [next_max, f1, hn, hsl, hlen]; omega, ?_, fun j hj => by have : j = i := (by simpa [idsV] using hj); omega, fun j hj => by rw [get_put_ne' (by omega), f3 j (by omega), hgs j hj]⟩
      rw [hsl, ← flat_wait hwl]
      refine ⟨by rw [flatL_len encH_len, hsl], .inr ⟨i, rfl, ?_, h3⟩⟩
      rw [get_put_ne' (by omega), f2]
  · obtain ⟨b, hb1, hb2⟩ : ∃ b, p.2.1 = bv b ∧ g p.1 = some b := by
      have h1 := eget_mem hck.1 p hp
      rw [hf] at h1
      cases hc : g p.1 with
      | none => rw [hc] at h1; cases h1
      | some b => rw [hc] at h1; exact ⟨b, (by simpa using h1.symm), rfl⟩
    have hbl := hl _ _ hb2
    have hent := R1.entry_
    rw [hb1] at hent ⊢
    unfold bv at hent
    have b0' : st1.get σ.next = some (.cells [.int .i64 0, .slice none 0 0] none) := by rw [hg1 _ (by omega), b0]
    have b1' : st1.get (σ.next + 1) = some (.cells [.int .i64 n, v] none) := by rw [hg1 _ (by omega), b1]
    have x0 : ∀ a b c, extractV (.tuple #[a, b, c]) 0 = some a := fun _ _ _ => rfl
    have y0 : ∀ a b, extractV (.tuple #[a, b]) 0 = some a := fun _ _ => rfl
    have y1 : ∀ a b, extractV (.tuple #[a, b]) 1 = some b := fun _ _ => rfl
    have hdone : done.length + 1 ≤ l.length := by
      have := R1.len
      simpa using this
    have ez := eqA_bc (n := 1024) true hbl zb_len
    obtain ⟨s3, hs3⟩ : ∃ s3, s3 = st1.push (.cells (bc b) none) := ⟨_, rfl⟩
    have k3 : Keeps st1 s3 := by rw [hs3]; exact (Keeps.refl _).push _
    have c3 : s3.get st1.next = some (.cells (bc b) none) := by rw [hs3]; exact Store.get_push_same _ _
    have n3 : s3.next = st1.next + 1 := by rw [hs3, Store.next_push]
    have hl1 : (done ++ [p]).length = done.length + 1 := by simp
    have hsn := ofN_snoc done p
    rw [hb1, ofB_bv] at hsn
    by_cases hz : b = zb
    · rw [decide_eq_true hz] at ez
      rw [if_pos hz, List.append_nil] at hsn
      simp -implicitDefEqProofs (maxSteps := 2000000) (disch := first|assumption|omega|rfl|(simp only[RD];done)|(simp only[RD];omega)) only [RN,Int.reduceBEq,Int.reduceBNe,Int.reduceLT,Int.reduceLE,Int.reduceAdd,Int.reduceSub,Int.reduceMul,Nat.reduceAdd,↓bc_flatz,↓bc_flat16,↓agg_bytez, x0, hent, y0, y1, hbl]
      rw [← hs3]
      simp -implicitDefEqProofs (maxSteps := 2000000) (disch := first|assumption|omega|rfl|(simp only[RD];done)|(simp only[RD];omega)) only [RN,Int.reduceBEq,Int.reduceBNe,Int.reduceLT,Int.reduceLE,Int.reduceAdd,Int.reduceSub,Int.reduceMul,Nat.reduceAdd,↓bc_flatz,↓bc_flat16,↓agg_bytez, c3, hbl, ez]
      refine hnx _ (by omega) ⟨done ++ [p], v, ?_, by rw [hl1]; omega, by rw [hsn, hl1]; omega, ?_, ?_, ?_, hvi, fun j hj => ?_⟩
      · exact R1.same (by rw [k3.2 _ (by omega)]) (by rw [k3.2 _ (Store.lt_of_get R1.m)])
      · rw [k3.2 _ (by omega), b0']
      · rw [k3.2 _ (by omega), b1']
      · rw [hsn]
        refine hS.same fun i hi => ?_
        have := hS.lt i hi
        have := hvi i hi
        rw [k3.2 i (by omega), hg1 i (by omega)]
      · rw [k3.2 _ (by omega), hg1 _ (by omega), hgs j hj]
    · rw [decide_eq_false hz] at ez
      rw [if_neg hz] at hsn
      have b1'' : s3.get (σ.next + 1) = some (.cells [.int .i64 n, v] none) := by rw [k3.2 _ (by omega), b1']
      obtain ⟨s4, hs4⟩ : ∃ s4, s4 = s3.push (.cells (.int .i64 p.1 :: bc b) none) := ⟨_, rfl⟩
      have k4 : Keeps s3 s4 := by rw [hs4]; exact (Keeps.refl _).push _
      have n4 : s4.next = st1.next + 2 := by rw [hs4, Store.next_push, n3]
      have hS4 : SlG s4 1025 v (ofN done).length (flatL encH (ofN done)) := by
        refine hS.same fun i hi => ?_
        have := hS.lt i hi
        have := hvi i hi
        rw [k4.2 i (by omega), k3.2 i (by omega), hg1 i (by omega)]
      have he : encH (p.1, b) = .int .i64 p.1 :: bc b := by
        unfold encH
        rw [show ((p.1, b) : HB).2 = b from rfl, List.take_left' hbl]
      obtain ⟨s5, a1, a2, a3, a4⟩ := SlG.app (σ := s4) (sz := 1025) (j := s3.next) (k := 1) (gj := none) (by_ := 1032) hS4 (by rw [hs4]; exact Store.get_push_same _ _) (by simp [hbl]) (by omega) (by omega) (by decide)
      have e4 : st1.next + 1 = s3.next := by omega
      have f1 : s5.get (σ.next + 1) = some (.cells [.int .i64 n, v] none) := by
        rw [a4 _ (by omega) (fun hx => by have := hvi _ hx; omega), k4.2 _ (by omega), b1'']
      simp -implicitDefEqProofs (maxSteps := 2000000) (disch := first|assumption|omega|rfl|(simp only[RD];done)|(simp only[RD];omega)) only [RN,Int.reduceBEq,Int.reduceBNe,Int.reduceLT,Int.reduceLE,Int.reduceAdd,Int.reduceSub,Int.reduceMul,Nat.reduceAdd,↓bc_flatz,↓bc_flat16,↓agg_bytez, x0, hent, y0, y1, hbl]
      rw [← hs3]
      simp -implicitDefEqProofs (maxSteps := 2000000) (disch := first|assumption|omega|rfl|(simp only[RD];done)|(simp only[RD];omega)) only [RN,Int.reduceBEq,Int.reduceBNe,Int.reduceLT,Int.reduceLE,Int.reduceAdd,Int.reduceSub,Int.reduceMul,Nat.reduceAdd,↓bc_flatz,↓bc_flat16,↓agg_bytez, c3, hbl, ez, b1'']
      rw [← hs4, a1, eop_some]
      simp -implicitDefEqProofs (maxSteps := 2000000) (disch := first|assumption|omega|rfl|(simp only[RD];done)|(simp only[RD];omega)) only [RN,Int.reduceBEq,Int.reduceBNe,Int.reduceLT,Int.reduceLE,Int.reduceAdd,Int.reduceSub,Int.reduceMul,Nat.reduceAdd,↓bc_flatz,↓bc_flat16,↓agg_bytez, f1]
      have hv' : ∀ j, j ∈ idsV v → j < s4.next := fun j hj => hS4.lt j hj
      have g5 : ∀ j u, j ≠ σ.next + 1 → j < s4.next → j ∉ idsV v → (s5.put (σ.next + 1) u).get j = s4.get j := fun j u h1 h2 h3 => by
        rw [get_put_ne' h1, a4 j h2 h3]
      have hmlt := Store.lt_of_get R1.m
      have hmold : m < σ.next := Store.lt_of_get hg
      refine hnx _ (by omega) ⟨done ++ [p], _, ?_, by rw [hl1]; omega, ?_, ?_, Store.get_put_same _ _ _, ?_, ?_, fun j hj => ?_⟩
      · refine R1.same ?_ ?_
        · rw [g5 _ _ (by omega) (by omega) (fun h => by have := hvi _ h; omega), k4.2 _ (by omega), k3.2 _ (by omega)]
        · rw [g5 _ _ (by omega) (by omega) (fun h => by have := hvi _ h; omega), k4.2 _ (by omega), k3.2 _ (by omega)]
      · rw [next_max, a3, hl1, hsn, List.length_append, List.length_singleton]; omega
      · rw [g5 _ _ (by omega) (by omega) (fun h => by have := hvi _ h; omega), k4.2 _ (by omega), k3.2 _ (by omega), b0']
      · rw [hsn, List.length_append, List.length_singleton]
        have : flatL encH (ofN done ++ [(p.1, b)]) = flatL encH (ofN done) ++ (.int .i64 p.1 :: bc b) := by
          unfold flatL
          rw [List.map_append, List.flatten_append, List.map_cons, List.map_nil, List.flatten_cons, List.flatten_nil, List.append_nil, he]
        rw [this]
        refine a2.same fun i hi => ?_
        have : i = s4.next := by simpa [idsV] using hi
        rw [get_put_ne' (by omega)]
      · intro j hj
        have : j = s4.next := by simpa [idsV] using hj
        omega
      · rw [g5 _ _ (by omega) (by omega) (fun h => by have := hvi _ h; omega), k4.2 _ (by omega), k3.2 _ (by omega), hg1 _ (by omega), hgs j hj]
end Go.Proofs.YthojojlgmaoecaaGreat
