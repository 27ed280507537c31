/- Contract of disk.Load. -/
import Derived.Test.YthojojlgmaoecaaGreatDsm
set_option linter.all false
set_option maxRecDepth 100000
set_option maxHeartbeats 400000
namespace Go.Proofs.YthojojlgmaoecaaGreat
open Go.Am
variable {σ σ' : Store} {d m hm lm : Nat} {pv hv : Value} {s : DS} {F : List Nat} {Q : Value → Store → Prop}
/-- A list that rises behind a number, all in a disk, none blank. -/
def rise (n : Int) : Int → List HB → Prop
  | _, [] => True
  | b, p :: L => b < p.1 ∧ p.1 < n ∧ p.2 ≠ zb ∧ rise n p.1 L
def okIm (n : Int) (L : List HB) : Prop := 1 ≤ n ∧ n ≤ 1048576 ∧ rise n (-1) L
def ldF (f : Int → Option (List Int)) (L : List HB) : Int → Option (List Int) := L.foldl (fun f p => fun x => if x = p.1 then some p.2 else f x) f
theorem ldF_snoc {f : Int → Option (List Int)} {L : List HB} {k : Nat} {p : HB} (h : L[k]? = some p) : ldF f (L.take (k + 1)) = fun x => if x = p.1 then some p.2 else ldF f (L.take k) x := by
  unfold ldF
  rw [List.take_add_one, h, List.foldl_append]
  rfl
/-- A disk that holds a list. -/
def DS.load (n : Int) (L : List HB) : DS := { DS.new n with held := ldF (fun _ => none) L }
theorem rise_gt {n : Int} : ∀ {L : List HB} {b : Int}, rise n b L → ∀ p ∈ L, b < p.1 ∧ p.1 < n ∧ p.2 ≠ zb
  | q :: L, b, h, p, hp => by
    rcases List.mem_cons.1 hp with rfl | hp
    · exact ⟨h.1, h.2.1, h.2.2.1⟩
    · have := rise_gt h.2.2.2 p hp
      exact ⟨by have := h.1; omega, this.2⟩
theorem rise_asc {n : Int} : ∀ {L : List HB} {b : Int}, rise n b L → L.Pairwise fun a b => a.1 < b.1
  | [], _, _ => List.Pairwise.nil
  | q :: L, b, h => List.Pairwise.cons (fun p hp => (rise_gt h.2.2.2 p hp).1) (rise_asc h.2.2.2)
theorem ldF_get : ∀ {L : List HB} {f : Int → Option (List Int)} (x : Int), ldF f L x = match lastOf L x with | some b => some b | none => f x
  | [], f, x => rfl
  | p :: L, f, x => by
    show ldF (fun y => if y = p.1 then some p.2 else f y) L x = _
    rw [ldF_get]
    obtain ⟨i, b⟩ := p
    simp only [lastOf]
    cases hl : lastOf L x with
    | some c => simp
    | none =>
      simp only [Option.none_or]
      by_cases hx : i = x
      · simp [hx]
      · have hx' : ¬ x = i := fun e => hx e.symm
        simp [hx, hx']
theorem lastOf_asc : ∀ {L : List HB}, (L.Pairwise fun a b => a.1 < b.1) → ∀ p : HB, lastOf L p.1 = some p.2 ↔ p ∈ L
  | [], _, p => by simp [lastOf]
  | q :: L, h, p => by
    rw [List.pairwise_cons] at h
    obtain ⟨i, b⟩ := q
    have ih := lastOf_asc h.2 p
    simp only [lastOf]
    constructor
    · intro hl
      cases hc : lastOf L p.1 with
      | some c =>
        rw [hc] at hl
        have : c = p.2 := by simpa using hl
        rw [hc, this] at ih
        exact List.mem_cons_of_mem _ (ih.1 rfl)
      | none =>
        rw [hc] at hl
        simp only [Option.none_or] at hl
        split at hl
        · rename_i e
          cases hl
          obtain ⟨x, y⟩ := p
          simp at e; subst e
          exact List.mem_cons_self
        · cases hl
    · intro hp
      rcases List.mem_cons.1 hp with rfl | hp
      · have hn : lastOf L i = none := by
          cases hc : lastOf L i with
          | none => rfl
          | some c =>
            have := (lastOf_asc h.2 (i, c)).1 hc
            have := h.1 _ this
            simp at this
        simp [hn]
      · rw [ih.2 hp]; rfl
theorem load_held {n : Int} {L : List HB} (h : okIm n L) : HeldL (DS.load n L).held L := by
  refine ⟨rise_asc h.2.2, fun p => ?_⟩
  show p ∈ L ↔ ldF (fun _ => none) L p.1 = some p.2
  rw [ldF_get, ← lastOf_asc (rise_asc h.2.2) p]
  cases lastOf L p.1 <;> simp
theorem load_W {n : Int} {L : List HB} (h : okIm n L) : (DS.load n L).W := ⟨fun x b hb => by
  have := ((load_held h).mem (x, b)).2 hb
  have := rise_gt h.2.2 _ this
  exact ⟨by have := this.1; simp at this; omega, this.2⟩, fun p hp => by cases hp⟩
theorem ldF_len {L : List HB} (hl : ∀ p ∈ L, p.2.length = 1024) : ∀ x b, ldF (fun _ => none) L x = some b → b.length = 1024 := fun x b h => by
  rw [ldF_get] at h
  cases hc : lastOf L x with
  | none => rw [hc] at h; cases h
  | some c =>
    rw [hc] at h; cases h
    obtain ⟨p, hp, e⟩ := lastOf_mem hc
    rw [← e]; exact hl p hp
theorem load_C {n : Int} {L : List HB} (h : okIm n L) (hl : ∀ p ∈ L, p.2.length = 1024) : (DS.load n L).C 0 := by
  have hn := new_C h.1 h.2.1
  have ok := hn.ok
  exact ⟨⟨ok.n, ok.n2, ok.fuse, ok.fuse0, ok.made0, ok.reads0, ok.claims0, ok.wait, ok.hist, ldF_len hl⟩, hn.made, hn.wait, hn.hist, hn.reads, hn.claims⟩
theorem load_ {n : Int} {v : Value} {L : List HB} (hv : SlR σ 1025 v L.length (waitC L)) (hl : ∀ p ∈ L, p.2.length = 1024) (hcap : L.length < 2 ^ 63)
    (hq1 : okIm n L → ∀ σ' d F, Disk σ' d (DS.load n L) F → Upd [] σ σ' F → Q (.tuple #[.pointer (some ⟨d, 0, none⟩), .int .i64 0]) σ') (hq2 : ¬ okIm n L → ∀ σ', Keeps σ σ' → Q (.tuple #[.pointer none, .int .i64 4]) σ') :
    Does Tryz.prog 6 [.agg ⟨[.int .i64 n, v]⟩] σ Q := by
  refine d6 ?_
  obtain ⟨s1, hs1⟩ : ∃ s1, s1 = σ.push (.cells [.int .i64 n, v] none) := ⟨_, rfl⟩
  have k1 : Keeps σ s1 := by rw [hs1]; exact (Keeps.refl _).push _
  have c1 : s1.get σ.next = some (.cells [.int .i64 n, v] none) := by rw [hs1]; exact Store.get_push_same _ _
  unfold p6
  rw [box_agg, nop_some, ← hs1]
  simp -implicitDefEqProofs (maxSteps := 2000000) (disch := first|assumption|omega|rfl|(simp only[RD];done)|(simp only[RD];omega)) only [RN,Int.reduceBEq,Int.reduceBNe,Int.reduceLT,Int.reduceLE,Int.reduceAdd,Int.reduceSub,Int.reduceMul,Nat.reduceAdd,↓bc_flatz,↓bc_flat16,↓agg_bytez, c1]
  by_cases hn : n < 1 ∨ 1048576 < n
  · refine newbad_ hn ?_
    simp -implicitDefEqProofs (maxSteps := 2000000) (disch := first|assumption|omega|rfl|(simp only[RD];done)|(simp only[RD];omega)) only [RN,Int.reduceBEq,Int.reduceBNe,Int.reduceLT,Int.reduceLE,Int.reduceAdd,Int.reduceSub,Int.reduceMul,Nat.reduceAdd,↓bc_flatz,↓bc_flat16,↓agg_bytez, p6_3]
    exact hq2 (fun h => by have := h.1; have := h.2.1; omega) _ k1
  · refine new_ (by omega) (by omega) fun s2 d hm lm hD k2 hge => ?_
    have c2 := k2.get c1
    have hv2 : SlR s2 1025 v L.length (waitC L) := hv.keeps fun i o h => k2.get (k1.get h)
    have k12 := k1.trans k2
    simp -implicitDefEqProofs (maxSteps := 2000000) (disch := first|assumption|omega|rfl|(simp only[RD];done)|(simp only[RD];omega)) only [RN,Int.reduceBEq,Int.reduceBNe,Int.reduceLT,Int.reduceLE,Int.reduceAdd,Int.reduceSub,Int.reduceMul,Nat.reduceAdd,↓bc_flatz,↓bc_flat16,↓agg_bytez, p6_3, c2, hv2.len]
    have nhm : hm < s2.next := hD.lt hm (by simp [ids])
    have nd : d < s2.next := hD.lt d (by simp [ids])
    have nlm : lm < s2.next := hD.lt lm (by simp [ids])
    refine lop2 (fun k x v st => ∃ (i : Nat) (b : Int), k + i = L.length ∧ v = .int .i64 i ∧ x = .int .i64 b ∧ (rise n (-1) L ↔ rise n b (L.drop i)) ∧ s2.next ≤ st.next ∧ MapAt st hm (fun x => (ldF (fun _ => none) (L.take i) x).map bv) ∧ ∀ j, j < s2.next → j ≠ hm → st.get j = s2.get j) L.length
      ⟨0, -1, rfl, rfl, rfl, Iff.rfl, Nat.le_refl _, hD.held, fun _ _ _ => rfl⟩ ?_
    rintro k x v' st next ⟨i, b, hi, rfl, rfl, hr, hn2, hmi, hg⟩ hnx
    have gσ : ∀ j, j < σ.next → st.get j = s2.get j := fun j hj => hg j (by have := k12.1; omega) (fun e => by
      have := hge hm (by simp [ids]); have := k1.1; omega)
    have c3 : st.get σ.next = some (.cells [.int .i64 n, v] none) := by
      rw [hg σ.next (Store.lt_of_get c2) (fun e => by have := hge hm (by simp [ids]); have := Store.lt_of_get c1; omega), c2]
    have kst : Keeps σ st := ⟨by have := k12.1; omega, fun j hj => by rw [gσ j hj, k12.2 j hj]⟩
    have hv3 : SlR st 1025 v L.length (waitC L) := hv.keeps fun i o h => kst.get h
    by_cases h5 : (i : Int) < L.length
    · have h6 : i < L.length := by omega
      obtain ⟨p, hp⟩ : ∃ p, L[i]? = some p := ⟨_, List.getElem?_eq_getElem h6⟩
      have hdr : L.drop i = p :: L.drop (i + 1) := by
        rw [List.drop_eq_getElem_cons h6]
        rw [List.getElem?_eq_getElem h6] at hp
        rw [Option.some.inj hp]
      have hpm := List.mem_of_getElem? hp
      obtain ⟨y, c⟩ := p
      have hb : c.length = 1024 := hl (y, c) hpm
      obtain ⟨a, o, q1, q2, q3, q4⟩ := hv3.at (by omega) h6
      rw [waitC_at hl hp] at q3
      have l25 : (Value.int .i64 y :: bc c).length = 1025 := by simp [hb]
      have e1 : rdPart (some (.cells (.int .i64 y :: bc c) none)) 1 1024 = some (.agg ⟨bc c⟩) := by
        have h1 : Nat.ble (1 + 1024) (Value.int .i64 y :: bc c).length = true := Nat.ble_eq_true_of_le (by simp [hb])
        simp only [rdPart, part?, h1, cond_true, List.drop_succ_cons, List.drop_zero]
        rw [List.take_of_length_le (by rw [bc_len]; omega)]
      have ez := eqA_bc (n := 1024) false hb zb_len
      obtain ⟨s3, hs3⟩ : ∃ s3, s3 = st.push (.cells (.int .i64 y :: bc c) none) := ⟨_, rfl⟩
      have k3 : Keeps st s3 := by rw [hs3]; exact (Keeps.refl _).push _
      have c4 : s3.get st.next = some (.cells (.int .i64 y :: bc c) none) := by rw [hs3]; exact Store.get_push_same _ _
      have n3 : s3.next = st.next + 1 := by rw [hs3, Store.next_push]
      have c5 := k3.get c3
      have kk := kst.trans k3
      rw [hdr] at hr
      have bad : ¬ (b < y ∧ y < n ∧ c ≠ zb) → ¬ okIm n L := fun h1 h2 => by
        have := hr.1 h2.2.2
        exact h1 ⟨this.1, this.2.1, this.2.2.1⟩
      by_cases h7 : y ≤ b
      · simp -implicitDefEqProofs (maxSteps := 2000000) (disch := first|assumption|omega|rfl|(simp only[RD];done)|(simp only[RD];omega)) only [RN,Int.reduceBEq,Int.reduceBNe,Int.reduceLT,Int.reduceLE,Int.reduceAdd,Int.reduceSub,Int.reduceMul,Nat.reduceAdd,↓bc_flatz,↓bc_flat16,↓agg_bytez, decide_eq_true h5, q1, q3, l25]
        rw [← hs3]
        simp -implicitDefEqProofs (maxSteps := 2000000) (disch := first|assumption|omega|rfl|(simp only[RD];done)|(simp only[RD];omega)) only [RN,Int.reduceBEq,Int.reduceBNe,Int.reduceLT,Int.reduceLE,Int.reduceAdd,Int.reduceSub,Int.reduceMul,Nat.reduceAdd,↓bc_flatz,↓bc_flat16,↓agg_bytez, p6_2, c4, decide_eq_true h7]
        simp -implicitDefEqProofs (maxSteps := 2000000) (disch := first|assumption|omega|rfl|(simp only[RD];done)|(simp only[RD];omega)) only [RN,Int.reduceBEq,Int.reduceBNe,Int.reduceLT,Int.reduceLE,Int.reduceAdd,Int.reduceSub,Int.reduceMul,Nat.reduceAdd,↓bc_flatz,↓bc_flat16,↓agg_bytez, p6_1]
        exact hq2 (bad fun h => by omega) _ kk
      · by_cases h8 : n ≤ y
        · simp -implicitDefEqProofs (maxSteps := 2000000) (disch := first|assumption|omega|rfl|(simp only[RD];done)|(simp only[RD];omega)) only [RN,Int.reduceBEq,Int.reduceBNe,Int.reduceLT,Int.reduceLE,Int.reduceAdd,Int.reduceSub,Int.reduceMul,Nat.reduceAdd,↓bc_flatz,↓bc_flat16,↓agg_bytez, decide_eq_true h5, q1, q3, l25]
          rw [← hs3]
          simp -implicitDefEqProofs (maxSteps := 2000000) (disch := first|assumption|omega|rfl|(simp only[RD];done)|(simp only[RD];omega)) only [RN,Int.reduceBEq,Int.reduceBNe,Int.reduceLT,Int.reduceLE,Int.reduceAdd,Int.reduceSub,Int.reduceMul,Nat.reduceAdd,↓bc_flatz,↓bc_flat16,↓agg_bytez, p6_2, c4, c5, decide_eq_false h7, decide_eq_true h8]
          simp -implicitDefEqProofs (maxSteps := 2000000) (disch := first|assumption|omega|rfl|(simp only[RD];done)|(simp only[RD];omega)) only [RN,Int.reduceBEq,Int.reduceBNe,Int.reduceLT,Int.reduceLE,Int.reduceAdd,Int.reduceSub,Int.reduceMul,Nat.reduceAdd,↓bc_flatz,↓bc_flat16,↓agg_bytez, p6_1]
          exact hq2 (bad fun h => by omega) _ kk
        · by_cases h9 : c = zb
          · rw [decide_eq_true h9] at ez
            simp -implicitDefEqProofs (maxSteps := 2000000) (disch := first|assumption|omega|rfl|(simp only[RD];done)|(simp only[RD];omega)) only [RN,Int.reduceBEq,Int.reduceBNe,Int.reduceLT,Int.reduceLE,Int.reduceAdd,Int.reduceSub,Int.reduceMul,Nat.reduceAdd,↓bc_flatz,↓bc_flat16,↓agg_bytez, decide_eq_true h5, q1, q3, l25]
            rw [← hs3]
            simp -implicitDefEqProofs (maxSteps := 2000000) (disch := first|assumption|omega|rfl|(simp only[RD];done)|(simp only[RD];omega)) only [RN,Int.reduceBEq,Int.reduceBNe,Int.reduceLT,Int.reduceLE,Int.reduceAdd,Int.reduceSub,Int.reduceMul,Nat.reduceAdd,↓bc_flatz,↓bc_flat16,↓agg_bytez, p6_2, c4, c5, decide_eq_false h7, decide_eq_false h8, e1, ez]
            simp -implicitDefEqProofs (maxSteps := 2000000) (disch := first|assumption|omega|rfl|(simp only[RD];done)|(simp only[RD];omega)) only [RN,Int.reduceBEq,Int.reduceBNe,Int.reduceLT,Int.reduceLE,Int.reduceAdd,Int.reduceSub,Int.reduceMul,Nat.reduceAdd,↓bc_flatz,↓bc_flat16,↓agg_bytez, p6_1]
            exact hq2 (bad fun h => h.2.2 h9) _ kk
          · rw [decide_eq_false h9] at ez
            have cd : s3.get d = some (.cells ((DS.new n).cells hm lm (.slice none 0 0) (.slice none 0 0)) none) := by
              rw [k3.2 d (by omega), hg d nd hD.ne1.symm]; exact hD.cells
            obtain ⟨o', m1, m2⟩ := (hmi.same (σ' := s3) (k3.2 hm (by omega))).upd y (bv c)
            unfold bv at m1
            simp -implicitDefEqProofs (maxSteps := 2000000) (disch := first|assumption|omega|rfl|(simp only[RD];done)|(simp only[RD];omega)) only [RN,Int.reduceBEq,Int.reduceBNe,Int.reduceLT,Int.reduceLE,Int.reduceAdd,Int.reduceSub,Int.reduceMul,Nat.reduceAdd,↓bc_flatz,↓bc_flat16,↓agg_bytez, decide_eq_true h5, q1, q3, l25]
            rw [← hs3]
            simp -implicitDefEqProofs (maxSteps := 2000000) (disch := first|assumption|omega|rfl|(simp only[RD];done)|(simp only[RD];omega)) only [RN,Int.reduceBEq,Int.reduceBNe,Int.reduceLT,Int.reduceLE,Int.reduceAdd,Int.reduceSub,Int.reduceMul,Nat.reduceAdd,↓bc_flatz,↓bc_flat16,↓agg_bytez, p6_2, c4, c5, decide_eq_false h7, decide_eq_false h8, e1, ez]
            simp -implicitDefEqProofs (maxSteps := 2000000) (disch := first|assumption|omega|rfl|(simp only[RD];done)|(simp only[RD];omega)) only [RN,Int.reduceBEq,Int.reduceBNe,Int.reduceLT,Int.reduceLE,Int.reduceAdd,Int.reduceSub,Int.reduceMul,Nat.reduceAdd,↓bc_flatz,↓bc_flat16,↓agg_bytez, p6_1, cd, DS.cells, c4, e1, m1]
            have hne : hm ≠ st.next := by omega
            refine hnx _ _ _ (by omega) ⟨i + 1, y, by omega, by congr 1, rfl, ?_, by rw [next_max]; omega, ?_, fun j hj hne => ?_⟩
            · constructor
              · intro h; exact (hr.1 h).2.2.2
              · intro h; exact hr.2 ⟨by show b < y; omega, by show y < n; omega, h9, h⟩
            · rw [ldF_snoc hp]
              have e : (fun x => Option.map bv (if x = (y, c).1 then some (y, c).2 else ldF (fun _ => none) (L.take i) x)) = fun x => if x = y then some (bv c) else (ldF (fun _ => none) (L.take i) x).map bv := by
                funext x; by_cases hx : x = y <;> simp [hx]
              rw [e]; exact m2
            · rw [get_put_ne' hne, k3.2 j (by omega), hg j hj hne]
    · have hii : i = L.length := by omega
      simp -implicitDefEqProofs (maxSteps := 2000000) (disch := first|assumption|omega|rfl|(simp only[RD];done)|(simp only[RD];omega)) only [RN,Int.reduceBEq,Int.reduceBNe,Int.reduceLT,Int.reduceLE,Int.reduceAdd,Int.reduceSub,Int.reduceMul,Nat.reduceAdd,↓bc_flatz,↓bc_flat16,↓agg_bytez, decide_eq_false h5]
      subst hii
      rw [List.drop_length] at hr
      rw [List.take_length] at hmi
      have hok : okIm n L := ⟨by omega, by omega, hr.2 trivial⟩
      have hD3 : DAt st d (DS.load n L) hm lm (.slice none 0 0) (.slice none 0 0) :=
        ⟨by rw [hg d nd hD.ne1.symm]; exact hD.cells, hmi, hD.last.same (hg lm nlm hD.ne3.symm), SlG.nil, SlG.nil, hD.ne1, hD.ne2, hD.ne3, fun j hj => by simp [idsV] at hj, fun j hj => by simp [idsV] at hj⟩
      refine hq1 hok st d _ ⟨hm, lm, _, _, hD3, rfl⟩ ⟨kst.1, fun j hj => ⟨hD3.lt j hj, .inr ?_⟩, fun j hj _ => kst.2 j hj⟩
      have := hge j hj
      have := k1.1
      omega
end Go.Proofs.YthojojlgmaoecaaGreat
