import Derived.Test.YthojojlgmaoecaaGreatAm29
import Derived.Defers
section
/- The abstract machine, part 30: the same with frames that are trees. No program in sight. -/
set_option linter.all false
namespace Go.Am
open Go.RowKit
variable {P : Program}

inductive Tr where
  | leaf
  | node (v : Value) (l r : Tr)
namespace Tr
def get : Tr → Nat → Value
  | .leaf, _ => junk
  | .node v l r, n => match n with
    | 0 => v
    | m + 1 => bif Nat.beq (Nat.mod m 2) 0 then l.get (Nat.div m 2) else r.get (Nat.div m 2)
def put : Nat → Tr → Nat → Value → Tr
  | 0, t, _, _ => t
  | f + 1, .leaf, n, o => match n with
    | 0 => .node o .leaf .leaf
    | m + 1 => bif Nat.beq (Nat.mod m 2) 0 then .node junk (put f .leaf (Nat.div m 2) o) .leaf else .node junk .leaf (put f .leaf (Nat.div m 2) o)
  | f + 1, .node v l r, n, o => match n with
    | 0 => .node o l r
    | m + 1 => bif Nat.beq (Nat.mod m 2) 0 then .node v (put f l (Nat.div m 2) o) r else .node v l (put f r (Nat.div m 2) o)
theorem get_leaf (n : Nat) : get .leaf n = junk := by unfold get; rfl
theorem get_zero (v : Value) (l r : Tr) : get (.node v l r) 0 = v := by unfold get; rfl
theorem get_succ (v : Value) (l r : Tr) (m : Nat) : get (.node v l r) (m + 1) = bif Nat.beq (Nat.mod m 2) 0 then l.get (Nat.div m 2) else r.get (Nat.div m 2) := by conv => lhs; unfold get
theorem get_put : ∀ (f : Nat) (t : Tr) (n : Nat) (o : Value) (k : Nat), n < f → get (put f t n o) k = if k = n then o else get t k
  | 0, t, n, o, k, h => by omega
  | f + 1, .leaf, n, o, k, h => by
    cases n with
    | zero =>
      simp only [put]
      cases k with
      | zero => simp [get_zero]
      | succ k => rw [get_succ]; simp [get_leaf]
    | succ m =>
      have hd : Nat.div m 2 < f := by have : Nat.div m 2 = m / 2 := rfl; omega
      simp only [put]
      cases k with
      | zero => cases hm : Nat.beq (Nat.mod m 2) 0 <;> simp [get_zero, get_leaf]
      | succ k =>
        have ih := get_put f .leaf (Nat.div m 2) o (Nat.div k 2) hd
        have e1 : Nat.div m 2 = m / 2 := rfl
        have e2 : Nat.div k 2 = k / 2 := rfl
        have e3 : Nat.mod m 2 = m % 2 := rfl
        have e4 : Nat.mod k 2 = k % 2 := rfl
        cases hm : Nat.beq (Nat.mod m 2) 0 <;> cases hk : Nat.beq (Nat.mod k 2) 0 <;> simp only [cond_true, cond_false, get_succ, hk, ih, get_leaf]
        all_goals (first | rw [Nat.beq_eq] at hm | skip)
        all_goals (first | rw [Nat.beq_eq] at hk | skip)
        all_goals (try (have hm := Nat.ne_of_beq_eq_false hm))
        all_goals (try (have hk := Nat.ne_of_beq_eq_false hk))
        all_goals (simp only [e1, e2, e3, e4] at *)
        all_goals (split <;> (try rfl) <;> (try split) <;> (try rfl) <;> omega)
  | f + 1, .node v l r, n, o, k, h => by
    cases n with
    | zero =>
      simp only [put]
      cases k with
      | zero => simp [get_zero]
      | succ k => rw [get_succ, get_succ]; simp
    | succ m =>
      have hd : Nat.div m 2 < f := by have : Nat.div m 2 = m / 2 := rfl; omega
      simp only [put]
      cases k with
      | zero => cases hm : Nat.beq (Nat.mod m 2) 0 <;> simp [get_zero]
      | succ k =>
        have ihl := get_put f l (Nat.div m 2) o (Nat.div k 2) hd
        have ihr := get_put f r (Nat.div m 2) o (Nat.div k 2) hd
        have e1 : Nat.div m 2 = m / 2 := rfl
        have e2 : Nat.div k 2 = k / 2 := rfl
        have e3 : Nat.mod m 2 = m % 2 := rfl
        have e4 : Nat.mod k 2 = k % 2 := rfl
        cases hm : Nat.beq (Nat.mod m 2) 0 <;> cases hk : Nat.beq (Nat.mod k 2) 0 <;> simp only [cond_true, cond_false, get_succ, hk, ihl, ihr]
        all_goals (first | rw [Nat.beq_eq] at hm | skip)
        all_goals (first | rw [Nat.beq_eq] at hk | skip)
        all_goals (try (have hm := Nat.ne_of_beq_eq_false hm))
        all_goals (try (have hk := Nat.ne_of_beq_eq_false hk))
        all_goals (simp only [e1, e2, e3, e4] at *)
        all_goals (split <;> (try rfl) <;> (try split) <;> (try rfl) <;> omega)
end Tr
def tput (a : Tr) (dst : Option Nat) (v : Value) : Tr := match dst with | some d => Tr.put (d + 1) a d v | none => a
def tev (a : Tr) : Operand → Value
  | .tmp t => a.get t
  | .const v => v
  | .func f => .func (.func f) #[] #[]
  | .global _ => junk
def FR (a : List Value) (tr : Tr) : Prop := ∀ t, aget a t = tr.get t
theorem FR.ev {a : List Value} {tr : Tr} (h : FR a tr) : aev a = tev tr := by
  funext x
  cases x with
  | tmp t => exact h t
  | _ => rfl
theorem FR.g {a : List Value} {tr : Tr} (h : FR a tr) : aget a = tr.get := funext h
theorem FR.put {a : List Value} {tr : Tr} (h : FR a tr) {dst : Option Nat} {v : Value} (hd : ∀ d, dst = some d → d < a.length) : FR (aput a dst v) (tput tr dst v) := by
  cases dst with
  | none => exact h
  | some d =>
    intro t
    have hd := hd d rfl
    simp only [aput, tput]
    rw [Tr.get_put _ _ _ _ _ (by omega), ← h t]
    unfold aget
    simp only [List.getD_eq_getElem?_getD, List.getElem?_set]
    by_cases e : t = d
    · subst e; simp [hd]
    · have e' : ¬ d = t := fun x => e x.symm
      simp [e, e']
def seqT (P : Program) (ops : Array Oper) : List Oper → (Tr → Store → Prop) → Tr → Store → Prop
  | [], K, a, σ => K a σ
  | o :: rest, K, a, σ => oneE P ops (tev a) a.get o σ fun v σ' => seqT P ops rest K (tput a o.dst v) σ'
def drawT (P : Program) (ops : Array Oper) (b : Array Nat) : List Nat → (Tr → Store → Prop) → Tr → List Store → Store → Fl → Prop
  | [], K, a, _, cur, _ => K a cur
  | i :: rest, K, a, past, cur, fl =>
    match ops[i]? with
    | none => False
    | some o =>
      bif isEff o.op then oneE P ops (tev a) a.get o cur fun v s => recheckH past.length s fl (drawT P ops b rest K (tput a o.dst v) (past ++ [s]) s fl)
      else
        match actH P o (tev a) with
        | .rd f =>
          (fun (nofl : Bool) =>
            match gslot ops o with
            | some none => vop (f (past.getLastD cur).get) cur fun v _ => checkAllH f v ((past.drop (lowOf ops b i)).dropLast) (drawT P ops b rest K (tput a o.dst v) past cur (bif nofl then fl else (highOf ops b i, f, v) :: fl))
            | some (some (t, want)) => gop (a.get t) want cur (fun K => vop (f (past.getLastD cur).get) cur K) fun v _ => checkAllH (gsel (a.get t) want f) v ((past.drop (lowOf ops b i)).dropLast) (drawT P ops b rest K (tput a o.dst v) past cur (bif nofl then fl else (highOf ops b i, gsel (a.get t) want f, v) :: fl))
            | none => False) (Nat.blt (highOf ops b i + 1) past.length || Nat.beq (highOf ops b i + 1) past.length)
        | .eff _ => False
        | .call _ => False
        | .pick _ => False
        | .fail => False
        | _ => oneE P ops (tev a) a.get o cur fun v s => drawT P ops b rest K (tput a o.dst v) past s fl
def Kl (n : Nat) (K : Tr → Store → Prop) (a : List Value) (σ : Store) : Prop := a.length = n ∧ ∃ tr, FR a tr ∧ K tr σ
theorem seqT_sim {ops : Array Oper} : ∀ {l : List Oper} {K : Tr → Store → Prop} {a : List Value} {tr : Tr} {σ : Store}, (∀ o ∈ l, ∀ d, o.dst = some d → d < a.length) → FR a tr → seqT P ops l K tr σ → seqH P ops l (Kl a.length K) a σ
  | [], K, a, tr, σ, _, h, hh => ⟨rfl, tr, h, hh⟩
  | o :: rest, K, a, tr, σ, hd, h, hh => by
    unfold seqT at hh
    rw [← h.ev, ← h.g] at hh
    unfold seqH
    refine oneH_mono (fun v s hk => ?_) hh
    have hl : (aput a o.dst v).length = a.length := by unfold aput; split <;> simp
    have := seqT_sim (a := aput a o.dst v) (fun o' ho' d hd' => by rw [hl]; exact hd o' (List.mem_cons_of_mem _ ho') d hd') (h.put (hd o List.mem_cons_self)) hk
    rwa [hl] at this
theorem drawT_sim {ops : Array Oper} {b : Array Nat} : ∀ {l : List Nat} {K : Tr → Store → Prop} {a : List Value} {tr : Tr} {past : List Store} {cur : Store} {fl : Fl}, (∀ (i : Nat) (o : Oper), ops[i]? = some o → ∀ d, o.dst = some d → d < a.length) → FR a tr → drawT P ops b l K tr past cur fl → drawH P ops b l (Kl a.length K) a past cur fl
  | [], K, a, tr, past, cur, fl, _, h, hh => ⟨rfl, tr, h, hh⟩
  | i :: rest, K, a, tr, past, cur, fl, hd, h, hh => by
    unfold drawT at hh
    unfold drawH
    cases ho : ops[i]? with
    | none => rw [ho] at hh; exact hh
    | some o =>
      rw [ho] at hh
      simp only at hh ⊢
      rw [← h.ev, ← h.g] at hh
      have next : ∀ {v : Value} {past : List Store} {s : Store} {fl : Fl}, drawT P ops b rest K (tput tr o.dst v) past s fl → drawH P ops b rest (Kl a.length K) (aput a o.dst v) past s fl := fun {v past s fl} hk => by
        have hl : (aput a o.dst v).length = a.length := by unfold aput; split <;> simp
        have := drawT_sim (a := aput a o.dst v) (fun i' o' ho' d hd' => by rw [hl]; exact hd i' o' ho' d hd') (h.put (hd i o ho)) hk
        rwa [hl] at this
      cases he : isEff o.op with
      | true =>
        rw [he] at hh
        exact oneH_mono (fun v s hk => recheckH_mk hk next) hh
      | false =>
        rw [he] at hh
        simp only [cond_false] at hh ⊢
        cases hA : actH P o (aev a) with
        | rd f =>
          rw [hA] at hh
          simp only at hh ⊢
          cases hgs : gslot ops o with
          | none => rw [hgs] at hh; exact hh
          | some gs =>
            rw [hgs] at hh
            cases gs with
            | none =>
              simp only [vop] at hh ⊢
              split at hh
              · exact checkAllH_mk hh next
              · exact hh
            | some tw =>
              obtain ⟨t, want⟩ := tw
              simp only at hh ⊢
              rw [gop_eq] at hh ⊢
              cases hgv : gv (aget a t) want with
              | none => rw [hgv] at hh; exact hh
              | some c =>
                rw [hgv] at hh
                cases c with
                | true =>
                  simp only [vop] at hh ⊢
                  split at hh
                  · exact checkAllH_mk hh next
                  · exact hh
                | false => exact checkAllH_mk hh next
        | eff f => rw [hA] at hh; exact hh
        | call y => rw [hA] at hh; exact hh
        | pick y => rw [hA] at hh; exact hh
        | fail => rw [hA] at hh; exact hh
        | mv v => rw [hA] at hh; exact oneH_mono (fun v s hk => next hk) hh
        | val y => rw [hA] at hh; exact oneH_mono (fun v s hk => next hk) hh
        | new y => rw [hA] at hh; exact oneH_mono (fun v s hk => next hk) hh
def forgetT (a : Tr) : List Nat → Tr
  | [] => a
  | t :: ts => forgetT (Tr.put (t + 1) a t junk) ts
def setAllT (a : Tr) : List Nat → List Value → Tr
  | [], _ => a
  | t :: ts, vs => setAllT (Tr.put (t + 1) a t (vs.headD junk)) ts vs.tail
def rejoinT (a : Tr) (c : Code) (L : List Nat) (xs : List Value) : Tr := setAllT (forgetT a (defsC c)) L xs
theorem forgetT_get : ∀ {ds : List Nat} {a : Tr} {t : Nat}, (forgetT a ds).get t = if t ∈ ds then junk else a.get t
  | [], a, t => by simp [forgetT]
  | d :: ds, a, t => by
    unfold forgetT
    rw [forgetT_get, Tr.get_put _ _ _ _ _ (by omega)]
    by_cases h : t ∈ ds
    · simp [h]
    · by_cases h2 : t = d <;> simp [h, h2]
theorem setAll_fr : ∀ {L : List Nat} {a : List Value} {tr : Tr} {xs : List Value}, (∀ t ∈ L, t < a.length) → FR a tr → FR (setAll a L xs) (setAllT tr L xs)
  | [], a, tr, xs, _, h => h
  | t :: L, a, tr, xs, hd, h => by
    show FR (setAll (a.set t (xs.headD junk)) L xs.tail) (setAllT (Tr.put (t + 1) tr t (xs.headD junk)) L xs.tail)
    exact setAll_fr (fun t' ht' => by rw [List.length_set]; exact hd t' (List.mem_cons_of_mem _ ht')) (FR.put h (dst := some t) (fun d hd' => by cases hd'; exact hd _ List.mem_cons_self))
theorem rejoin_fr {c : Code} {a : List Value} {tr : Tr} {L : List Nat} {xs : List Value} (hL : ∀ t ∈ L, t < a.length) (h : FR a tr) : FR (rejoin a c L xs) (rejoinT tr c L xs) := by
  unfold rejoin rejoinT
  refine setAll_fr (by rw [keepM_len]; exact hL) fun t => ?_
  rw [forgetT_get, ← h t]
  unfold aget
  rw [List.getD_eq_getElem?_getD, List.getD_eq_getElem?_getD]
  cases hg : (keepM (maskL (defsC c) 0) 0 a)[t]? with
  | none =>
    have : a[t]? = none := by
      rw [List.getElem?_eq_none_iff, keepM_len] at hg
      exact List.getElem?_eq_none hg
    simp [this]
  | some v =>
    by_cases ht : t ∈ defsC c
    · rw [if_pos ht]
      rcases keepM_get _ _ _ _ _ hg with rfl | ⟨h1, h2⟩
      · rfl
      · rw [Nat.zero_add, bit_maskL] at h1; simp [ht] at h1
    · rw [if_neg ht, keepM_not _ _ _ _ (by rw [Nat.zero_add, bit_maskL, bit_zero]; simp [ht])] at *
      rw [hg]
def codeT (P : Program) : Code → Nat → Lv → (Out → Tr → Store → Prop) → Tr → Store → Prop
  | .skip, _, _, K, a, σ => K .normal a σ
  | .label _, _, _, K, a, σ => K .normal a σ
  | .region _ ops false, _, _, K, a, σ => seqT P ops ops.toList (fun a σ => K .normal a σ) a σ
  | .region _ ops true, _, _, K, a, σ => (fun b => drawT P ops b (canonF ops b) (fun a σ => K .normal a σ) a [σ] σ []) (CheckFast.beforeF ops)
  | .seq x y, D, U, K, a, σ =>
    bif Nat.ble (norms x) 1 then codeT P x D (usesC y U) (fun e a σ => match e with | .normal => codeT P y (maskL (defsC x) D) U K a σ | e => K e a σ) a σ
    else (fun L => jop L.length (fun K2 => codeT P x D (usesC y U) (fun e a' σ' => match e with | .normal => appN L.length K2 (L.map a'.get) σ' | e => K e a' σ') a σ)
      (lamN L.length fun xs σ' => codeT P y (maskL (defsC x) D) U K (rejoinT a x L xs) σ')) (liveJ x (usesC y U))
  | .cond c x y, D, U, K, a, σ => condH (tev a c) (codeT P x D U K a σ) (codeT P y D U K a σ)
  | .block id c, D, U, K, a, σ =>
    bif Nat.ble (norms c + exitsTo id c) 1 then codeT P c D (enterU id U) (fun e a σ => match e with | .exit j => (bif j == id then K .normal a σ else K (.exit j) a σ) | e => K e a σ) a σ
    else (fun L => jop L.length (fun K2 => codeT P c D (enterU id U) (fun e a' σ' => match e with | .exit j => (bif j == id then appN L.length K2 (L.map a'.get) σ' else K (.exit j) a' σ') | .normal => appN L.length K2 (L.map a'.get) σ' | .ret => K .ret a' σ') a σ)
      (lamN L.length fun xs σ' => K .normal (rejoinT a c L xs) σ')) (liveJ c U)
  | .loop c, D, U, K, a, σ =>
    (fun U' => (fun L => appN L.length (lop L.length fun next => lamN L.length fun xs σ => codeT P c D U' (fun e a' σ' => match e with | .normal => appN L.length next (L.map a'.get) σ' | e => K e a' σ') (rejoinT a c L xs) σ) (L.map a.get) σ) (liveL c D U')) (loopU c U)
  | .exit id, _, _, K, a, σ => K (.exit id) a σ
  | .ret, _, _, K, a, σ => K .ret a σ
  | _, _, _, _, _, _ => False
def Ko (n : Nat) (K : Out → Tr → Store → Prop) (e : Out) (a : List Value) (σ : Store) : Prop := a.length = n ∧ ∃ tr, FR a tr ∧ K e tr σ
theorem map_fr {a : List Value} {tr : Tr} (h : FR a tr) (L : List Nat) : L.map (aget a) = L.map tr.get := by rw [h.g]
theorem rejoin_len {c : Code} {a : List Value} {L : List Nat} {xs : List Value} : (rejoin a c L xs).length = a.length := by unfold rejoin; rw [setAll_len, keepM_len]
theorem codeT_sim : ∀ {c : Code} {D : Nat} {U : Lv} {K : Out → Tr → Store → Prop} {a : List Value} {tr : Tr} {σ : Store}, (∀ d ∈ defsC c, d < a.length) → FR a tr → codeT P c D U K tr σ → codeH P c D U (Ko a.length K) a σ := by
  intro c
  induction c with
  | skip => intro D U K a tr σ _ h hh; exact ⟨rfl, tr, h, hh⟩
  | label l => intro D U K a tr σ _ h hh; exact ⟨rfl, tr, h, hh⟩
  | exit id => intro D U K a tr σ _ h hh; exact ⟨rfl, tr, h, hh⟩
  | ret => intro D U K a tr σ _ h hh; exact ⟨rfl, tr, h, hh⟩
  | region id ops d =>
    intro D U K a tr σ hd h hh
    cases d with
    | false => exact seqT_sim (fun o ho d hd' => hd d (List.mem_filterMap.2 ⟨o, ho, hd'⟩)) h hh
    | true => exact drawT_sim (fun i o ho d hd' => hd d (List.mem_filterMap.2 ⟨o, by rw [← Array.mem_def]; exact Array.mem_of_getElem? ho, hd'⟩)) h hh
  | seq x y ihx ihy =>
    intro D U K a tr σ hd h hh
    have hdx : ∀ d ∈ defsC x, d < a.length := fun d hdx => hd d (by simp [defsC, hdx])
    have hdy : ∀ d ∈ defsC y, d < a.length := fun d hdy => hd d (by simp [defsC, hdy])
    unfold codeT at hh
    unfold codeH
    cases hb : Nat.ble (norms x) 1 with
    | true =>
      rw [hb] at hh
      refine codeH_mono (fun e a' s hk => ?_) (ihx hdx h hh)
      obtain ⟨hl, tr', h', hk⟩ := hk
      cases e with
      | normal => have := ihy (by rw [hl]; exact hdy) h' hk; rwa [hl] at this
      | exit j => exact ⟨hl, tr', h', hk⟩
      | ret => exact ⟨hl, tr', h', hk⟩
    | false =>
      rw [hb] at hh
      simp only [cond_false, jop] at hh ⊢
      refine codeH_mono (fun e a' s hk => ?_) (ihx hdx h hh)
      obtain ⟨hl, tr', h', hk⟩ := hk
      cases e with
      | normal =>
        simp only at hk ⊢
        rw [app_lam (by simp)] at hk ⊢
        rw [map_fr h']
        have := ihy (a := rejoin a x (liveJ x (usesC y U)) ((liveJ x (usesC y U)).map tr'.get)) (by rw [rejoin_len]; exact hdy) (rejoin_fr (fun t ht => hdx t (lives_sub ht)) h) hk
        rwa [rejoin_len] at this
      | exit j => exact ⟨hl, tr', h', hk⟩
      | ret => exact ⟨hl, tr', h', hk⟩
  | cond c x y ihx ihy =>
    intro D U K a tr σ hd h hh
    have hdx : ∀ d ∈ defsC x, d < a.length := fun d hdx => hd d (by simp [defsC, hdx])
    have hdy : ∀ d ∈ defsC y, d < a.length := fun d hdy => hd d (by simp [defsC, hdy])
    unfold codeT condH at hh
    unfold codeH condH
    rw [← h.ev] at hh
    split at hh
    · exact ihx hdx h hh
    · exact ihy hdy h hh
    · exact hh
  | block id c ih =>
    intro D U K a tr σ hd h hh
    unfold codeT at hh
    unfold codeH
    cases hb : Nat.ble (norms c + exitsTo id c) 1 with
    | true =>
      rw [hb] at hh
      refine codeH_mono (fun e a' s hk => ?_) (ih hd h hh)
      obtain ⟨hl, tr', h', hk⟩ := hk
      cases e with
      | normal => exact ⟨hl, tr', h', hk⟩
      | ret => exact ⟨hl, tr', h', hk⟩
      | exit j =>
        simp only at hk ⊢
        cases hj : j == id <;> rw [hj] at hk <;> exact ⟨hl, tr', h', hk⟩
    | false =>
      rw [hb] at hh
      simp only [cond_false, jop] at hh ⊢
      have fin : ∀ (tr' : Tr) (s : Store), K .normal (rejoinT tr c (liveJ c U) ((liveJ c U).map tr'.get)) s → Ko a.length K .normal (rejoin a c (liveJ c U) ((liveJ c U).map tr'.get)) s := fun tr' s hk => ⟨rejoin_len, _, rejoin_fr (fun t ht => hd t (lives_sub ht)) h, hk⟩
      refine codeH_mono (fun e a' s hk => ?_) (ih hd h hh)
      obtain ⟨hl, tr', h', hk⟩ := hk
      cases e with
      | normal =>
        simp only at hk ⊢
        rw [app_lam (by simp)] at hk ⊢
        rw [map_fr h']
        exact fin tr' s hk
      | ret => exact ⟨hl, tr', h', hk⟩
      | exit j =>
        simp only at hk ⊢
        cases hj : j == id <;> rw [hj] at hk <;> simp only [cond_true, cond_false] at hk ⊢
        · exact ⟨hl, tr', h', hk⟩
        · rw [app_lam (by simp)] at hk ⊢
          rw [map_fr h']
          exact fin tr' s hk
  | loop c ih =>
    intro D U K a tr σ hd h hh
    unfold codeT at hh
    unfold codeH
    simp only at hh ⊢
    rw [lop_app (by simp)] at hh ⊢
    rw [map_fr h]
    obtain ⟨n, hn⟩ := hh
    refine ⟨n, ?_⟩
    have key : ∀ n xs s, xs.length = (liveL c D (loopU c U)).length → rounds (fun next xs σ => appN (liveL c D (loopU c U)).length ((fun next => lamN (liveL c D (loopU c U)).length fun xs σ => codeT P c D (loopU c U) (fun e a' σ' => match e with | .normal => appN (liveL c D (loopU c U)).length next ((liveL c D (loopU c U)).map a'.get) σ' | e => K e a' σ') (rejoinT tr c (liveL c D (loopU c U)) xs) σ) (lamN (liveL c D (loopU c U)).length next)) xs σ) n xs s →
        rounds (fun next xs σ => appN (liveL c D (loopU c U)).length ((fun next => lamN (liveL c D (loopU c U)).length fun xs σ => codeH P c D (loopU c U) (fun e a' σ' => match e with | .normal => appN (liveL c D (loopU c U)).length next ((liveL c D (loopU c U)).map (aget a')) σ' | e => Ko a.length K e a' σ') (rejoin a c (liveL c D (loopU c U)) xs) σ) (lamN (liveL c D (loopU c U)).length next)) xs σ) n xs s := by
      intro n
      induction n with
      | zero => intro xs s _ h; exact h
      | succ n ihn =>
        intro xs s hl hh
        unfold rounds at hh ⊢
        simp only at hh ⊢
        rw [app_lam hl] at hh ⊢
        refine codeH_mono (fun e a' s' hk => ?_) (ih (a := rejoin a c (liveL c D (loopU c U)) xs) (by rw [rejoin_len]; exact hd) (rejoin_fr (fun t ht => hd t (lives_sub ht)) h) hh)
        obtain ⟨hl', tr', h', hk⟩ := hk
        rw [rejoin_len] at hl'
        cases e with
        | normal =>
          simp only at hk ⊢
          rw [app_lam (by simp)] at hk ⊢
          rw [map_fr h']
          exact ihn _ _ (by simp) hk
        | exit j => exact ⟨hl', tr', h', hk⟩
        | ret => exact ⟨hl', tr', h', hk⟩
    exact key n _ _ (by simp) hn
  | _ => intros; rename_i h; exact h.elim

/-! ## bodies -/
def resT (P : Program) (g : Nat → Value) (σ : Store) : List ResultVar → (List Value → Prop) → Prop
  | [], K => K []
  | .tmp t :: rs, K => resT P g σ rs fun vs => K (g t :: vs)
  | .cell t ty :: rs, K => match tAgg P ty, tSize P ty with
    | some b, some n => vop (loadV b n (g t) σ.get) σ fun v _ => resT P g σ rs fun vs => K (v :: vs)
    | _, _ => False
theorem resT_eq {a : List Value} {σ : Store} : ∀ {rs : List ResultVar} {K : List Value → Prop}, resT P (aget a) σ rs K → resH P a σ rs K
  | [], K, h => h
  | .tmp t :: rs, K, h => resT_eq (rs := rs) (K := fun vs => K (aget a t :: vs)) h
  | .cell t ty :: rs, K, h => by
    unfold resT at h
    unfold resH
    cases hb : tAgg P ty with
    | none => rw [hb] at h; exact h.elim
    | some b =>
      cases hn : tSize P ty with
      | none => rw [hb, hn] at h; exact h.elim
      | some n =>
        rw [hb, hn] at h
        simp only [vop] at h ⊢
        cases hl : loadV b n (aget a t) σ.get with
        | none => rw [hl] at h; exact h
        | some v => rw [hl] at h; exact resT_eq h
def startT (i : Nat) : List Value → Tr → Tr
  | [], a => a
  | v :: vs, a => CheckFast.force (i + 1) fun j => startT j vs (Tr.put j a i v)
theorem startT_get : ∀ {vs : List Value} {i : Nat} {a : Tr} {t : Nat}, (startT i vs a).get t = if i ≤ t ∧ t < i + vs.length then vs.getD (t - i) junk else a.get t
  | [], i, a, t => by
    unfold startT
    rw [if_neg (by simp)]
  | v :: vs, i, a, t => by
    unfold startT
    rw [CheckFast.force_eq, startT_get, Tr.get_put _ _ _ _ _ (by omega)]
    by_cases h2 : t = i
    · subst h2
      rw [if_neg (by omega), if_pos rfl, if_pos (by simp)]
      simp
    · rw [if_neg h2]
      by_cases h1 : i + 1 ≤ t ∧ t < i + 1 + vs.length
      · have e : t - i = (t - (i + 1)) + 1 := by omega
        rw [if_pos h1, if_pos (by simp; omega), e, List.getD_cons_succ]
      · rw [if_neg h1, if_neg (by simp; omega)]
def bodyT (P : Program) (fn : Func) (args : List Value) (σ : Store) (K : Value → Store → Prop) : Prop :=
  match fn.body with
  | none => False
  | some c => codeT P c (Nat.sub (Nat.shiftLeft 1 args.length) 1) (startU fn) (fun e a σ => match e with
      | .exit _ => False
      | _ => resT P a.get σ fn.results.toList fun vs => K (resOne vs) σ) (startT 0 args .leaf) σ
def okDst (n : Nat) : List Nat → Bool
  | [] => true
  | t :: ts => Nat.blt t n && okDst n ts
theorem okDst_spec {n : Nat} : ∀ {l : List Nat}, okDst n l = true → ∀ d ∈ l, d < n
  | t :: ts, h, d, hd => by
    simp only [okDst, Bool.and_eq_true] at h
    rcases List.mem_cons.1 hd with rfl | hd
    · exact Nat.le_of_ble_eq_true h.1
    · exact okDst_spec h.2 d hd
def okT (P : Program) (fn : Func) : Bool := match fn.body with | some c => okCode P c && okDst fn.ntmps (defsC c) | none => false
theorem bodyT_H {fn : Func} {args : List Value} {σ : Store} {K : Value → Store → Prop} (hok : okT P fn = true) (h : bodyT P fn args σ K) : bodyH P fn args σ K := by
  unfold okT at hok
  unfold bodyT at h
  unfold bodyH
  split at h
  · exact h.elim
  · rename_i c hb
    rw [hb] at hok
    simp only [Bool.and_eq_true] at hok
    have hfr : FR (args ++ List.replicate (fn.ntmps - args.length) junk) (startT 0 args .leaf) := fun t => by
      rw [startT_get, Tr.get_leaf]
      unfold aget
      rw [List.getD_eq_getElem?_getD, List.getElem?_append]
      by_cases ht : t < args.length
      · rw [if_pos ht, if_pos ⟨Nat.zero_le _, by simpa using ht⟩, List.getD_eq_getElem?_getD]; rfl
      · rw [if_neg ht, if_neg (by simpa using ht), List.getElem?_replicate]
        split <;> rfl
    rw [hb]
    simp only
    refine codeH_mono (fun e a s hk => ?_) (codeT_sim (fun d hd => ?_) hfr h)
    · obtain ⟨_, tr, h', hk⟩ := hk
      cases e with
      | exit j => exact hk
      | normal => exact resT_eq (by rw [h'.g]; exact hk)
      | ret => exact resT_eq (by rw [h'.g]; exact hk)
    · have := okDst_spec hok.2 d hd
      simp only [List.length_append, List.length_replicate]
      omega
theorem okFn_of {fn : Func} (h : okT P fn = true) : okFn P fn = true := by
  unfold okT at h
  unfold okFn
  split at h
  · rename_i c hb
    rw [hb]
    exact (Bool.and_eq_true _ _ ▸ h).1
  · cases h
theorem does_of_print {f : FuncId} {fn : Func} {args : List Value} {σ : Store} {Q : Value → Store → Prop} (hf : P.funcs[f]? = some fn) (hok : (okT P fn && noNextFn fn) = true) (h : bodyT P fn args σ Q) : Does P f args σ Q := by
  rw [Bool.and_eq_true] at hok
  exact does_of_body hf (okFn_of hok.1) hok.2 (bodyT_H hok.1 h)
theorem doesD_of_print {f : FuncId} {fn : Func} {args : List Value} {σ : Store} {Q : Value → Store → Prop} (hf : P.funcs[f]? = some fn) (hok : okT P fn = true) (h : bodyT P fn args σ Q) : DoesD P f args σ Q := doesD_of_body hf (okFn_of hok) (bodyT_H hok h)
end Go.Am
end
section
/- The abstract machine, part 31: how printed functions are gone through. No program in sight. -/
set_option linter.all false
namespace Go.Am
open Go.RowKit
variable {P : Program}

theorem vop_some (v : Value) (σ : Store) (K : Value → Store → Prop) : vop (some v) σ K = K v σ := rfl
theorem nop_some (o : SObj) (mk : Nat → Value) (σ : Store) (K : Value → Store → Prop) : nop (some (o, mk)) σ K = K (mk σ.next) (σ.push o) := rfl
theorem eop_some (v : Value) (s : Store) (K : Value → Store → Prop) : eop (some (v, s)) K = K v s := rfl
theorem cop_some (f : FuncId) (as : List Value) (σ : Store) (K : Value → Store → Prop) : cop P (some (f, as)) σ K = Does P f as σ K := rfl
theorem jop_eq (n : Nat) (M : NF n → Prop) (k : NF n) : jop n M k = M k := rfl
theorem gop_tt (σ : Store) (A : (Value → Store → Prop) → Prop) (K : Value → Store → Prop) : gop (.bool true) true σ A K = A K := rfl
theorem gop_ff (σ : Store) (A : (Value → Store → Prop) → Prop) (K : Value → Store → Prop) : gop (.bool false) false σ A K = A K := rfl
theorem gop_tf (σ : Store) (A : (Value → Store → Prop) → Prop) (K : Value → Store → Prop) : gop (.bool true) false σ A K = K gone σ := rfl
theorem gop_ft (σ : Store) (A : (Value → Store → Prop) → Prop) (K : Value → Store → Prop) : gop (.bool false) true σ A K = K gone σ := rfl
theorem gop_gone (w : Bool) (σ : Store) (A : (Value → Store → Prop) → Prop) (K : Value → Store → Prop) : gop (.chan (some 0)) w σ A K = K gone σ := rfl
theorem condH_true (p q : Prop) : condH (.bool true) p q = p := rfl
theorem condH_false (p q : Prop) : condH (.bool false) p q = q := rfl
theorem kop_some (v : Value) (p : Prop) : kop (some v) v p = p := by unfold kop; simp
theorem gsel_tt (f : (Nat → Option SObj) → Option Value) (g : Nat → Option SObj) : gsel (.bool true) true f g = f g := rfl
theorem gsel_ff (f : (Nat → Option SObj) → Option Value) (g : Nat → Option SObj) : gsel (.bool false) false f g = f g := rfl
theorem gsel_tf (f : (Nat → Option SObj) → Option Value) (g : Nat → Option SObj) : gsel (.bool true) false f g = some gone := rfl
theorem gsel_ft (f : (Nat → Option SObj) → Option Value) (g : Nat → Option SObj) : gsel (.bool false) true f g = some gone := rfl
theorem gsel_gone (w : Bool) (f : (Nat → Option SObj) → Option Value) (g : Nat → Option SObj) : gsel (.chan (some 0)) w f g = some gone := rfl
theorem pick_true (a b : Value) : pickV (.bool true) a b = some a := rfl
theorem pick_false (a b : Value) : pickV (.bool false) a b = some b := rfl

/-! numbers -/
theorem i_add (k : IntKind) (a b : Int) : binI .add (.int k a) (.int k b) = some (.int k (k.wrap (a + b))) := by simp [binI, intOp]
theorem i_sub (k : IntKind) (a b : Int) : binI .sub (.int k a) (.int k b) = some (.int k (k.wrap (a - b))) := by simp [binI, intOp]
theorem i_mul (k : IntKind) (a b : Int) : binI .mul (.int k a) (.int k b) = some (.int k (k.wrap (a * b))) := by simp [binI, intOp]
theorem i_eql (k : IntKind) (a b : Int) : binI .eql (.int k a) (.int k b) = some (.bool (a == b)) := by simp [binI, intOp]
theorem i_neq (k : IntKind) (a b : Int) : binI .neq (.int k a) (.int k b) = some (.bool (a != b)) := by simp [binI, intOp]
theorem i_lss (k : IntKind) (a b : Int) : binI .lss (.int k a) (.int k b) = some (.bool (decide (a < b))) := by simp [binI, intOp]
theorem i_leq (k : IntKind) (a b : Int) : binI .leq (.int k a) (.int k b) = some (.bool (decide (a ≤ b))) := by simp [binI, intOp]
theorem i_gtr (k : IntKind) (a b : Int) : binI .gtr (.int k a) (.int k b) = some (.bool (decide (b < a))) := by simp [binI, intOp]
theorem i_geq (k : IntKind) (a b : Int) : binI .geq (.int k a) (.int k b) = some (.bool (decide (b ≤ a))) := by simp [binI, intOp]
theorem sh_shr {k j : IntKind} {a b : Int} (h : 0 ≤ b) : shiftV .shr (.int k a) (.int j b) = some (.int k (a.fdiv (2 ^ (min b.toNat k.bits)))) := by
  have : ¬ b < 0 := by omega
  simp [shiftV, shiftOp, this]
theorem sh_shl {k j : IntKind} {a b : Int} (h : 0 ≤ b) : shiftV .shl (.int k a) (.int j b) = some (.int k (k.wrap (a * 2 ^ (min b.toNat k.bits)))) := by
  have : ¬ b < 0 := by omega
  simp [shiftV, shiftOp, this]
theorem i_quo {k : IntKind} {a b : Int} (h : b ≠ 0) : binI .quo (.int k a) (.int k b) = some (.int k (k.wrap (a.tdiv b))) := by simp [binI, intOp, h]
theorem i_rem {k : IntKind} {a b : Int} (h : b ≠ 0) : binI .rem (.int k a) (.int k b) = some (.int k (a.tmod b)) := by simp [binI, intOp, h]
def orI (x y : Int) : Int := IntKind.u8.wrap (BitVec.ofInt 8 x ||| BitVec.ofInt 8 y).toNat
theorem i_or8 (a b : Int) : binI .or (.int .u8 a) (.int .u8 b) = some (.int .u8 (orI a b)) := rfl
theorem i_neg (k : IntKind) (a : Int) : unV .neg (.int k a) = some (.int k (k.wrap (0 - a))) := rfl
theorem max2 (k : IntKind) (a b : Int) : minMaxV true [.int k a, .int k b] = some (.int k (max a b)) := by
  simp only [minMaxV, List.foldl_cons, List.foldl_nil, cond_true]
  by_cases h : b > a
  · rw [if_pos h]; congr 2; omega
  · rw [if_neg h]; congr 2; omega
theorem min2 (k : IntKind) (a b : Int) : minMaxV false [.int k a, .int k b] = some (.int k (min a b)) := by
  simp only [minMaxV, List.foldl_cons, List.foldl_nil, cond_false]
  by_cases h : b < a
  · rw [if_pos h]; congr 2; omega
  · rw [if_neg h]; congr 2; omega
theorem i_conv (k j : IntKind) (a : Int) : convI k (.int j a) = some (.int k (k.wrap a)) := rfl
theorem u_not (b : Bool) : unV .not (.bool b) = some (.bool !b) := rfl
theorem eqB_eq (neg a b : Bool) : eqB neg (.bool a) (.bool b) = some (.bool ((a == b) ^^ neg)) := rfl
theorem eqPn_some (neg : Bool) (a : Addr) : eqPn neg (.pointer (some a)) (.pointer none) = some (.bool (false ^^ neg)) := rfl
theorem eqPn_none (neg : Bool) (b : Option Addr) : eqPn neg (.pointer none) (.pointer b) = some (.bool (b.isNone ^^ neg)) := rfl
theorem eqSl_some (neg : Bool) (a : Addr) (n c m d : Nat) : eqSl neg (.slice (some a) n c) (.slice none m d) = some (.bool (false ^^ neg)) := rfl
theorem eqSl_none (neg : Bool) (b : Option Addr) (n c m d : Nat) : eqSl neg (.slice none n c) (.slice b m d) = some (.bool (b.isNone ^^ neg)) := rfl
theorem eqMp_some (neg : Bool) (a : Nat) : eqMp neg (.map (some a)) (.map none) = some (.bool (false ^^ neg)) := rfl
theorem eqMp_none (neg : Bool) (b : Option Nat) : eqMp neg (.map none) (.map b) = some (.bool (b.isNone ^^ neg)) := rfl
theorem nil_ptr (a : Addr) : nilV (.pointer (some a)) = some (.pointer (some a)) := rfl
theorem ext_0 (v : Value) (r : List Value) : extractV (.tuple ⟨v :: r⟩) 0 = some v := rfl
theorem ext_1 (u v : Value) (r : List Value) : extractV (.tuple ⟨u :: v :: r⟩) 1 = some v := rfl
theorem ext_2 (t u v : Value) (r : List Value) : extractV (.tuple ⟨t :: u :: v :: r⟩) 2 = some v := rfl
/-! addresses -/
theorem faddr_eq (off i o : Nat) : faddr off (.pointer (some ⟨i, o, none⟩)) = some (.pointer (some ⟨i, o + off, none⟩)) := rfl
theorem iaddrA_eq {n c b o : Nat} {k : IntKind} {i : Int} (h0 : 0 ≤ i) (h1 : i < n) : iaddrA n c (.pointer (some ⟨b, o, none⟩)) (.int k i) = some (.pointer (some ⟨b, o + i.toNat * c, none⟩)) := by simp [iaddrA, h0, h1]
theorem iaddrS_eq {c b o n cap : Nat} {k : IntKind} {i : Int} (h0 : 0 ≤ i) (h1 : i < n) : iaddrS c (.slice (some ⟨b, o, none⟩) n cap) (.int k i) = some (.pointer (some ⟨b, o + i.toNat * c, none⟩)) := by simp [iaddrS, h0, h1]
theorem iaddrS_grown {c b o n cap : Nat} {k : IntKind} {i : Int} (h0 : 0 ≤ i) (h1 : i < n) : iaddrS c (.slice (some ⟨b, o, some c⟩) n cap) (.int k i) = some (.pointer (some ⟨b, o + i.toNat * c, none⟩)) := by simp [iaddrS, h0, h1]
theorem index1 {n i : Nat} {k : IntKind} {cs : List Value} (h : i < n) : indexA false 1 n (.agg ⟨cs⟩) (.int k (i : Nat)) = cs[i]? := by
  have h1 : (0 : Int) ≤ (i : Nat) ∧ ((i : Nat) : Int) < n := by omega
  unfold indexA
  simp only [if_pos h1, part?, cond_false, Int.toNat_natCast, Nat.mul_one]
theorem len_sl (a : Option Addr) (n c : Nat) : lenSl (.slice a n c) = some (.int .i64 (n : Nat)) := rfl
theorem len_str (s : ByteArray) : lenStr (.string s) = some (.int .i64 (s.size : Nat)) := rfl
theorem ptrTo_eq (i : Nat) : ptrTo i = .pointer (some ⟨i, 0, none⟩) := rfl
theorem box_agg (c : List Value) : boxN (.agg ⟨c⟩) = some (.cells c none, ptrTo) := rfl
/-! loads and stores -/
/-! loads and stores of what is known -/
def rdOne (x : Option SObj) (o : Nat) : Option Value := match x with | some (.cells c _) => c[o]? | some (.lent c) => c[o]? | _ => none
def rdPart (x : Option SObj) (o n : Nat) : Option Value := match x with | some (.cells c _) => part? true n c o | some (.lent c) => part? true n c o | _ => none
def wrOne (x : Option SObj) (σ : Store) (i o : Nat) (v : Value) : Option (Value × Store) := match x with | some (.cells c g) => if o < c.length then some (junk, σ.put i (some (.cells (c.set o v) g))) else none | _ => none
def wrAll (x : Option SObj) (σ : Store) (i n : Nat) (vs : List Value) : Option (Value × Store) := match x with | some (.cells c g) => if c.length = n then some (junk, σ.put i (some (.cells vs g))) else (bif Nat.ble n c.length then some (junk, σ.put i (some (.cells (splice c 0 vs) g))) else none) | _ => none
theorem rdOne_cells (c : List Value) (g : Option Nat) (o : Nat) : rdOne (some (.cells c g)) o = c[o]? := rfl
theorem rdPart_all {c : List Value} {g : Option Nat} {n : Nat} (h : c.length = n) : rdPart (some (.cells c g)) 0 n = some (.agg ⟨c⟩) := by
  subst h
  have : Nat.ble c.length c.length = true := Nat.ble_eq_true_of_le (Nat.le_refl _)
  simp [rdPart, part?, this]
theorem wrOne_cells {c : List Value} {g : Option Nat} {σ : Store} {i o : Nat} {v : Value} (h : o < c.length) : wrOne (some (.cells c g)) σ i o v = some (junk, σ.put i (some (.cells (c.set o v) g))) := if_pos h
theorem wrAll_cells {c vs : List Value} {g : Option Nat} {σ : Store} {i n : Nat} (h : c.length = n) : wrAll (some (.cells c g)) σ i n vs = some (junk, σ.put i (some (.cells vs g))) := if_pos h
theorem load_at {n i o : Nat} {σ : Store} : loadV false n (.pointer (some ⟨i, o, none⟩)) σ.get = rdOne (σ.get i) o := by
  unfold loadV rdOne
  simp only
  generalize σ.get i = X
  cases X with
  | none => rfl
  | some x => cases x <;> simp [part?]
theorem load_part_at {n i o : Nat} {σ : Store} : loadV true n (.pointer (some ⟨i, o, none⟩)) σ.get = rdPart (σ.get i) o n := by
  unfold loadV rdPart
  simp only
  generalize σ.get i = X
  cases X with
  | none => rfl
  | some x => cases x <;> rfl
theorem store_at {i o : Nat} {σ : Store} {v : Value} (hv : cell1 v = true) : storeV 1 (.pointer (some ⟨i, o, none⟩)) v σ = wrOne (σ.get i) σ i o v := by
  unfold wrOne storeV
  have h1 : asCells 1 v = some [v] := by
    unfold asCells cellsL
    cases v <;> first | rfl | (simp [cell1] at hv; done) | (rename_i x; cases x <;> first | rfl | (simp [cell1] at hv))
  rw [h1]
  simp only
  generalize σ.get i = X
  cases X with
  | none => rfl
  | some x =>
    cases x with
    | cells c g =>
      simp only
      by_cases h : o < c.length
      · rw [if_pos h, Nat.ble_eq_true_of_le (by omega), cond_true, splice_one h]
      · rw [if_neg h]
        cases hb : Nat.ble (o + 1) c.length with
        | false => rfl
        | true => have := Nat.le_of_ble_eq_true hb; omega
    | _ => rfl
theorem st_int {i o : Nat} {σ : Store} {k : IntKind} {n : Int} : storeV 1 (.pointer (some ⟨i, o, none⟩)) (.int k n) σ = wrOne (σ.get i) σ i o (.int k n) := store_at rfl
theorem st_bool {i o : Nat} {σ : Store} {b : Bool} : storeV 1 (.pointer (some ⟨i, o, none⟩)) (.bool b) σ = wrOne (σ.get i) σ i o (.bool b) := store_at rfl
theorem st_str {i o : Nat} {σ : Store} {b : ByteArray} : storeV 1 (.pointer (some ⟨i, o, none⟩)) (.string b) σ = wrOne (σ.get i) σ i o (.string b) := store_at rfl
theorem st_ptr {i o : Nat} {σ : Store} {a : Option Addr} : storeV 1 (.pointer (some ⟨i, o, none⟩)) (.pointer a) σ = wrOne (σ.get i) σ i o (.pointer a) := store_at rfl
theorem st_slice {i o : Nat} {σ : Store} {a : Option Addr} {n c : Nat} : storeV 1 (.pointer (some ⟨i, o, none⟩)) (.slice a n c) σ = wrOne (σ.get i) σ i o (.slice a n c) := store_at rfl
theorem st_map {i o : Nat} {σ : Store} {a : Option Nat} : storeV 1 (.pointer (some ⟨i, o, none⟩)) (.map a) σ = wrOne (σ.get i) σ i o (.map a) := store_at rfl
theorem store_all_at {i n : Nat} {σ : Store} {vs : List Value} (hv : vs.length = n) : storeV n (.pointer (some ⟨i, 0, none⟩)) (.agg ⟨vs⟩) σ = wrAll (σ.get i) σ i n vs := by
  unfold wrAll storeV
  have h1 : asCells n (.agg ⟨vs⟩) = some vs := by simp [asCells, cellsL, hv]
  rw [h1]
  simp only
  generalize σ.get i = X
  cases X with
  | none => rfl
  | some x =>
    cases x with
    | cells c g =>
      simp only
      by_cases h : c.length = n
      · rw [if_pos h, Nat.ble_eq_true_of_le (by omega), cond_true, Am.splice_all _ _ (by omega)]
      · rw [if_neg h, Nat.zero_add]
    | _ => rfl
/-! loops -/
theorem lop_inv {n : Nat} {F : NF n → NF n} (Inv : Nat → List Value → Store → Prop) (hs : ∀ (k : Nat) (xs : List Value) (s : Store) (next : NF n), xs.length = n → Inv k xs s → (∀ xs' s', xs'.length = n → 0 < k → Inv (k - 1) xs' s' → appN n next xs' s') → appN n (F next) xs s) {k : Nat} {xs : List Value} {σ : Store} (hl : xs.length = n) (h0 : Inv k xs σ) : appN n (lop n F) xs σ := by
  rw [lop_app hl]
  refine ⟨k + 1, ?_⟩
  have key : ∀ k xs σ, xs.length = n → Inv k xs σ → rounds (fun next xs σ => appN n (F (lamN n next)) xs σ) (k + 1) xs σ := by
    intro k
    induction k with
    | zero => intro xs σ hl h; exact hs 0 xs σ _ hl h fun _ _ _ h0 => absurd h0 (Nat.lt_irrefl _)
    | succ k ih =>
      intro xs σ hl h
      exact hs (k + 1) xs σ _ hl h fun xs' s' hl' _ hi => (app_lam hl').2 (ih xs' s' hl' hi)
  exact key k xs σ hl h0
theorem lop0 {F : NF 0 → NF 0} (Inv : Nat → Store → Prop) (k : Nat) {σ : Store} (h0 : Inv k  σ) (hs : ∀ (k : Nat)  (s : Store) (next : Store → Prop), Inv k  s → (∀  (s : Store), 0 < k → Inv (k - 1)  s → next  s) → F next  s) : lop 0 F  σ := by
  refine lop_inv (n := 0) (F := F) (fun k xs s => xs = [] ∧ Inv k  s) (fun k xs s next _ h hn => ?_) (k := k) (xs := []) rfl ⟨rfl, h0⟩
  obtain ⟨rfl, h⟩ := h
  exact hs k  s next h fun  s' hk hi => hn [] s' rfl hk ⟨rfl, hi⟩
theorem lop1 {F : NF 1 → NF 1} (Inv : Nat → Value → Store → Prop) (k : Nat) {v0 : Value} {σ : Store} (h0 : Inv k v0 σ) (hs : ∀ (k : Nat) (v0 : Value) (s : Store) (next : Value → Store → Prop), Inv k v0 s → (∀ (v0 : Value) (s : Store), 0 < k → Inv (k - 1) v0 s → next v0 s) → F next v0 s) : lop 1 F v0 σ := by
  refine lop_inv (n := 1) (F := F) (fun k xs s => ∃ v0, xs = [v0] ∧ Inv k v0 s) (fun k xs s next _ h hn => ?_) (k := k) (xs := [v0]) rfl ⟨v0, rfl, h0⟩
  obtain ⟨v0, rfl, h⟩ := h
  exact hs k v0 s next h fun u0 s' hk hi => hn [u0] s' rfl hk ⟨u0, rfl, hi⟩
theorem lop2 {F : NF 2 → NF 2} (Inv : Nat → Value → Value → Store → Prop) (k : Nat) {v0 v1 : Value} {σ : Store} (h0 : Inv k v0 v1 σ) (hs : ∀ (k : Nat) (v0 : Value) (v1 : Value) (s : Store) (next : Value → Value → Store → Prop), Inv k v0 v1 s → (∀ (v0 : Value) (v1 : Value) (s : Store), 0 < k → Inv (k - 1) v0 v1 s → next v0 v1 s) → F next v0 v1 s) : lop 2 F v0 v1 σ := by
  refine lop_inv (n := 2) (F := F) (fun k xs s => ∃ v0 v1, xs = [v0, v1] ∧ Inv k v0 v1 s) (fun k xs s next _ h hn => ?_) (k := k) (xs := [v0, v1]) rfl ⟨v0, v1, rfl, h0⟩
  obtain ⟨v0, v1, rfl, h⟩ := h
  exact hs k v0 v1 s next h fun u0 u1 s' hk hi => hn [u0, u1] s' rfl hk ⟨u0, u1, rfl, hi⟩
/-! stores -/
theorem next_max (σ : Store) (i : Nat) (o : Option SObj) : (σ.put i o).next = max σ.next (i + 1) := by rw [Store.next_put]; split <;> omega
theorem put_put (σ : Store) (i : Nat) (a b : Option SObj) : (σ.put i a).put i b = σ.put i b := by
  refine Store.ext_ (by simp only [next_max]; omega) fun j => ?_
  simp only [Store.get_put]
  split <;> rfl
theorem push_put (σ : Store) (a b : SObj) : (σ.push a).put σ.next (some b) = σ.push b := put_put _ _ _ _
theorem push_put_eq {σ : Store} {a b : SObj} {j : Nat} (h : j = σ.next) : (σ.push a).put j (some b) = σ.push b := by rw [h]; exact push_put _ _ _
theorem get_push_eq {σ : Store} {o : SObj} {j : Nat} (h : j = σ.next) : (σ.push o).get j = some o := by rw [h]; exact Store.get_push_same _ _
theorem push_put_lt {σ : Store} {a : SObj} {i : Nat} {o : Option SObj} (h : i < σ.next) : (σ.push a).put i o = (σ.put i o).push a := by
  have hn : (σ.put i o).next = σ.next := Store.next_put_lt _ _ h
  refine Store.ext_ (by simp only [next_max, Store.next_push, hn]; omega) fun j => ?_
  simp only [Store.get_put, Store.get_push, hn]
  by_cases h1 : j = i
  · subst h1
    rw [if_pos rfl, if_neg (by omega), if_pos rfl]
  · rw [if_neg h1, if_neg h1]
/-- An id is given out that stands for nothing. -/
def _root_.Go.Am.Store.skip (σ : Store) : Store := σ.put σ.next none
theorem skip_next (σ : Store) : σ.skip.next = σ.next + 1 := by unfold Store.skip; rw [next_max]; omega
theorem skip_get (σ : Store) (j : Nat) : σ.skip.get j = σ.get j := by
  unfold Store.skip
  rw [Store.get_put]
  split
  · rename_i h; rw [h, Store.get_next]
  · rfl
theorem push_none {σ : Store} {a : SObj} {j : Nat} (h : j = σ.next) : (σ.push a).put j none = σ.skip := by
  subst h
  exact put_put _ _ _ _
theorem skip_put_lt {σ : Store} {i : Nat} {o : Option SObj} (h : i < σ.next) : σ.skip.put i o = (σ.put i o).skip := by
  have hn : (σ.put i o).next = σ.next := Store.next_put_lt _ _ h
  refine Store.ext_ (by rw [next_max, skip_next, skip_next, hn]; omega) fun j => ?_
  rw [skip_get, Store.get_put, skip_get, Store.get_put]
theorem put_comm {σ : Store} {i j : Nat} {a b : Option SObj} (h : i ≠ j) : (σ.put i a).put j b = (σ.put j b).put i a := by
  refine Store.ext_ (by simp only [next_max]; omega) fun k => ?_
  simp only [Store.get_put]
  by_cases h1 : k = j
  · rw [if_pos h1, if_neg (fun e => h (e.symm.trans h1)), if_pos h1]
  · rw [if_neg h1, if_neg h1]
theorem get_push_ne {σ : Store} {o : SObj} {j : Nat} (h : j < σ.next) : (σ.push o).get j = σ.get j := Store.get_push_lt h
theorem get_put_ne' {σ : Store} {i j : Nat} {o : Option SObj} (h : j ≠ i) : (σ.put i o).get j = σ.get j := Store.get_put_ne _ _ h
/-! blocks of bytes -/
def bc (l : List Int) : List Value := l.map (.int .u8)
@[simp] theorem bc_len (l : List Int) : (bc l).length = l.length := by simp [bc]
theorem bc_set (l : List Int) (i : Nat) (x : Int) : (bc l).set i (.int .u8 x) = bc (l.set i x) := by simp [bc, List.map_set]
theorem bc_scalar (l : List Int) : (bc l).all scalar = true := by simp [bc, List.all_eq_true, scalar]
theorem bc_zero {n : Nat} (_ : 1 < n) : unrle [(n, .int .u8 0)] = bc (List.replicate n 0) := by simp [unrle, bc]
theorem bc_flat0 (n : Nat) : aggOf (buildL (List.replicate n (unrle [(1, .int .u8 0)])) []) = some (.agg ⟨bc (List.replicate n 0)⟩) := by
  have h : unrle [(1, Value.int IntKind.u8 0)] = [Value.int IntKind.u8 0] := rfl
  have h2 : ∀ n, (List.replicate n [Value.int IntKind.u8 0]).flatten = bc (List.replicate n 0) := fun n => by
    induction n with
    | zero => rfl
    | succ n ih => rw [List.replicate_succ, List.flatten_cons, ih]; rfl
  simp [aggOf, buildL, h, h2]
/-- A block of noughts. -/
def zb : List Int := List.replicate 1024 0
theorem zb_len : zb.length = 1024 := List.length_replicate
theorem bc_zb : unrle [(1024, .int .u8 0)] = bc zb := bc_zero (by omega)
theorem bc_z16 : unrle [(16, .int .u8 0)] = bc (List.replicate 16 0) := bc_zero (by omega)
theorem bc_z64 : unrle [(64, .int .u8 0)] = bc (List.replicate 64 0) := bc_zero (by omega)
theorem bc_flat16 : aggOf (buildL (List.replicate 16 (unrle [(1, .int .u8 0)])) []) = some (.agg ⟨bc (List.replicate 16 0)⟩) := bc_flat0 16
theorem bc_flatz : aggOf (buildL (List.replicate 1024 (unrle [(1, .int .u8 0)])) []) = some (.agg ⟨bc zb⟩) := bc_flat0 1024
theorem eqInts_bc : ∀ (n : Nat) (l m : List Int), l.length = n → m.length = n → eqInts .u8 n (bc l) (bc m) = some (decide (l = m))
  | 0, [], [], _, _ => rfl
  | n + 1, a :: l, b :: m, h1, h2 => by
    have ih := eqInts_bc n l m (by simpa using h1) (by simpa using h2)
    have hk : (IntKind.u8 == IntKind.u8 && IntKind.u8 == IntKind.u8) = true := rfl
    simp only [bc, List.map_cons, eqInts, hk, cond_true] at ih ⊢
    rw [ih]
    by_cases h : a = b <;> simp [h]
theorem eqA_bc {n : Nat} (neg : Bool) {l m : List Int} (h1 : l.length = n) (h2 : m.length = n) : eqA (.ints .u8 n) neg (.agg ⟨bc l⟩) (.agg ⟨bc m⟩) = some (.bool (decide (l = m) ^^ neg)) := by
  simp [eqA, eqD, eqInts_bc n l m h1 h2]
theorem s2a_eq {n m k b o : Nat} {g : Option Nat} (h : n ≤ m) : s2a n (.slice (some ⟨b, o, g⟩) m k) = some (.pointer (some ⟨b, o, none⟩)) := by
  simp [s2a, Nat.ble_eq_true_of_le h]
/-! composites -/
theorem buildL_nil (fs : List (List Value)) : buildL fs [] = some fs := rfl
theorem buildL_cons {fs : List (List Value)} {i : Nat} {v : Value} {r : List (Nat × Value)} {z c : List Value} (h : fs[i]? = some z) (hc : asCells z.length v = some c) : buildL fs ((i, v) :: r) = buildL (fs.set i c) r := by
  simp [buildL, h, hc]
def putC (x : Option (List Value)) (fs : List (List Value)) (i : Nat) (v : Value) (r : List (Nat × Value)) : Option (List (List Value)) := match x with | some z => (match asCells z.length v with | some c => buildL (fs.set i c) r | none => none) | none => none
theorem buildL_step (fs : List (List Value)) (i : Nat) (v : Value) (r : List (Nat × Value)) : buildL fs ((i, v) :: r) = putC fs[i]? fs i v r := by
  unfold buildL putC
  cases fs[i]? with
  | none => rfl
  | some z => simp only; cases asCells z.length v <;> rfl
def putD (x : Option (List Value)) (fs : List (List Value)) (i : Nat) (r : List (Nat × Value)) : Option (List (List Value)) := match x with | some c => buildL (fs.set i c) r | none => none
theorem putC_some (z : List Value) (fs : List (List Value)) (i : Nat) (v : Value) (r : List (Nat × Value)) : putC (some z) fs i v r = putD (asCells z.length v) fs i r := by
  show (match asCells z.length v with | some c => buildL (fs.set i c) r | none => none) = putD (asCells z.length v) fs i r
  unfold putD
  generalize asCells z.length v = X
  cases X <;> rfl
theorem putD_some (c : List Value) (fs : List (List Value)) (i : Nat) (r : List (Nat × Value)) : putD (some c) fs i r = buildL (fs.set i c) r := rfl
theorem as_int (k : IntKind) (n : Int) : asCells 1 (.int k n) = some [.int k n] := rfl
theorem as_bool (b : Bool) : asCells 1 (.bool b) = some [.bool b] := rfl
theorem as_str (b : ByteArray) : asCells 1 (.string b) = some [.string b] := rfl
theorem as_ptr (a : Option Addr) : asCells 1 (.pointer a) = some [.pointer a] := rfl
theorem as_slice (a : Option Addr) (n c : Nat) : asCells 1 (.slice a n c) = some [.slice a n c] := rfl
theorem as_map (a : Option Nat) : asCells 1 (.map a) = some [.map a] := rfl
theorem as_agg {n : Nat} {l : List Value} (h : l.length = n) : asCells n (.agg ⟨l⟩) = some l := by simp [asCells, cellsL, h]
theorem aggOf_some (fs : List (List Value)) : aggOf (some fs) = some (.agg ⟨fs.flatten⟩) := rfl
theorem sliceOf_some (n : Nat) (fs : List (List Value)) : sliceOf n (some fs) = some (.cells fs.flatten none, fun i => .slice (some ⟨i, 0, none⟩) n n) := rfl
theorem unrle_len (n : Nat) (v : Value) : (unrle [(n, v)]).length = n := by simp [unrle]
theorem unrle_len2 (n m : Nat) (v w : Value) : (unrle [(n, v), (m, w)]).length = n + m := by simp [unrle]
theorem unrle_len3 (n m k : Nat) (v w u : Value) : (unrle [(n, v), (m, w), (k, u)]).length = n + (m + k) := by simp [unrle]
theorem unrle_1 (v : Value) : unrle [(1, v)] = [v] := rfl
theorem rep_1 (z : List Value) : List.replicate 1 z = [z] := rfl
theorem rep_2 (z : List Value) : List.replicate 2 z = [z, z] := rfl
theorem rep_3 (z : List Value) : List.replicate 3 z = [z, z, z] := rfl
theorem rep_4 (z : List Value) : List.replicate 4 z = [z, z, z, z] := rfl
theorem rep_5 (z : List Value) : List.replicate 5 z = [z, z, z, z, z] := rfl
theorem rep_6 (z : List Value) : List.replicate 6 z = [z, z, z, z, z, z] := rfl
theorem rep_7 (z : List Value) : List.replicate 7 z = [z, z, z, z, z, z, z] := rfl
theorem rep_8 (z : List Value) : List.replicate 8 z = [z, z, z, z, z, z, z, z] := rfl
theorem rep_9 (z : List Value) : List.replicate 9 z = [z, z, z, z, z, z, z, z, z] := rfl
theorem rep_10 (z : List Value) : List.replicate 10 z = [z, z, z, z, z, z, z, z, z, z] := rfl
theorem rep_11 (z : List Value) : List.replicate 11 z = [z, z, z, z, z, z, z, z, z, z, z] := rfl
theorem rep_12 (z : List Value) : List.replicate 12 z = [z, z, z, z, z, z, z, z, z, z, z, z] := rfl
theorem rep_single (n : Nat) (z : Value) : List.replicate n [z] = (List.replicate n z).map fun x => [x] := by simp
theorem buildL_single {l : List Value} {i : Nat} {v : Value} {r : List (Nat × Value)} (hi : i < l.length) (hv : cell1 v = true) : buildL (l.map fun x => [x]) ((i, v) :: r) = buildL ((l.set i v).map fun x => [x]) r := by
  have h1 : asCells 1 v = some [v] := by
    unfold asCells cellsL
    cases v <;> first | rfl | (simp [cell1] at hv; done) | (rename_i x; cases x <;> first | rfl | (simp [cell1] at hv))
  rw [buildL_cons (z := [l[i]]) (c := [v]) (by simp [hi]) h1, List.map_set]
theorem flat_single : ∀ l : List Value, (l.map fun x => [x]).flatten = l
  | [] => rfl
  | x :: l => by simp [flat_single l]
theorem agg_byte (n i : Nat) (x : Int) (hi : i < n) : aggOf (buildL (List.replicate n (unrle [(1, .int .u8 0)])) [(i, .int .u8 x)]) = some (.agg ⟨bc ((List.replicate n 0).set i x)⟩) := by
  rw [unrle_1, rep_single, buildL_single (by simpa using hi) rfl, buildL_nil, aggOf_some, flat_single]
  have : List.replicate n (Value.int IntKind.u8 0) = bc (List.replicate n 0) := by simp [bc]
  rw [this, bc_set]
theorem agg_bytez (i : Nat) (x : Int) (hi : i < 1024) : aggOf (buildL (List.replicate 1024 (unrle [(1, .int .u8 0)])) [(i, .int .u8 x)]) = some (.agg ⟨bc (zb.set i x)⟩) := agg_byte 1024 i x hi
/-! answers without ids -/
/-- The store has what it had. -/
def Keeps (σ σ' : Store) : Prop := σ.next ≤ σ'.next ∧ ∀ j, j < σ.next → σ'.get j = σ.get j
theorem Keeps.refl (σ : Store) : Keeps σ σ := ⟨Nat.le_refl _, fun _ _ => rfl⟩
theorem Keeps.trans {a b c : Store} (h : Keeps a b) (k : Keeps b c) : Keeps a c := ⟨Nat.le_trans h.1 k.1, fun j hj => (k.2 j (Nat.lt_of_lt_of_le hj h.1)).trans (h.2 j hj)⟩
theorem Keeps.push {σ σ' : Store} (h : Keeps σ σ') (o : SObj) : Keeps σ (σ'.push o) := ⟨by rw [Store.next_push]; exact Nat.le_succ_of_le h.1, fun j hj => by rw [Store.get_push_lt (Nat.lt_of_lt_of_le hj h.1)]; exact h.2 j hj⟩
theorem Keeps.put {σ σ' : Store} (h : Keeps σ σ') {i : Nat} (o : Option SObj) (hi : σ.next ≤ i) : Keeps σ (σ'.put i o) := ⟨by rw [Store.next_put]; split <;> have := h.1 <;> omega, fun j hj => by rw [Store.get_put_ne _ _ (by omega)]; exact h.2 j hj⟩
theorem Keeps.skip {σ σ' : Store} (h : Keeps σ σ') : Keeps σ σ'.skip := ⟨by rw [skip_next]; exact Nat.le_succ_of_le h.1, fun j hj => by rw [skip_get]; exact h.2 j hj⟩
theorem Keeps.get {σ σ' : Store} (h : Keeps σ σ') {i : Nat} {o : SObj} (hi : σ.get i = some o) : σ'.get i = some o := by rw [h.2 i (Store.lt_of_get hi), hi]
end Go.Am
end
section
/- The abstract machine, part 32: slices that are read. No program in sight. -/
set_option linter.all false
namespace Go.Am
open Go.RowKit
variable {P : Program} {σ σ' : Store}

def objCells : SObj → Option (List Value)
  | .cells c _ => some c
  | .lent c => some c
  | _ => none
/-- A slice of n elements of sz cells, and its cells. -/
def SlR (σ : Store) (sz : Nat) (v : Value) (n : Nat) (c : List Value) : Prop :=
  c.length = n * sz ∧ ((n = 0 ∧ ∃ k, v = .slice none 0 k) ∨ ∃ i o g k obj d, v = .slice (some ⟨i, o, g⟩) n k ∧ (g = none ∨ g = some sz) ∧ σ.get i = some obj ∧ objCells obj = some d ∧ (d.drop o).take (n * sz) = c)
theorem SlR.len {sz n : Nat} {v : Value} {c : List Value} (h : SlR σ sz v n c) : lenSl v = some (.int .i64 (n : Nat)) := by
  rcases h.2 with ⟨rfl, k, rfl⟩ | ⟨i, o, g, k, obj, d, rfl, _⟩
  · rfl
  · rfl
theorem SlR.at {sz n : Nat} {v : Value} {c : List Value} (h : SlR σ sz v n c) (hs : 0 < sz) {j : Nat} (hj : j < n) :
    ∃ i o, (∀ k : IntKind, iaddrS sz v (.int k (j : Nat)) = some (.pointer (some ⟨i, o, none⟩))) ∧ i < σ.next ∧ rdPart (σ.get i) o sz = some (.agg ⟨(c.drop (j * sz)).take sz⟩) ∧ rdOne (σ.get i) o = c[j * sz]? := by
  rcases h.2 with ⟨rfl, _⟩ | ⟨i, o, g, k, obj, d, rfl, hg, hi, hd, hc⟩
  · omega
  · have hlen := h.1
    have hle : (j + 1) * sz ≤ n * sz := Nat.mul_le_mul_right _ hj
    have e : (j + 1) * sz = j * sz + sz := Nat.succ_mul _ _
    have hcl : ((d.drop o).take (n * sz)).length = n * sz := by rw [hc]; exact hlen
    rw [List.length_take, List.length_drop] at hcl
    refine ⟨i, o + j * sz, fun k' => ?_, Store.lt_of_get hi, ?_, ?_⟩
    · rcases hg with rfl | rfl
      · rw [iaddrS_eq (by omega) (by omega)]; simp
      · rw [iaddrS_grown (by omega) (by omega)]; simp
    · have key : (d.drop (o + j * sz)).take sz = (c.drop (j * sz)).take sz := by
        rw [← hc, List.drop_take, List.take_take, List.drop_drop]
        congr 1
        omega
      have hb : Nat.ble (o + j * sz + sz) d.length = true := Nat.ble_eq_true_of_le (by omega)
      rw [hi]
      cases obj with
      | cells c' g' => cases hd; simp [rdPart, part?, hb, key]
      | lent c' => cases hd; simp [rdPart, part?, hb, key]
      | map _ _ => cases hd
      | iter _ _ _ _ => cases hd
    · rw [hi]
      have key : d[o + j * sz]? = c[j * sz]? := by
        rw [← hc, List.getElem?_take, if_pos (by omega), List.getElem?_drop]
      cases obj with
      | cells c' g' => cases hd; exact key
      | lent c' => cases hd; exact key
      | map _ _ => cases hd
      | iter _ _ _ _ => cases hd
theorem SlR.keeps {sz n : Nat} {v : Value} {c : List Value} (h : SlR σ sz v n c) (hk : ∀ i o, σ.get i = some o → σ'.get i = some o) : SlR σ' sz v n c := by
  refine ⟨h.1, ?_⟩
  rcases h.2 with h0 | ⟨i, o, g, k, obj, d, h1, h2, h3, h4, h5⟩
  · exact .inl h0
  · exact .inr ⟨i, o, g, k, obj, d, h1, h2, hk _ _ h3, h4, h5⟩
theorem SlR.new {sz n k i : Nat} {g g' : Option Nat} {c : List Value} (hg : g = none ∨ g = some sz) (h : σ.get i = some (.cells c g')) (hl : c.length = n * sz) : SlR σ sz (.slice (some ⟨i, 0, g⟩) n k) n c :=
  ⟨hl, .inr ⟨i, 0, g, k, _, c, rfl, hg, h, rfl, by rw [List.drop_zero, ← hl, List.take_length]⟩⟩
theorem SlR.nil {sz k : Nat} : SlR σ sz (.slice none 0 k) 0 [] := ⟨by simp, .inl ⟨rfl, k, rfl⟩⟩
end Go.Am
end
section
/- The abstract machine, part 33: maps over whole numbers and slices that grow, as things that stand in a store. No program in sight. -/
set_option linter.all false
namespace Go.Am
open Go.RowKit
variable {P : Program} {σ σ' : Store}

/-! ## maps -/
def keysE (l : Ents) : List Int := l.map (·.1)
/-- The entries' keys are unlike, and so are their births, all ahead of the clock. -/
def Clk (l : Ents) (ck : Nat) : Prop := (keysE l).Nodup ∧ (l.map (·.2.2)).Nodup ∧ ∀ p ∈ l, p.2.2 < ck
theorem Clk.nil (ck : Nat) : Clk [] ck := ⟨List.nodup_nil, List.nodup_nil, fun p hp => absurd hp List.not_mem_nil⟩
def MapAt (σ : Store) (r : Nat) (f : Int → Option Value) : Prop := ∃ l ck, σ.get r = some (.map (ents l) ck) ∧ Clk l ck ∧ ∀ x, eget l x = f x
theorem MapAt.same {r : Nat} {f : Int → Option Value} (h : MapAt σ r f) (hg : σ'.get r = σ.get r) : MapAt σ' r f := by
  obtain ⟨l, ck, h1, h2, h3⟩ := h
  exact ⟨l, ck, by rw [hg, h1], h2, h3⟩
theorem MapAt.lt {r : Nat} {f : Int → Option Value} (h : MapAt σ r f) : r < σ.next := by
  obtain ⟨l, ck, h1, _⟩ := h
  exact Store.lt_of_get h1
theorem MapAt.new {r : Nat} (h : σ.get r = some (.map [] 0)) : MapAt σ r (fun _ => none) := ⟨[], 0, h, Clk.nil 0, fun _ => rfl⟩
theorem eget_none {l : Ents} {x : Int} : eget l x = none ↔ x ∉ keysE l := by
  induction l with
  | nil => simp [eget, efind, keysE]
  | cons p l ih =>
    rw [eget_cons]
    simp only [keysE, List.map_cons, List.mem_cons, not_or] at ih ⊢
    by_cases h : p.1 = x
    · simp [h]
    · have h' : ¬ x = p.1 := fun e => h e.symm
      simp [h, h', ih]
theorem keys_eset (x : Int) (v : Value) : ∀ l : Ents, keysE (eset l x v) = keysE l
  | [] => rfl
  | p :: l => by
    unfold eset
    by_cases h : p.1 = x
    · rw [if_pos h]; simp [keysE, h]
    · rw [if_neg h]
      have := keys_eset x v l
      simp only [keysE, List.map_cons] at this ⊢
      rw [this]
theorem borns_eset (x : Int) (v : Value) : ∀ l : Ents, (eset l x v).map (·.2.2) = l.map (·.2.2)
  | [] => rfl
  | p :: l => by
    unfold eset
    by_cases h : p.1 = x
    · rw [if_pos h]; simp
    · rw [if_neg h, List.map_cons, List.map_cons, borns_eset x v l]
theorem Clk.eput {l : Ents} {ck : Nat} (h : Clk l ck) (x : Int) (v : Value) : Clk (eput l ck x v).1 (eput l ck x v).2 := by
  obtain ⟨h2, h3, h4⟩ := h
  unfold Am.eput
  cases hf : efind l x 0 with
  | none =>
    have h0 : eget l x = none := by simp [eget, hf]
    refine ⟨?_, ?_, fun p hp => ?_⟩
    · simp only [keysE, List.map_append, List.map_cons, List.map_nil]
      rw [List.nodup_append]
      refine ⟨h2, by simp, fun a ha b hb => ?_⟩
      have : b = x := by simpa using hb
      subst this
      exact fun e => (eget_none.1 h0) (e ▸ ha)
    · simp only [List.map_append, List.map_cons, List.map_nil]
      rw [List.nodup_append]
      refine ⟨h3, by simp, fun a ha b hb => ?_⟩
      have hb : b = ck := by simpa using hb
      obtain ⟨p, hp, rfl⟩ := List.mem_map.1 ha
      have := h4 p hp
      omega
    · rcases List.mem_append.1 hp with hp | hp
      · have := h4 p hp; show p.2.2 < ck + 1; omega
      · have : p = (x, v, ck) := by simpa using hp
        subst this
        show ck < ck + 1; omega
  | some iu =>
    refine ⟨by rw [keys_eset]; exact h2, by rw [borns_eset]; exact h3, fun p hp => ?_⟩
    have hb : p.2.2 ∈ (eset l x v).map (·.2.2) := List.mem_map.2 ⟨p, hp, rfl⟩
    rw [borns_eset] at hb
    obtain ⟨q, hq, e⟩ := List.mem_map.1 hb
    rw [← e]; exact h4 q hq
theorem Clk.erase {l : Ents} {ck : Nat} (h : Clk l ck) (i : Nat) : Clk (l.eraseIdx i) ck := by
  have hs : (l.eraseIdx i).Sublist l := List.eraseIdx_sublist _ _
  exact ⟨h.1.sublist (hs.map _), h.2.1.sublist (hs.map _), fun p hp => h.2.2 p (hs.subset hp)⟩
theorem MapAt.upd {r : Nat} {f : Int → Option Value} (h : MapAt σ r f) (x : Int) (v : Value) : ∃ o, updH (.int .i64) (.map (some r)) (.int .i64 x) v σ = some (junk, σ.put r (some o)) ∧ MapAt (σ.put r (some o)) r (fun y => if y = x then some v else f y) := by
  obtain ⟨l, ck, h1, h2, h3⟩ := h
  refine ⟨.map (ents (eput l ck x v).1) (eput l ck x v).2, ?_, _, _, Store.get_put_same _ _ _, ?_, fun y => ?_⟩
  · simp only [updH, h1, findNow_ents]
    cases hf : efind l x 0 with
    | none => simp [eput, hf, ents]
    | some iu =>
      obtain ⟨i, u⟩ := iu
      obtain ⟨_, h4⟩ := eset_modify x v l 0 i u hf
      simp only [Nat.sub_zero] at h4
      simp [eput, hf, h4]
  · exact h2.eput x v
  · rw [eget_eput, h3]
theorem entsOf_map {r : Nat} {l : Ents} {ck : Nat} (h : σ.get r = some (.map (ents l) ck)) : entsOf (.map (some r)) σ.get = some (ents l) := by simp [entsOf, h]
theorem MapAt.look {r : Nat} {f : Int → Option Value} (h : MapAt σ r f) (z : Value) (x : Int) : lookupH (.int .i64) z (.map (some r)) (.int .i64 x) true σ.get = some (match f x with | some v => .tuple #[v, .bool true] | none => .tuple #[z, .bool false]) := by
  obtain ⟨l, ck, h1, h2, h3⟩ := h
  simp only [lookupH, entsOf_map h1, findNow_ents, ← h3 x, eget]
  cases efind l x 0 <;> rfl
theorem MapAt.look1 {r : Nat} {f : Int → Option Value} (h : MapAt σ r f) (z : Value) (x : Int) : lookupH (.int .i64) z (.map (some r)) (.int .i64 x) false σ.get = some ((f x).getD z) := by
  obtain ⟨l, ck, h1, h2, h3⟩ := h
  simp only [lookupH, entsOf_map h1, findNow_ents, ← h3 x, eget]
  cases efind l x 0 <;> rfl
theorem erase_ents {x : Int} : ∀ (l : Ents) (i j : Nat) (u : Value), efind l x i = some (j, u) → i ≤ j ∧ (ents l).eraseIdx (j - i) = ents (l.eraseIdx (j - i)) ∧ ((keysE l).Nodup → ∀ y, eget (l.eraseIdx (j - i)) y = if y = x then none else eget l y)
  | [], i, j, u, h => by cases h
  | p :: l, i, j, u, h => by
    unfold efind at h
    by_cases hp : p.1 = x
    · rw [if_pos hp] at h
      cases h
      refine ⟨Nat.le_refl _, by simp [ents], fun hn y => ?_⟩
      simp only [Nat.sub_self, List.eraseIdx_cons_zero]
      simp only [keysE, List.map_cons, List.nodup_cons] at hn
      rw [eget_cons]
      by_cases hy : y = x
      · subst hy
        rw [if_pos rfl]
        exact eget_none.2 (by rw [← hp]; exact hn.1)
      · rw [if_neg hy, if_neg (by rw [hp]; exact fun e => hy e.symm)]
    · rw [if_neg hp] at h
      obtain ⟨h1, h2, h3⟩ := erase_ents l (i + 1) j u h
      have e : j - i = (j - (i + 1)) + 1 := by omega
      refine ⟨by omega, ?_, fun hn y => ?_⟩
      · rw [e]
        simp only [ents, List.map_cons, List.eraseIdx_cons_succ] at h2 ⊢
        rw [h2]
      · rw [e, List.eraseIdx_cons_succ, eget_cons, eget_cons]
        simp only [keysE, List.map_cons, List.nodup_cons] at hn
        rw [h3 hn.2 y]
        by_cases hy : y = x
        · subst hy; simp [hp]
        · simp [hy]
theorem MapAt.del {r : Nat} {f : Int → Option Value} (h : MapAt σ r f) (x : Int) : ∃ o, delH (.int .i64) (.map (some r)) (.int .i64 x) σ = some (junk, σ.put r (some o)) ∧ MapAt (σ.put r (some o)) r (fun y => if y = x then none else f y) := by
  obtain ⟨l, ck, h1, h2, h3⟩ := h
  cases hf : efind l x 0 with
  | none =>
    refine ⟨.map (ents l) ck, by simp only [delH, h1, findNow_ents, hf], l, ck, Store.get_put_same _ _ _, h2, fun y => ?_⟩
    by_cases hy : y = x
    · subst hy; simp [eget, hf]
    · simp [hy, h3]
  | some iu =>
    obtain ⟨i, u⟩ := iu
    obtain ⟨_, h4, h5⟩ := erase_ents l 0 i u hf
    rw [Nat.sub_zero] at h4 h5
    refine ⟨.map (ents (l.eraseIdx i)) ck, by simp only [delH, h1, findNow_ents, hf, h4], _, ck, Store.get_put_same _ _ _, ?_, fun y => ?_⟩
    · exact h2.erase i
    · rw [h5 h2.1, h3]
theorem MapAt.clr {r : Nat} {f : Int → Option Value} (h : MapAt σ r f) : ∃ o, clearV (.map (some r)) σ = some (junk, σ.put r (some o)) ∧ MapAt (σ.put r (some o)) r (fun _ => none) := by
  obtain ⟨l, ck, h1, h2, h3⟩ := h
  exact ⟨.map [] ck, by simp only [clearV, h1], [], ck, Store.get_put_same _ _ _, Clk.nil ck, fun _ => rfl⟩

/-! ## slices that grow -/
def idsV : Value → List Nat
  | .slice (some a) _ _ => [a.block]
  | _ => []
/-- A slice that its owner alone has, made by append: so many elements of sz cells. -/
def SlG (σ : Store) (sz : Nat) (v : Value) (n : Nat) (c : List Value) : Prop :=
  c.length = n * sz ∧ ((n = 0 ∧ v = .slice none 0 0) ∨ ∃ i, v = .slice (some ⟨i, 0, some sz⟩) n n ∧ σ.get i = some (.cells c (some sz)) ∧ 0 < n)
theorem SlG.nil {sz : Nat} : SlG σ sz (.slice none 0 0) 0 [] := ⟨by simp, .inl ⟨rfl, rfl⟩⟩
theorem SlG.same {sz n : Nat} {v : Value} {c : List Value} (h : SlG σ sz v n c) (hg : ∀ i ∈ idsV v, σ'.get i = σ.get i) : SlG σ' sz v n c := by
  refine ⟨h.1, ?_⟩
  rcases h.2 with h0 | ⟨i, rfl, h2, h3⟩
  · exact .inl h0
  · exact .inr ⟨i, rfl, by rw [hg i (by simp [idsV]), h2], h3⟩
theorem SlG.lt {sz n : Nat} {v : Value} {c : List Value} (h : SlG σ sz v n c) : ∀ i ∈ idsV v, i < σ.next := by
  rcases h.2 with ⟨_, rfl⟩ | ⟨i, rfl, h2, h3⟩
  · intro i hi; simp [idsV] at hi
  · intro j hj
    have : j = i := by simpa [idsV] using hj
    rw [this]; exact Store.lt_of_get h2
theorem SlG.r {sz n : Nat} {v : Value} {c : List Value} (h : SlG σ sz v n c) : SlR σ sz v n c := by
  refine ⟨h.1, ?_⟩
  rcases h.2 with ⟨h0, h1⟩ | ⟨i, rfl, h2, h3⟩
  · exact .inl ⟨h0, 0, h1⟩
  · exact .inr ⟨i, 0, some sz, n, _, c, rfl, .inr rfl, h2, rfl, by rw [List.drop_zero, ← h.1, List.take_length]⟩
theorem SlG.len {sz n : Nat} {v : Value} {c : List Value} (h : SlG σ sz v n c) : lenSl v = some (.int .i64 (n : Nat)) := h.r.len
theorem SlG.app {sz by_ n j k : Nat} {g gj : Option Nat} {v : Value} {c news : List Value} (h : SlG σ sz v n c) (hj : σ.get j = some (.cells news g)) (hl : news.length = sz) (hb : (n + 1) * by_ ≤ 140737488355328) (hn : n + 1 ≤ 9223372036854775807) (hs : 0 < sz) :
    ∃ s', appendV sz by_ v (.slice (some ⟨j, 0, gj⟩) 1 k) σ = some (.slice (some ⟨σ.next, 0, some sz⟩) (n + 1) (n + 1), s') ∧ SlG s' sz (.slice (some ⟨σ.next, 0, some sz⟩) (n + 1) (n + 1)) (n + 1) (c ++ news) ∧ s'.next = σ.next + 1 ∧ ∀ i, i < σ.next → i ∉ idsV v → s'.get i = σ.get i := by
  have hlen := h.1
  rcases h.2 with ⟨rfl, rfl⟩ | ⟨i, rfl, h2, h3⟩
  · have hc : c = [] := List.eq_nil_of_length_eq_zero (by rw [hlen]; simp)
    subst hc
    refine ⟨_, append_nil (m := 0) hj (by simp [hl]) (by simpa using hb) (by omega), ⟨by simp [hl], .inr ⟨_, rfl, ?_, by omega⟩⟩, Store.next_push _ _, fun i hi _ => Store.get_push_lt hi⟩
    rw [Store.get_push_same]; rfl
  · have hi := Store.lt_of_get h2
    have hnx : (σ.put i none).next = σ.next := Store.next_put_lt _ _ hi
    have e : (σ.put i none).push (.cells (c ++ news) (some sz)) = (σ.put i none).put σ.next (some (.cells (c ++ news) (some sz))) := by unfold Store.push; rw [hnx]
    refine ⟨_, append_full (m := 0) h2 hlen hj (by simp [hl]) hb hn, ⟨by simp [hlen, hl, Nat.succ_mul], .inr ⟨_, rfl, ?_, by omega⟩⟩, ?_, fun x hx hxi => ?_⟩
    · rw [e, Store.get_put_same]
    · rw [Store.next_push, hnx]
    · have hne : x ≠ i := by simpa [idsV] using hxi
      rw [Store.get_push_lt (by omega), Store.get_put_ne _ _ hne]

/-! ## what a call may change -/
/-- Of what was there only F is changed; F' is what it has become. -/
structure Upd (F : List Nat) (σ σ' : Store) (F' : List Nat) : Prop where
  next : σ.next ≤ σ'.next
  ids : ∀ j ∈ F', j < σ'.next ∧ (j ∈ F ∨ σ.next ≤ j)
  same : ∀ j, j < σ.next → j ∉ F → σ'.get j = σ.get j
theorem Upd.trans {F F' F'' : List Nat} {a b c : Store} (h : Upd F a b F') (k : Upd F' b c F'') : Upd F a c F'' where
  next := Nat.le_trans h.next k.next
  ids j hj := by
    obtain ⟨h1, h2⟩ := k.ids j hj
    refine ⟨h1, ?_⟩
    rcases h2 with h2 | h2
    · exact (h.ids j h2).2
    · exact .inr (Nat.le_trans h.next h2)
  same j hj hn := by
    have h1 := h.same j hj hn
    by_cases hF : j ∈ F'
    · rcases (h.ids j hF).2 with h2 | h2
      · exact absurd h2 hn
      · omega
    · rw [k.same j (Nat.lt_of_lt_of_le hj h.next) hF, h1]
theorem Upd.refl {F : List Nat} {σ : Store} (h : ∀ j ∈ F, j < σ.next) : Upd F σ σ F := ⟨Nat.le_refl _, fun j hj => ⟨h j hj, .inl hj⟩, fun _ _ _ => rfl⟩
theorem Keeps.upd {σ σ' : Store} (h : Keeps σ σ') : Upd [] σ σ' [] := ⟨h.1, fun j hj => absurd hj (List.not_mem_nil), fun j hj _ => h.2 j hj⟩
end Go.Am
end
section
/- The abstract machine, part 34: a function that puts one call off to its end, at its beginning. No program in sight. -/
set_option linter.all false
namespace Go.Am
open Go.RowKit
variable {P : Program}

/-- What is put off: the code ahead, the code behind, the closure. -/
structure Off where
  i : Nat
  r0 : Code
  rest : Code
  o1 : Oper
  o2 : Oper
  g : Nat
  t : Nat
  first : Array Operand
  caps : Array Operand
/-! the same, printed -/
end Go.Am
end
