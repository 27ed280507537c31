/- The abstract machine, part 30: the same with frames that are trees. No program in sight. -/
import Derived.Test.YtfcefiabbdakgaaAm29
set_option linter.all false
namespace Go.Am
open Go.RowKit
variable {P : Program}

inductive Tr where
  | leaf
  | node (v : Value) (l r : Tr)
namespace Tr
def get : Tr → Nat → Value
  | .leaf, _ => junk
  | .node v l r, n => match n with
    | 0 => v
    | m + 1 => bif Nat.beq (Nat.mod m 2) 0 then l.get (Nat.div m 2) else r.get (Nat.div m 2)
def put : Nat → Tr → Nat → Value → Tr
  | 0, t, _, _ => t
  | f + 1, .leaf, n, o => match n with
    | 0 => .node o .leaf .leaf
    | m + 1 => bif Nat.beq (Nat.mod m 2) 0 then .node junk (put f .leaf (Nat.div m 2) o) .leaf else .node junk .leaf (put f .leaf (Nat.div m 2) o)
  | f + 1, .node v l r, n, o => match n with
    | 0 => .node o l r
    | m + 1 => bif Nat.beq (Nat.mod m 2) 0 then .node v (put f l (Nat.div m 2) o) r else .node v l (put f r (Nat.div m 2) o)
theorem get_leaf (n : Nat) : get .leaf n = junk := by unfold get; rfl
theorem get_zero (v : Value) (l r : Tr) : get (.node v l r) 0 = v := by unfold get; rfl
theorem get_succ (v : Value) (l r : Tr) (m : Nat) : get (.node v l r) (m + 1) = bif Nat.beq (Nat.mod m 2) 0 then l.get (Nat.div m 2) else r.get (Nat.div m 2) := by conv => lhs; unfold get
theorem get_put : ∀ (f : Nat) (t : Tr) (n : Nat) (o : Value) (k : Nat), n < f → get (put f t n o) k = if k = n then o else get t k
  | 0, t, n, o, k, h => by omega
  | f + 1, .leaf, n, o, k, h => by
    cases n with
    | zero =>
      simp only [put]
      cases k with
      | zero => simp [get_zero]
      | succ k => rw [get_succ]; simp [get_leaf]
    | succ m =>
      have hd : Nat.div m 2 < f := by have : Nat.div m 2 = m / 2 := rfl; omega
      simp only [put]
      cases k with
      | zero => cases hm : Nat.beq (Nat.mod m 2) 0 <;> simp [get_zero, get_leaf]
      | succ k =>
        have ih := get_put f .leaf (Nat.div m 2) o (Nat.div k 2) hd
        have e1 : Nat.div m 2 = m / 2 := rfl
        have e2 : Nat.div k 2 = k / 2 := rfl
        have e3 : Nat.mod m 2 = m % 2 := rfl
        have e4 : Nat.mod k 2 = k % 2 := rfl
        cases hm : Nat.beq (Nat.mod m 2) 0 <;> cases hk : Nat.beq (Nat.mod k 2) 0 <;> simp only [cond_true, cond_false, get_succ, hk, ih, get_leaf]
        all_goals (first | rw [Nat.beq_eq] at hm | skip)
        all_goals (first | rw [Nat.beq_eq] at hk | skip)
        all_goals (try (have hm := Nat.ne_of_beq_eq_false hm))
        all_goals (try (have hk := Nat.ne_of_beq_eq_false hk))
        all_goals (simp only [e1, e2, e3, e4] at *)
        all_goals (split <;> (try rfl) <;> (try split) <;> (try rfl) <;> omega)
  | f + 1, .node v l r, n, o, k, h => by
    cases n with
    | zero =>
      simp only [put]
      cases k with
      | zero => simp [get_zero]
      | succ k => rw [get_succ, get_succ]; simp
    | succ m =>
      have hd : Nat.div m 2 < f := by have : Nat.div m 2 = m / 2 := rfl; omega
      simp only [put]
      cases k with
      | zero => cases hm : Nat.beq (Nat.mod m 2) 0 <;> simp [get_zero]
      | succ k =>
        have ihl := get_put f l (Nat.div m 2) o (Nat.div k 2) hd
        have ihr := get_put f r (Nat.div m 2) o (Nat.div k 2) hd
        have e1 : Nat.div m 2 = m / 2 := rfl
        have e2 : Nat.div k 2 = k / 2 := rfl
        have e3 : Nat.mod m 2 = m % 2 := rfl
        have e4 : Nat.mod k 2 = k % 2 := rfl
        cases hm : Nat.beq (Nat.mod m 2) 0 <;> cases hk : Nat.beq (Nat.mod k 2) 0 <;> simp only [cond_true, cond_false, get_succ, hk, ihl, ihr]
        all_goals (first | rw [Nat.beq_eq] at hm | skip)
        all_goals (first | rw [Nat.beq_eq] at hk | skip)
        all_goals (try (have hm := Nat.ne_of_beq_eq_false hm))
        all_goals (try (have hk := Nat.ne_of_beq_eq_false hk))
        all_goals (simp only [e1, e2, e3, e4] at *)
        all_goals (split <;> (try rfl) <;> (try split) <;> (try rfl) <;> omega)
end Tr
def tput (a : Tr) (dst : Option Nat) (v : Value) : Tr := match dst with | some d => Tr.put (d + 1) a d v | none => a
def tev (a : Tr) : Operand → Value
  | .tmp t => a.get t
  | .const v => v
  | .func f => .func (.func f) #[] #[]
  | .global _ => junk
def FR (a : List Value) (tr : Tr) : Prop := ∀ t, aget a t = tr.get t
theorem FR.ev {a : List Value} {tr : Tr} (h : FR a tr) : aev a = tev tr := by
  funext x
  cases x with
  | tmp t => exact h t
  | _ => rfl
theorem FR.g {a : List Value} {tr : Tr} (h : FR a tr) : aget a = tr.get := funext h
theorem FR.put {a : List Value} {tr : Tr} (h : FR a tr) {dst : Option Nat} {v : Value} (hd : ∀ d, dst = some d → d < a.length) : FR (aput a dst v) (tput tr dst v) := by
  cases dst with
  | none => exact h
  | some d =>
    intro t
    have hd := hd d rfl
    simp only [aput, tput]
    rw [Tr.get_put _ _ _ _ _ (by omega), ← h t]
    unfold aget
    simp only [List.getD_eq_getElem?_getD, List.getElem?_set]
    by_cases e : t = d
    · subst e; simp [hd]
    · have e' : ¬ d = t := fun x => e x.symm
      simp [e, e']
def seqT (P : Program) (ops : Array Oper) : List Oper → (Tr → Store → Prop) → Tr → Store → Prop
  | [], K, a, σ => K a σ
  | o :: rest, K, a, σ => oneE P ops (tev a) a.get o σ fun v σ' => seqT P ops rest K (tput a o.dst v) σ'
def drawT (P : Program) (ops : Array Oper) (b : Array Nat) : List Nat → (Tr → Store → Prop) → Tr → List Store → Store → Fl → Prop
  | [], K, a, _, cur, _ => K a cur
  | i :: rest, K, a, past, cur, fl =>
    match ops[i]? with
    | none => False
    | some o =>
      bif isEff o.op then oneE P ops (tev a) a.get o cur fun v s => recheckH past.length s fl (drawT P ops b rest K (tput a o.dst v) (past ++ [s]) s fl)
      else
        match actH P o (tev a) with
        | .rd f =>
          (fun (nofl : Bool) =>
            match gslot ops o with
            | some none => vop (f (past.getLastD cur).get) cur fun v _ => checkAllH f v ((past.drop (lowOf ops b i)).dropLast) (drawT P ops b rest K (tput a o.dst v) past cur (bif nofl then fl else (highOf ops b i, f, v) :: fl))
            | some (some (t, want)) => gop (a.get t) want cur (fun K => vop (f (past.getLastD cur).get) cur K) fun v _ => checkAllH (gsel (a.get t) want f) v ((past.drop (lowOf ops b i)).dropLast) (drawT P ops b rest K (tput a o.dst v) past cur (bif nofl then fl else (highOf ops b i, gsel (a.get t) want f, v) :: fl))
            | none => False) (Nat.blt (highOf ops b i + 1) past.length || Nat.beq (highOf ops b i + 1) past.length)
        | .eff _ => False
        | .call _ => False
        | .fail => False
        | _ => oneE P ops (tev a) a.get o cur fun v s => drawT P ops b rest K (tput a o.dst v) past s fl
def Kl (n : Nat) (K : Tr → Store → Prop) (a : List Value) (σ : Store) : Prop := a.length = n ∧ ∃ tr, FR a tr ∧ K tr σ
theorem seqT_sim {ops : Array Oper} : ∀ {l : List Oper} {K : Tr → Store → Prop} {a : List Value} {tr : Tr} {σ : Store}, (∀ o ∈ l, ∀ d, o.dst = some d → d < a.length) → FR a tr → seqT P ops l K tr σ → seqH P ops l (Kl a.length K) a σ
  | [], K, a, tr, σ, _, h, hh => ⟨rfl, tr, h, hh⟩
  | o :: rest, K, a, tr, σ, hd, h, hh => by
    unfold seqT at hh
    rw [← h.ev, ← h.g] at hh
    unfold seqH
    refine oneH_mono (fun v s hk => ?_) hh
    have hl : (aput a o.dst v).length = a.length := by unfold aput; split <;> simp
    have := seqT_sim (a := aput a o.dst v) (fun o' ho' d hd' => by rw [hl]; exact hd o' (List.mem_cons_of_mem _ ho') d hd') (h.put (hd o List.mem_cons_self)) hk
    rwa [hl] at this
theorem drawT_sim {ops : Array Oper} {b : Array Nat} : ∀ {l : List Nat} {K : Tr → Store → Prop} {a : List Value} {tr : Tr} {past : List Store} {cur : Store} {fl : Fl}, (∀ (i : Nat) (o : Oper), ops[i]? = some o → ∀ d, o.dst = some d → d < a.length) → FR a tr → drawT P ops b l K tr past cur fl → drawH P ops b l (Kl a.length K) a past cur fl
  | [], K, a, tr, past, cur, fl, _, h, hh => ⟨rfl, tr, h, hh⟩
  | i :: rest, K, a, tr, past, cur, fl, hd, h, hh => by
    unfold drawT at hh
    unfold drawH
    cases ho : ops[i]? with
    | none => rw [ho] at hh; exact hh
    | some o =>
      rw [ho] at hh
      simp only at hh ⊢
      rw [← h.ev, ← h.g] at hh
      have next : ∀ {v : Value} {past : List Store} {s : Store} {fl : Fl}, drawT P ops b rest K (tput tr o.dst v) past s fl → drawH P ops b rest (Kl a.length K) (aput a o.dst v) past s fl := fun {v past s fl} hk => by
        have hl : (aput a o.dst v).length = a.length := by unfold aput; split <;> simp
        have := drawT_sim (a := aput a o.dst v) (fun i' o' ho' d hd' => by rw [hl]; exact hd i' o' ho' d hd') (h.put (hd i o ho)) hk
        rwa [hl] at this
      cases he : isEff o.op with
      | true =>
        rw [he] at hh
        exact oneH_mono (fun v s hk => recheckH_mk hk next) hh
      | false =>
        rw [he] at hh
        simp only [cond_false] at hh ⊢
        cases hA : actH P o (aev a) with
        | rd f =>
          rw [hA] at hh
          simp only at hh ⊢
          cases hgs : gslot ops o with
          | none => rw [hgs] at hh; exact hh
          | some gs =>
            rw [hgs] at hh
            cases gs with
            | none =>
              simp only [vop] at hh ⊢
              split at hh
              · exact checkAllH_mk hh next
              · exact hh
            | some tw =>
              obtain ⟨t, want⟩ := tw
              simp only at hh ⊢
              rw [gop_eq] at hh ⊢
              cases hgv : gv (aget a t) want with
              | none => rw [hgv] at hh; exact hh
              | some c =>
                rw [hgv] at hh
                cases c with
                | true =>
                  simp only [vop] at hh ⊢
                  split at hh
                  · exact checkAllH_mk hh next
                  · exact hh
                | false => exact checkAllH_mk hh next
        | eff f => rw [hA] at hh; exact hh
        | call y => rw [hA] at hh; exact hh
        | fail => rw [hA] at hh; exact hh
        | mv v => rw [hA] at hh; exact oneH_mono (fun v s hk => next hk) hh
        | val y => rw [hA] at hh; exact oneH_mono (fun v s hk => next hk) hh
        | new y => rw [hA] at hh; exact oneH_mono (fun v s hk => next hk) hh
def forgetT (a : Tr) : List Nat → Tr
  | [] => a
  | t :: ts => forgetT (Tr.put (t + 1) a t junk) ts
def setAllT (a : Tr) : List Nat → List Value → Tr
  | [], _ => a
  | t :: ts, vs => setAllT (Tr.put (t + 1) a t (vs.headD junk)) ts vs.tail
def rejoinT (a : Tr) (c : Code) (L : List Nat) (xs : List Value) : Tr := setAllT (forgetT a (defsC c)) L xs
theorem forgetT_get : ∀ {ds : List Nat} {a : Tr} {t : Nat}, (forgetT a ds).get t = if t ∈ ds then junk else a.get t
  | [], a, t => by simp [forgetT]
  | d :: ds, a, t => by
    unfold forgetT
    rw [forgetT_get, Tr.get_put _ _ _ _ _ (by omega)]
    by_cases h : t ∈ ds
    · simp [h]
    · by_cases h2 : t = d <;> simp [h, h2]
theorem setAll_fr : ∀ {L : List Nat} {a : List Value} {tr : Tr} {xs : List Value}, (∀ t ∈ L, t < a.length) → FR a tr → FR (setAll a L xs) (setAllT tr L xs)
  | [], a, tr, xs, _, h => h
  | t :: L, a, tr, xs, hd, h => by
    show FR (setAll (a.set t (xs.headD junk)) L xs.tail) (setAllT (Tr.put (t + 1) tr t (xs.headD junk)) L xs.tail)
    exact setAll_fr (fun t' ht' => by rw [List.length_set]; exact hd t' (List.mem_cons_of_mem _ ht')) (FR.put h (dst := some t) (fun d hd' => by cases hd'; exact hd _ List.mem_cons_self))
theorem rejoin_fr {c : Code} {a : List Value} {tr : Tr} {L : List Nat} {xs : List Value} (hL : ∀ t ∈ L, t < a.length) (h : FR a tr) : FR (rejoin a c L xs) (rejoinT tr c L xs) := by
  unfold rejoin rejoinT
  refine setAll_fr (by rw [keepM_len]; exact hL) fun t => ?_
  rw [forgetT_get, ← h t]
  unfold aget
  rw [List.getD_eq_getElem?_getD, List.getD_eq_getElem?_getD]
  cases hg : (keepM (maskL (defsC c) 0) 0 a)[t]? with
  | none =>
    have : a[t]? = none := by
      rw [List.getElem?_eq_none_iff, keepM_len] at hg
      exact List.getElem?_eq_none hg
    simp [this]
  | some v =>
    by_cases ht : t ∈ defsC c
    · rw [if_pos ht]
      rcases keepM_get _ _ _ _ _ hg with rfl | ⟨h1, h2⟩
      · rfl
      · rw [Nat.zero_add, bit_maskL] at h1; simp [ht] at h1
    · rw [if_neg ht, keepM_not _ _ _ _ (by rw [Nat.zero_add, bit_maskL, bit_zero]; simp [ht])] at *
      rw [hg]
def codeT (P : Program) : Code → Nat → Lv → (Out → Tr → Store → Prop) → Tr → Store → Prop
  | .skip, _, _, K, a, σ => K .normal a σ
  | .label _, _, _, K, a, σ => K .normal a σ
  | .region _ ops false, _, _, K, a, σ => seqT P ops ops.toList (fun a σ => K .normal a σ) a σ
  | .region _ ops true, _, _, K, a, σ => (fun b => drawT P ops b (canonF ops b) (fun a σ => K .normal a σ) a [σ] σ []) (CheckFast.beforeF ops)
  | .seq x y, D, U, K, a, σ =>
    bif Nat.ble (norms x) 1 then codeT P x D (usesC y U) (fun e a σ => match e with | .normal => codeT P y (maskL (defsC x) D) U K a σ | e => K e a σ) a σ
    else (fun L => jop L.length (fun K2 => codeT P x D (usesC y U) (fun e a' σ' => match e with | .normal => appN L.length K2 (L.map a'.get) σ' | e => K e a' σ') a σ)
      (lamN L.length fun xs σ' => codeT P y (maskL (defsC x) D) U K (rejoinT a x L xs) σ')) (liveJ x (usesC y U))
  | .cond c x y, D, U, K, a, σ => condH (tev a c) (codeT P x D U K a σ) (codeT P y D U K a σ)
  | .block id c, D, U, K, a, σ =>
    bif Nat.ble (norms c + exitsTo id c) 1 then codeT P c D (enterU id U) (fun e a σ => match e with | .exit j => (bif j == id then K .normal a σ else K (.exit j) a σ) | e => K e a σ) a σ
    else (fun L => jop L.length (fun K2 => codeT P c D (enterU id U) (fun e a' σ' => match e with | .exit j => (bif j == id then appN L.length K2 (L.map a'.get) σ' else K (.exit j) a' σ') | .normal => appN L.length K2 (L.map a'.get) σ' | .ret => K .ret a' σ') a σ)
      (lamN L.length fun xs σ' => K .normal (rejoinT a c L xs) σ')) (liveJ c U)
  | .loop c, D, U, K, a, σ =>
    (fun U' => (fun L => appN L.length (lop L.length fun next => lamN L.length fun xs σ => codeT P c D U' (fun e a' σ' => match e with | .normal => appN L.length next (L.map a'.get) σ' | e => K e a' σ') (rejoinT a c L xs) σ) (L.map a.get) σ) (liveL c D U')) (loopU c U)
  | .exit id, _, _, K, a, σ => K (.exit id) a σ
  | .ret, _, _, K, a, σ => K .ret a σ
  | _, _, _, _, _, _ => False
def Ko (n : Nat) (K : Out → Tr → Store → Prop) (e : Out) (a : List Value) (σ : Store) : Prop := a.length = n ∧ ∃ tr, FR a tr ∧ K e tr σ
theorem map_fr {a : List Value} {tr : Tr} (h : FR a tr) (L : List Nat) : L.map (aget a) = L.map tr.get := by rw [h.g]
theorem rejoin_len {c : Code} {a : List Value} {L : List Nat} {xs : List Value} : (rejoin a c L xs).length = a.length := by unfold rejoin; rw [setAll_len, keepM_len]
theorem codeT_sim : ∀ {c : Code} {D : Nat} {U : Lv} {K : Out → Tr → Store → Prop} {a : List Value} {tr : Tr} {σ : Store}, (∀ d ∈ defsC c, d < a.length) → FR a tr → codeT P c D U K tr σ → codeH P c D U (Ko a.length K) a σ := by
  intro c
  induction c with
  | skip => intro D U K a tr σ _ h hh; exact ⟨rfl, tr, h, hh⟩
  | label l => intro D U K a tr σ _ h hh; exact ⟨rfl, tr, h, hh⟩
  | exit id => intro D U K a tr σ _ h hh; exact ⟨rfl, tr, h, hh⟩
  | ret => intro D U K a tr σ _ h hh; exact ⟨rfl, tr, h, hh⟩
  | region id ops d =>
    intro D U K a tr σ hd h hh
    cases d with
    | false => exact seqT_sim (fun o ho d hd' => hd d (List.mem_filterMap.2 ⟨o, ho, hd'⟩)) h hh
    | true => exact drawT_sim (fun i o ho d hd' => hd d (List.mem_filterMap.2 ⟨o, by rw [← Array.mem_def]; exact Array.mem_of_getElem? ho, hd'⟩)) h hh
  | seq x y ihx ihy =>
    intro D U K a tr σ hd h hh
    have hdx : ∀ d ∈ defsC x, d < a.length := fun d hdx => hd d (by simp [defsC, hdx])
    have hdy : ∀ d ∈ defsC y, d < a.length := fun d hdy => hd d (by simp [defsC, hdy])
    unfold codeT at hh
    unfold codeH
    cases hb : Nat.ble (norms x) 1 with
    | true =>
      rw [hb] at hh
      refine codeH_mono (fun e a' s hk => ?_) (ihx hdx h hh)
      obtain ⟨hl, tr', h', hk⟩ := hk
      cases e with
      | normal => have := ihy (by rw [hl]; exact hdy) h' hk; rwa [hl] at this
      | exit j => exact ⟨hl, tr', h', hk⟩
      | ret => exact ⟨hl, tr', h', hk⟩
    | false =>
      rw [hb] at hh
      simp only [cond_false, jop] at hh ⊢
      refine codeH_mono (fun e a' s hk => ?_) (ihx hdx h hh)
      obtain ⟨hl, tr', h', hk⟩ := hk
      cases e with
      | normal =>
        simp only at hk ⊢
        rw [app_lam (by simp)] at hk ⊢
        rw [map_fr h']
        have := ihy (a := rejoin a x (liveJ x (usesC y U)) ((liveJ x (usesC y U)).map tr'.get)) (by rw [rejoin_len]; exact hdy) (rejoin_fr (fun t ht => hdx t (lives_sub ht)) h) hk
        rwa [rejoin_len] at this
      | exit j => exact ⟨hl, tr', h', hk⟩
      | ret => exact ⟨hl, tr', h', hk⟩
  | cond c x y ihx ihy =>
    intro D U K a tr σ hd h hh
    have hdx : ∀ d ∈ defsC x, d < a.length := fun d hdx => hd d (by simp [defsC, hdx])
    have hdy : ∀ d ∈ defsC y, d < a.length := fun d hdy => hd d (by simp [defsC, hdy])
    unfold codeT condH at hh
    unfold codeH condH
    rw [← h.ev] at hh
    split at hh
    · exact ihx hdx h hh
    · exact ihy hdy h hh
    · exact hh
  | block id c ih =>
    intro D U K a tr σ hd h hh
    unfold codeT at hh
    unfold codeH
    cases hb : Nat.ble (norms c + exitsTo id c) 1 with
    | true =>
      rw [hb] at hh
      refine codeH_mono (fun e a' s hk => ?_) (ih hd h hh)
      obtain ⟨hl, tr', h', hk⟩ := hk
      cases e with
      | normal => exact ⟨hl, tr', h', hk⟩
      | ret => exact ⟨hl, tr', h', hk⟩
      | exit j =>
        simp only at hk ⊢
        cases hj : j == id <;> rw [hj] at hk <;> exact ⟨hl, tr', h', hk⟩
    | false =>
      rw [hb] at hh
      simp only [cond_false, jop] at hh ⊢
      have fin : ∀ (tr' : Tr) (s : Store), K .normal (rejoinT tr c (liveJ c U) ((liveJ c U).map tr'.get)) s → Ko a.length K .normal (rejoin a c (liveJ c U) ((liveJ c U).map tr'.get)) s := fun tr' s hk => ⟨rejoin_len, _, rejoin_fr (fun t ht => hd t (lives_sub ht)) h, hk⟩
      refine codeH_mono (fun e a' s hk => ?_) (ih hd h hh)
      obtain ⟨hl, tr', h', hk⟩ := hk
      cases e with
      | normal =>
        simp only at hk ⊢
        rw [app_lam (by simp)] at hk ⊢
        rw [map_fr h']
        exact fin tr' s hk
      | ret => exact ⟨hl, tr', h', hk⟩
      | exit j =>
        simp only at hk ⊢
        cases hj : j == id <;> rw [hj] at hk <;> simp only [cond_true, cond_false] at hk ⊢
        · exact ⟨hl, tr', h', hk⟩
        · rw [app_lam (by simp)] at hk ⊢
          rw [map_fr h']
          exact fin tr' s hk
  | loop c ih =>
    intro D U K a tr σ hd h hh
    unfold codeT at hh
    unfold codeH
    simp only at hh ⊢
    rw [lop_app (by simp)] at hh ⊢
    rw [map_fr h]
    obtain ⟨n, hn⟩ := hh
    refine ⟨n, ?_⟩
    have key : ∀ n xs s, xs.length = (liveL c D (loopU c U)).length → rounds (fun next xs σ => appN (liveL c D (loopU c U)).length ((fun next => lamN (liveL c D (loopU c U)).length fun xs σ => codeT P c D (loopU c U) (fun e a' σ' => match e with | .normal => appN (liveL c D (loopU c U)).length next ((liveL c D (loopU c U)).map a'.get) σ' | e => K e a' σ') (rejoinT tr c (liveL c D (loopU c U)) xs) σ) (lamN (liveL c D (loopU c U)).length next)) xs σ) n xs s →
        rounds (fun next xs σ => appN (liveL c D (loopU c U)).length ((fun next => lamN (liveL c D (loopU c U)).length fun xs σ => codeH P c D (loopU c U) (fun e a' σ' => match e with | .normal => appN (liveL c D (loopU c U)).length next ((liveL c D (loopU c U)).map (aget a')) σ' | e => Ko a.length K e a' σ') (rejoin a c (liveL c D (loopU c U)) xs) σ) (lamN (liveL c D (loopU c U)).length next)) xs σ) n xs s := by
      intro n
      induction n with
      | zero => intro xs s _ h; exact h
      | succ n ihn =>
        intro xs s hl hh
        unfold rounds at hh ⊢
        simp only at hh ⊢
        rw [app_lam hl] at hh ⊢
        refine codeH_mono (fun e a' s' hk => ?_) (ih (a := rejoin a c (liveL c D (loopU c U)) xs) (by rw [rejoin_len]; exact hd) (rejoin_fr (fun t ht => hd t (lives_sub ht)) h) hh)
        obtain ⟨hl', tr', h', hk⟩ := hk
        rw [rejoin_len] at hl'
        cases e with
        | normal =>
          simp only at hk ⊢
          rw [app_lam (by simp)] at hk ⊢
          rw [map_fr h']
          exact ihn _ _ (by simp) hk
        | exit j => exact ⟨hl', tr', h', hk⟩
        | ret => exact ⟨hl', tr', h', hk⟩
    exact key n _ _ (by simp) hn
  | _ => intros; rename_i h; exact h.elim

/-! ## bodies -/
def resT (P : Program) (g : Nat → Value) (σ : Store) : List ResultVar → (List Value → Prop) → Prop
  | [], K => K []
  | .tmp t :: rs, K => resT P g σ rs fun vs => K (g t :: vs)
  | .cell t ty :: rs, K => match tAgg P ty, tSize P ty with
    | some b, some n => vop (loadV b n (g t) σ.get) σ fun v _ => resT P g σ rs fun vs => K (v :: vs)
    | _, _ => False
theorem resT_eq {a : List Value} {σ : Store} : ∀ {rs : List ResultVar} {K : List Value → Prop}, resT P (aget a) σ rs K → resH P a σ rs K
  | [], K, h => h
  | .tmp t :: rs, K, h => resT_eq (rs := rs) (K := fun vs => K (aget a t :: vs)) h
  | .cell t ty :: rs, K, h => by
    unfold resT at h
    unfold resH
    cases hb : tAgg P ty with
    | none => rw [hb] at h; exact h.elim
    | some b =>
      cases hn : tSize P ty with
      | none => rw [hb, hn] at h; exact h.elim
      | some n =>
        rw [hb, hn] at h
        simp only [vop] at h ⊢
        cases hl : loadV b n (aget a t) σ.get with
        | none => rw [hl] at h; exact h
        | some v => rw [hl] at h; exact resT_eq h
def startT (i : Nat) : List Value → Tr → Tr
  | [], a => a
  | v :: vs, a => CheckFast.force (i + 1) fun j => startT j vs (Tr.put j a i v)
theorem startT_get : ∀ {vs : List Value} {i : Nat} {a : Tr} {t : Nat}, (startT i vs a).get t = if i ≤ t ∧ t < i + vs.length then vs.getD (t - i) junk else a.get t
  | [], i, a, t => by
    unfold startT
    rw [if_neg (by simp)]
  | v :: vs, i, a, t => by
    unfold startT
    rw [CheckFast.force_eq, startT_get, Tr.get_put _ _ _ _ _ (by omega)]
    by_cases h2 : t = i
    · subst h2
      rw [if_neg (by omega), if_pos rfl, if_pos (by simp)]
      simp
    · rw [if_neg h2]
      by_cases h1 : i + 1 ≤ t ∧ t < i + 1 + vs.length
      · have e : t - i = (t - (i + 1)) + 1 := by omega
        rw [if_pos h1, if_pos (by simp; omega), e, List.getD_cons_succ]
      · rw [if_neg h1, if_neg (by simp; omega)]
def bodyT (P : Program) (fn : Func) (args : List Value) (σ : Store) (K : Value → Store → Prop) : Prop :=
  match fn.body with
  | none => False
  | some c => codeT P c (Nat.sub (Nat.shiftLeft 1 args.length) 1) (startU fn) (fun e a σ => match e with
      | .exit _ => False
      | _ => resT P a.get σ fn.results.toList fun vs => K (resOne vs) σ) (startT 0 args .leaf) σ
def okDst (n : Nat) : List Nat → Bool
  | [] => true
  | t :: ts => Nat.blt t n && okDst n ts
theorem okDst_spec {n : Nat} : ∀ {l : List Nat}, okDst n l = true → ∀ d ∈ l, d < n
  | t :: ts, h, d, hd => by
    simp only [okDst, Bool.and_eq_true] at h
    rcases List.mem_cons.1 hd with rfl | hd
    · exact Nat.le_of_ble_eq_true h.1
    · exact okDst_spec h.2 d hd
def okT (P : Program) (fn : Func) : Bool := match fn.body with | some c => okCode P c && okDst fn.ntmps (defsC c) | none => false
theorem bodyT_H {fn : Func} {args : List Value} {σ : Store} {K : Value → Store → Prop} (hok : okT P fn = true) (h : bodyT P fn args σ K) : bodyH P fn args σ K := by
  unfold okT at hok
  unfold bodyT at h
  unfold bodyH
  split at h
  · exact h.elim
  · rename_i c hb
    rw [hb] at hok
    simp only [Bool.and_eq_true] at hok
    have hfr : FR (args ++ List.replicate (fn.ntmps - args.length) junk) (startT 0 args .leaf) := fun t => by
      rw [startT_get, Tr.get_leaf]
      unfold aget
      rw [List.getD_eq_getElem?_getD, List.getElem?_append]
      by_cases ht : t < args.length
      · rw [if_pos ht, if_pos ⟨Nat.zero_le _, by simpa using ht⟩, List.getD_eq_getElem?_getD]; rfl
      · rw [if_neg ht, if_neg (by simpa using ht), List.getElem?_replicate]
        split <;> rfl
    rw [hb]
    simp only
    refine codeH_mono (fun e a s hk => ?_) (codeT_sim (fun d hd => ?_) hfr h)
    · obtain ⟨_, tr, h', hk⟩ := hk
      cases e with
      | exit j => exact hk
      | normal => exact resT_eq (by rw [h'.g]; exact hk)
      | ret => exact resT_eq (by rw [h'.g]; exact hk)
    · have := okDst_spec hok.2 d hd
      simp only [List.length_append, List.length_replicate]
      omega
theorem okFn_of {fn : Func} (h : okT P fn = true) : okFn P fn = true := by
  unfold okT at h
  unfold okFn
  split at h
  · rename_i c hb
    rw [hb]
    exact (Bool.and_eq_true _ _ ▸ h).1
  · cases h
theorem does_of_print {f : FuncId} {fn : Func} {args : List Value} {σ : Store} {Q : Value → Store → Prop} (hf : P.funcs[f]? = some fn) (hok : okT P fn = true) (h : bodyT P fn args σ Q) : Does P f args σ Q := does_of_body hf (okFn_of hok) (bodyT_H hok h)
theorem doesD_of_print {f : FuncId} {fn : Func} {args : List Value} {σ : Store} {Q : Value → Store → Prop} (hf : P.funcs[f]? = some fn) (hok : okT P fn = true) (h : bodyT P fn args σ Q) : DoesD P f args σ Q := doesD_of_body hf (okFn_of hok) (bodyT_H hok h)
end Go.Am
