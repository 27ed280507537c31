import Derived.Test.YtkmalbaollffiaaAm17
import Derived.Below
section
/- The abstract machine, part 18: what is reached is one thing. No program in sight. -/
set_option linter.all false
namespace Go.Am
open Go.RowKit
variable {P : Program}

def Same (ds : List Nat) (a a' : List Value) : Prop := a'.length = a.length ∧ ∀ t, t ∉ ds → a'[t]? = a[t]?
theorem Same.refl (ds : List Nat) (a : List Value) : Same ds a a := ⟨rfl, fun _ _ => rfl⟩
theorem Same.trans {ds : List Nat} {a b c : List Value} (h : Same ds a b) (k : Same ds b c) : Same ds a c := ⟨k.1.trans h.1, fun t ht => (k.2 t ht).trans (h.2 t ht)⟩
theorem Same.more {ds ds' : List Nat} {a b : List Value} (h : Same ds a b) (hs : ∀ t, t ∈ ds → t ∈ ds') : Same ds' a b := ⟨h.1, fun t ht => h.2 t fun h0 => ht (hs t h0)⟩
theorem Same.put {ds : List Nat} {a : List Value} {dst : Option Nat} {v : Value} (h : ∀ d, dst = some d → d ∈ ds) : Same ds a (aput a dst v) := by
  cases dst with
  | none => exact Same.refl _ _
  | some d => exact ⟨by simp [aput], fun t ht => by
      have : d ≠ t := fun e => ht (e ▸ h d rfl)
      simp [aput, List.getElem?_set_ne this]⟩

theorem doAct_mono {x : Option Action} {σ : Store} {K K' : Value → Store → Prop} (hk : ∀ v s, K v s → K' v s) (h : doAct (PI P) x σ K) : doAct (PI P) x σ K' := by
  cases x with
  | none => exact h
  | some x =>
    cases x with
    | val v => exact hk _ _ h
    | rd f =>
      simp only [doAct] at h ⊢
      split at h
      · exact hk _ _ h
      · exact h
    | new o mk => exact hk _ _ h
    | eff f =>
      simp only [doAct] at h ⊢
      split at h
      · exact hk _ _ h
      · exact h
    | call f args => exact Does.mono h hk
    | pick f =>
      simp only [doAct] at h ⊢
      split at h
      · intro v s hm; exact hk _ _ (h v s hm)
      · exact h
theorem doAct_lin {o : Oper} {e : Operand → Value} {σ : Store} {K : Value → Store → Prop} (hp : isNext o.op = false) (h : doAct (PI P) (action P o e) σ K) : ∃ v σ', K v σ' ∧ σ.next ≤ σ'.next ∧ doAct (PI P) (action P o e) σ fun v2 σ2 => v2 = v ∧ σ2 = σ' := by
  obtain ⟨v, σ', h1, h2⟩ := res_of_doAct (fun f hf => by have := pick_next hf; rw [hp] at this; cases this) h
  exact ⟨v, σ', h2, Res.mono h1, doAct_of_res h1⟩

theorem seqOps_mono {ops : Array Oper} : ∀ {l : List Oper} {K K' : List Value → Store → Prop} {a : List Value} {σ : Store}, (∀ a s, K a s → K' a s) → seqOps (PI P) P ops l K a σ → seqOps (PI P) P ops l K' a σ
  | [], _, _, _, _, hk, h => hk _ _ h
  | o :: rest, K, K', a, σ, hk, h => by
    unfold seqOps at h ⊢
    simp only at h ⊢
    split at h
    · exact doAct_mono (fun v s hh => seqOps_mono hk hh) h
    · exact seqOps_mono hk h
    · exact h
theorem seqOps_lin {ops : Array Oper} {ds : List Nat} : ∀ {l : List Oper} {K : List Value → Store → Prop} {a : List Value} {σ : Store}, (∀ o ∈ l, ∀ d, o.dst = some d → d ∈ ds) → (∀ o ∈ l, isNext o.op = false) → seqOps (PI P) P ops l K a σ →
    ∃ a' σ', K a' σ' ∧ Same ds a a' ∧ σ.next ≤ σ'.next ∧ seqOps (PI P) P ops l (fun a2 σ2 => a2 = a' ∧ σ2 = σ') a σ
  | [], K, a, σ, hd, _, h => ⟨a, σ, h, Same.refl _ _, Nat.le_refl _, ⟨rfl, rfl⟩⟩
  | o :: rest, K, a, σ, hd, hp, h => by
    unfold seqOps at h
    simp only at h
    split at h
    · rename_i hg
      obtain ⟨v, σ1, h1, h2, h3⟩ := doAct_lin (hp o List.mem_cons_self) h
      obtain ⟨a', σ', k1, k2, k3, k4⟩ := seqOps_lin (fun o ho => hd o (List.mem_cons_of_mem _ ho)) (fun o ho => hp o (List.mem_cons_of_mem _ ho)) h1
      refine ⟨a', σ', k1, (Same.put (hd o List.mem_cons_self)).trans k2, Nat.le_trans h2 k3, ?_⟩
      unfold seqOps
      simp only [hg]
      refine doAct_mono (fun v2 s2 hh => ?_) h3
      obtain ⟨rfl, rfl⟩ := hh
      exact k4
    · rename_i hg
      obtain ⟨a', σ', k1, k2, k3, k4⟩ := seqOps_lin (fun o ho => hd o (List.mem_cons_of_mem _ ho)) (fun o ho => hp o (List.mem_cons_of_mem _ ho)) h
      refine ⟨a', σ', k1, (Same.put (hd o List.mem_cons_self)).trans k2, k3, ?_⟩
      unfold seqOps
      simp only [hg]
      exact k4
    · exact h.elim

theorem recheck_mk {k : Nat} {s : Store} : ∀ {fl : List (Nat × ((Nat → Option SObj) → Option Value) × Value)} {r r' : Prop}, recheck (PI P) k s fl r → (r → r') → recheck (PI P) k s fl r'
  | [], _, _, h, hr => hr h
  | (hi, f, v) :: fl, r, r', h, hr => by
    unfold recheck at h ⊢
    cases hb : Nat.ble k hi <;> rw [hb] at h <;> simp only [cond_true, cond_false] at h ⊢
    · exact recheck_mk h hr
    · exact ⟨h.1, recheck_mk h.2 hr⟩
theorem checkAll_mk {f : (Nat → Option SObj) → Option Value} {v : Value} : ∀ {ss : List Store} {r r' : Prop}, checkAll (PI P) f v ss r → (r → r') → checkAll (PI P) f v ss r'
  | [], _, _, h, hr => hr h
  | s :: ss, r, r', h, hr => ⟨h.1, checkAll_mk h.2 hr⟩

theorem drawOps_mono {ops : Array Oper} {b : Array Nat} : ∀ {l : List Nat} {K K' : List Value → Store → Prop} {a : List Value} {past : List Store} {cur : Store} {fl : List (Nat × ((Nat → Option SObj) → Option Value) × Value)}, (∀ a s, K a s → K' a s) → drawOps (PI P) P ops b l K a past cur fl → drawOps (PI P) P ops b l K' a past cur fl
  | [], _, _, _, _, _, _, hk, h => hk _ _ h
  | i :: rest, K, K', a, past, cur, fl, hk, h => by
    unfold drawOps at h ⊢
    cases ho : ops[i]? with
    | none => rw [ho] at h; exact h
    | some o =>
      rw [ho] at h
      simp only at h ⊢
      cases he : isEff o.op <;> rw [he] at h <;> simp only [cond_true, cond_false] at h ⊢
      · split at h
        · exact h
        · exact drawOps_mono hk h
        · split at h
          · exact drawOps_mono hk h
          · exact drawOps_mono hk h
          · split at h
            · exact h
            · exact checkAll_mk h (drawOps_mono hk)
          · exact h
      · split at h
        · exact doAct_mono (fun v s hh => recheck_mk hh (drawOps_mono hk)) h
        · exact recheck_mk h (drawOps_mono hk)
        · exact h
theorem drawOps_lin {ops : Array Oper} {b : Array Nat} {ds : List Nat} (hd : ∀ (i : Nat) (o : Oper), ops[i]? = some o → ∀ d, o.dst = some d → d ∈ ds) : ∀ {l : List Nat} {K : List Value → Store → Prop} {a : List Value} {past : List Store} {cur : Store} {fl : List (Nat × ((Nat → Option SObj) → Option Value) × Value)}, drawOps (PI P) P ops b l K a past cur fl →
    ∃ a' σ', K a' σ' ∧ Same ds a a' ∧ cur.next ≤ σ'.next ∧ drawOps (PI P) P ops b l (fun a2 σ2 => a2 = a' ∧ σ2 = σ') a past cur fl
  | [], K, a, past, cur, fl, h => ⟨a, cur, h, Same.refl _ _, Nat.le_refl _, ⟨rfl, rfl⟩⟩
  | i :: rest, K, a, past, cur, fl, h => by
    unfold drawOps at h
    cases ho : ops[i]? with
    | none => rw [ho] at h; exact h.elim
    | some o =>
      rw [ho] at h
      simp only at h
      have hput : ∀ v, Same ds a (aput a o.dst v) := fun v => Same.put (hd i o ho)
      cases he : isEff o.op <;> rw [he] at h <;> simp only [cond_true, cond_false] at h
      · split at h
        · exact h.elim
        · rename_i hg
          obtain ⟨a', σ', k1, k2, k3, k4⟩ := drawOps_lin hd h
          refine ⟨a', σ', k1, (hput _).trans k2, k3, ?_⟩
          unfold drawOps
          simp only [ho, he, cond_false, hg]
          exact k4
        · rename_i hg
          split at h
          · rename_i v hA
            obtain ⟨a', σ', k1, k2, k3, k4⟩ := drawOps_lin hd h
            refine ⟨a', σ', k1, (hput _).trans k2, k3, ?_⟩
            unfold drawOps
            simp only [ho, he, cond_false, hg, hA]
            exact k4
          · rename_i ob mk hA
            obtain ⟨a', σ', k1, k2, k3, k4⟩ := drawOps_lin hd h
            refine ⟨a', σ', k1, (hput _).trans k2, Nat.le_trans (Store.le_push _ _) k3, ?_⟩
            unfold drawOps
            simp only [ho, he, cond_false, hg, hA]
            exact k4
          · rename_i f hA
            split at h
            · exact h.elim
            · rename_i v hv
              obtain ⟨hh, _⟩ := checkAll_spec h
              obtain ⟨a', σ', k1, k2, k3, k4⟩ := drawOps_lin hd hh
              refine ⟨a', σ', k1, (hput _).trans k2, k3, ?_⟩
              unfold drawOps
              simp only [ho, he, cond_false, hg, hA, hv]
              exact checkAll_mk h fun _ => k4
          · exact h.elim
      · split at h
        · rename_i hg
          obtain ⟨v, σ1, h1, h2, h3⟩ := doAct_lin (eff_notnext he) h
          obtain ⟨hh, _⟩ := recheck_spec h1
          obtain ⟨a', σ', k1, k2, k3, k4⟩ := drawOps_lin hd hh
          refine ⟨a', σ', k1, (hput _).trans k2, Nat.le_trans h2 k3, ?_⟩
          unfold drawOps
          simp only [ho, he, cond_true, hg]
          refine doAct_mono (fun v2 s2 hhh => ?_) h3
          obtain ⟨rfl, rfl⟩ := hhh
          exact recheck_mk h1 fun _ => k4
        · rename_i hg
          obtain ⟨hh, _⟩ := recheck_spec h
          obtain ⟨a', σ', k1, k2, k3, k4⟩ := drawOps_lin hd hh
          refine ⟨a', σ', k1, (hput _).trans k2, k3, ?_⟩
          unfold drawOps
          simp only [ho, he, cond_true, hg]
          exact recheck_mk h fun _ => k4
        · exact h.elim

theorem rounds_mono {F F' : (List Value → Store → Prop) → List Value → Store → Prop} (h : ∀ N N' : List Value → Store → Prop, (∀ xs s, N xs s → N' xs s) → ∀ xs s, F N xs s → F' N' xs s) : ∀ n xs s, rounds F n xs s → rounds F' n xs s
  | 0, _, _, hh => hh
  | n + 1, xs, s, hh => h _ _ (rounds_mono h n) xs s hh

def loopF (P : Program) (c : Code) (D : List Nat) (a : List Value) (K : Out → List Value → Store → Prop) (next : List Value → Store → Prop) (xs : List Value) (σ : Store) : Prop :=
  codeG (PI P) P c D (fun e a σ => match e with | .normal => next ((carried D c).map (aget a)) σ | e => K e a σ) (setAll (forget a (defsC c)) (carried D c) xs) σ
theorem codeG_loop {c : Code} {D : List Nat} {a : List Value} {K : Out → List Value → Store → Prop} {σ : Store} : codeG (PI P) P (.loop c) D K a σ ↔ ∃ n, rounds (loopF P c D a K) n ((carried D c).map (aget a)) σ := Iff.rfl

theorem codeG_mono : ∀ {c : Code} {D : List Nat} {K K' : Out → List Value → Store → Prop} {a : List Value} {σ : Store}, (∀ e a s, K e a s → K' e a s) → codeG (PI P) P c D K a σ → codeG (PI P) P c D K' a σ := by
  intro c
  induction c with
  | skip => intro D K K' a σ hk h; exact hk _ _ _ h
  | label l => intro D K K' a σ hk h; exact hk _ _ _ h
  | region id ops d =>
    intro D K K' a σ hk h
    cases d with
    | false => exact seqOps_mono (fun a s hh => hk _ _ _ hh) h
    | true => exact drawOps_mono (fun a s hh => hk _ _ _ hh) h
  | seq x y ihx ihy =>
    intro D K K' a σ hk h
    refine ihx (fun e a s hh => ?_) h
    cases e with
    | normal => exact ihy hk hh
    | _ => exact hk _ _ _ hh
  | cond c x y ihx ihy =>
    intro D K K' a σ hk h
    unfold codeG at h ⊢
    split at h
    · exact ihx hk h
    · exact ihy hk h
    · exact h
  | block id c ih =>
    intro D K K' a σ hk h
    refine ih (fun e a s hh => ?_) h
    cases e with
    | exit j =>
      simp only at hh ⊢
      cases hb : j == id <;> rw [hb] at hh <;> simp only [cond_true, cond_false] at hh ⊢ <;> exact hk _ _ _ hh
    | _ => exact hk _ _ _ hh
  | loop c ih =>
    intro D K K' a σ hk h
    obtain ⟨n, hn⟩ := codeG_loop.1 h
    refine codeG_loop.2 ⟨n, rounds_mono (F := loopF P c D a K) (F' := loopF P c D a K') (fun N N' hN xs s hh => ?_) n _ _ hn⟩
    unfold loopF at hh ⊢
    refine ih (fun e a s h1 => ?_) hh
    cases e with
    | normal => exact hN _ _ h1
    | _ => exact hk _ _ _ h1
  | exit id => intro D K K' a σ hk h; exact hk _ _ _ h
  | ret => intro D K K' a σ hk h; exact hk _ _ _ h
  | _ => intros; rename_i h; exact h.elim

theorem length_forget (ds : List Nat) : ∀ a : List Value, (forget a ds).length = a.length := by
  induction ds with
  | nil => intro a; rfl
  | cons t ts ih => intro a; show (forget (a.set t junk) ts).length = _; rw [ih]; simp
theorem forget_not {ds : List Nat} : ∀ {a : List Value} {t : Nat}, t ∉ ds → (forget a ds)[t]? = a[t]? := by
  induction ds with
  | nil => intro a t _; rfl
  | cons x ts ih =>
    intro a t ht
    rw [List.mem_cons, not_or] at ht
    show (forget (a.set x junk) ts)[t]? = _
    rw [ih ht.2, List.getElem?_set_ne (Ne.symm ht.1)]
theorem forget_in {ds : List Nat} : ∀ {a : List Value} {t : Nat} {v : Value}, t ∈ ds → (forget a ds)[t]? = some v → v = junk := by
  induction ds with
  | nil => intro a t v ht; simp at ht
  | cons x ts ih =>
    intro a t v ht hv
    have hv : (forget (a.set x junk) ts)[t]? = some v := hv
    by_cases hts : t ∈ ts
    · exact ih hts hv
    · rcases List.mem_cons.1 ht with rfl | h0
      · rw [forget_not hts, List.getElem?_set_self'] at hv
        cases hx : a[t]? with
        | none => rw [hx] at hv; cases hv
        | some u => rw [hx] at hv; simpa using hv.symm
      · exact absurd h0 hts
theorem setAll_spec {f : Nat → Value} : ∀ {L : List Nat} {a : List Value}, (setAll a L (L.map f)).length = a.length ∧ ∀ (t : Nat) (v : Value), (setAll a L (L.map f))[t]? = some v → (t ∈ L ∧ v = f t) ∨ (t ∉ L ∧ a[t]? = some v)
  | [], a => ⟨rfl, fun t v h => .inr ⟨by simp, h⟩⟩
  | x :: L, a => by
    obtain ⟨h1, h2⟩ := setAll_spec (f := f) (L := L) (a := a.set x (f x))
    refine ⟨by show (setAll (a.set x (f x)) L (L.map f)).length = _; rw [h1]; simp, fun t v hv => ?_⟩
    rcases h2 t v hv with ⟨h3, h4⟩ | ⟨h3, h4⟩
    · exact .inl ⟨List.mem_cons_of_mem _ h3, h4⟩
    · by_cases e : x = t
      · subst e
        rw [List.getElem?_set_self'] at h4
        cases hx : a[x]? with
        | none => rw [hx] at h4; cases h4
        | some u => rw [hx] at h4; exact .inl ⟨List.mem_cons_self, by simpa using h4.symm⟩
      · rw [List.getElem?_set_ne e] at h4
        refine .inr ⟨?_, h4⟩
        rw [List.mem_cons, not_or]
        exact ⟨Ne.symm e, h3⟩
theorem setAll_not : ∀ {L : List Nat} {a : List Value} {xs : List Value} {t : Nat}, t ∉ L → (setAll a L xs)[t]? = a[t]?
  | [], a, xs, t, _ => rfl
  | x :: L, a, xs, t, ht => by
    rw [List.mem_cons, not_or] at ht
    show (setAll (a.set x (xs.headD junk)) L xs.tail)[t]? = _
    rw [setAll_not ht.2, List.getElem?_set_ne (Ne.symm ht.1)]
theorem setAll_len : ∀ {L : List Nat} {a : List Value} {xs : List Value}, (setAll a L xs).length = a.length
  | [], a, xs => rfl
  | x :: L, a, xs => by
    show (setAll (a.set x (xs.headD junk)) L xs.tail).length = _
    rw [setAll_len]; simp
theorem carried_sub {D : List Nat} {c : Code} {t : Nat} (h : t ∈ carried D c) : t ∈ defsC c := by
  unfold carried at h
  rw [List.mem_eraseDups] at h
  exact (List.mem_filter.1 h).1
theorem same_round {D : List Nat} {c : Code} {a : List Value} {xs : List Value} : Same (defsC c) a (setAll (forget a (defsC c)) (carried D c) xs) :=
  ⟨by rw [setAll_len, length_forget], fun t ht => by rw [setAll_not fun h => ht (carried_sub h), forget_not ht]⟩

theorem doAct_and {o : Oper} {e : Operand → Value} {σ : Store} {K : Value → Store → Prop} (h : doAct (PI P) (action P o e) σ K) : doAct (PI P) (action P o e) σ fun v s => K v s ∧ σ.next ≤ s.next := by
  cases hA : action P o e with
  | none => rw [hA] at h; exact h
  | some x =>
    rw [hA] at h
    cases x with
    | val v => exact ⟨h, Nat.le_refl _⟩
    | rd f =>
      simp only [doAct] at h ⊢
      split at h
      · exact ⟨h, Nat.le_refl _⟩
      · exact h
    | new o mk => exact ⟨h, Store.le_push _ _⟩
    | eff f =>
      simp only [doAct] at h ⊢
      split at h
      · rename_i v s hv; exact ⟨h, action_mono hA hv⟩
      · exact h
    | call f args =>
      obtain ⟨r, s, h1, h2⟩ := h
      exact ⟨r, s, h1, h2, h1.1⟩
    | pick f =>
      simp only [doAct] at h ⊢
      split at h
      · rename_i l hl
        intro v s hm
        exact ⟨h v s hm, action_pick_mono hA hl hm⟩
      · exact h
theorem seqOps_and {ops : Array Oper} {ds : List Nat} : ∀ {l : List Oper} {K : List Value → Store → Prop} {a : List Value} {σ : Store}, (∀ o ∈ l, ∀ d, o.dst = some d → d ∈ ds) → seqOps (PI P) P ops l K a σ →
    seqOps (PI P) P ops l (fun a' σ' => K a' σ' ∧ Same ds a a' ∧ σ.next ≤ σ'.next) a σ
  | [], K, a, σ, hd, h => ⟨h, Same.refl _ _, Nat.le_refl _⟩
  | o :: rest, K, a, σ, hd, h => by
    unfold seqOps at h ⊢
    simp only at h ⊢
    split at h
    · refine doAct_mono (fun v s hh => ?_) (doAct_and h)
      refine seqOps_mono (fun a' σ' hk => ?_) (seqOps_and (fun o ho => hd o (List.mem_cons_of_mem _ ho)) hh.1)
      exact ⟨hk.1, (Same.put (hd o List.mem_cons_self)).trans hk.2.1, Nat.le_trans hh.2 hk.2.2⟩
    · refine seqOps_mono (fun a' σ' hk => ?_) (seqOps_and (fun o ho => hd o (List.mem_cons_of_mem _ ho)) h)
      exact ⟨hk.1, (Same.put (hd o List.mem_cons_self)).trans hk.2.1, hk.2.2⟩
    · exact h
/-- What is reached has what was not written, and no fewer ids. -/
theorem codeG_and : ∀ {c : Code} {D : List Nat} {K : Out → List Value → Store → Prop} {a : List Value} {σ : Store}, codeG (PI P) P c D K a σ →
    codeG (PI P) P c D (fun e a' σ' => K e a' σ' ∧ Same (defsC c) a a' ∧ σ.next ≤ σ'.next) a σ := by
  intro c
  induction c with
  | skip => intro D K a σ h; exact ⟨h, Same.refl _ _, Nat.le_refl _⟩
  | label l => intro D K a σ h; exact ⟨h, Same.refl _ _, Nat.le_refl _⟩
  | exit id => intro D K a σ h; exact ⟨h, Same.refl _ _, Nat.le_refl _⟩
  | ret => intro D K a σ h; exact ⟨h, Same.refl _ _, Nat.le_refl _⟩
  | region id ops d =>
    intro D K a σ h
    cases d with
    | false => exact seqOps_and (ds := ops.toList.filterMap (·.dst)) (fun o ho d hd => List.mem_filterMap.2 ⟨o, ho, hd⟩) h
    | true =>
      obtain ⟨a', σ', k1, k2, k3, k4⟩ := drawOps_lin (ds := ops.toList.filterMap (·.dst)) (fun i o ho d hd => List.mem_filterMap.2 ⟨o, by rw [← Array.mem_def]; exact Array.mem_of_getElem? ho, hd⟩) h
      exact drawOps_mono (fun a2 s2 hh => by obtain ⟨rfl, rfl⟩ := hh; exact ⟨k1, k2, k3⟩) k4
  | seq x y ihx ihy =>
    intro D K a σ h
    have hx : ∀ t, t ∈ defsC x → t ∈ defsC (.seq x y) := fun t ht => by simp [defsC, ht]
    have hy : ∀ t, t ∈ defsC y → t ∈ defsC (.seq x y) := fun t ht => by simp [defsC, ht]
    refine codeG_mono (c := x) (fun e a1 σ1 hh => ?_) (ihx h)
    obtain ⟨h1, h2, h3⟩ := hh
    cases e with
    | normal =>
      refine codeG_mono (c := y) (fun e2 a2 σ2 kk => ?_) (ihy h1)
      exact ⟨kk.1, (h2.more hx).trans (kk.2.1.more hy), Nat.le_trans h3 kk.2.2⟩
    | exit j => exact ⟨h1, h2.more hx, h3⟩
    | ret => exact ⟨h1, h2.more hx, h3⟩
  | cond c x y ihx ihy =>
    intro D K a σ h
    unfold codeG at h ⊢
    split at h
    · exact codeG_mono (c := x) (fun e a1 σ1 hh => ⟨hh.1, hh.2.1.more (fun t ht => by simp [defsC, ht]), hh.2.2⟩) (ihx h)
    · exact codeG_mono (c := y) (fun e a1 σ1 hh => ⟨hh.1, hh.2.1.more (fun t ht => by simp [defsC, ht]), hh.2.2⟩) (ihy h)
    · exact h.elim
  | block id c ih =>
    intro D K a σ h
    refine codeG_mono (c := c) (fun e a1 σ1 hh => ?_) (ih h)
    obtain ⟨h1, h2, h3⟩ := hh
    cases e with
    | normal => exact ⟨h1, h2, h3⟩
    | ret => exact ⟨h1, h2, h3⟩
    | exit j =>
      simp only at h1 ⊢
      cases hb : j == id <;> rw [hb] at h1 <;> simp only [cond_true, cond_false] at h1 ⊢ <;> exact ⟨h1, h2, h3⟩
  | loop c ih =>
    intro D K a σ h
    obtain ⟨n, hn⟩ := codeG_loop.1 h
    have key : ∀ (n : Nat) (xs : List Value) (σ1 : Store), σ.next ≤ σ1.next → rounds (loopF P c D a K) n xs σ1 →
        rounds (loopF P c D a (fun e a' σ' => K e a' σ' ∧ Same (defsC c) a a' ∧ σ.next ≤ σ'.next)) n xs σ1 := by
      intro n
      induction n with
      | zero => intro xs σ1 _ h; exact h.elim
      | succ n ihn =>
        intro xs σ1 hle h
        have h : loopF P c D a K (rounds (loopF P c D a K) n) xs σ1 := h
        show loopF P c D a _ (rounds _ n) xs σ1
        unfold loopF at h ⊢
        refine codeG_mono (c := c) (fun e a1 σ2 hh => ?_) (ih h)
        obtain ⟨h1, h2, h3⟩ := hh
        cases e with
        | normal => exact ihn _ _ (Nat.le_trans hle h3) h1
        | exit j => exact ⟨h1, same_round.trans h2, Nat.le_trans hle h3⟩
        | ret => exact ⟨h1, same_round.trans h2, Nat.le_trans hle h3⟩
    exact codeG_loop.2 ⟨n, key n _ _ (Nat.le_refl _) hn⟩
  | _ => intros; rename_i h; exact h.elim

/-- Nothing is one of several. -/
def noNext : Code → Bool
  | .region _ ops false => ops.toList.all fun o => !isNext o.op
  | .seq x y => noNext x && noNext y
  | .cond _ x y => noNext x && noNext y
  | .block _ c => noNext c
  | .loop c => noNext c
  | _ => true
theorem codeG_lin : ∀ {c : Code} {D : List Nat} {K : Out → List Value → Store → Prop} {a : List Value} {σ : Store}, noNext c = true → codeG (PI P) P c D K a σ →
    ∃ e a' σ', K e a' σ' ∧ Same (defsC c) a a' ∧ σ.next ≤ σ'.next ∧ codeG (PI P) P c D (fun e2 a2 σ2 => e2 = e ∧ a2 = a' ∧ σ2 = σ') a σ := by
  intro c
  induction c with
  | skip => intro D K a σ _ h; exact ⟨.normal, a, σ, h, Same.refl _ _, Nat.le_refl _, ⟨rfl, rfl, rfl⟩⟩
  | label l => intro D K a σ _ h; exact ⟨.normal, a, σ, h, Same.refl _ _, Nat.le_refl _, ⟨rfl, rfl, rfl⟩⟩
  | exit id => intro D K a σ _ h; exact ⟨.exit id, a, σ, h, Same.refl _ _, Nat.le_refl _, ⟨rfl, rfl, rfl⟩⟩
  | ret => intro D K a σ _ h; exact ⟨.ret, a, σ, h, Same.refl _ _, Nat.le_refl _, ⟨rfl, rfl, rfl⟩⟩
  | region id ops d =>
    intro D K a σ hp h
    cases d with
    | false =>
      obtain ⟨a', σ', k1, k2, k3, k4⟩ := seqOps_lin (ds := ops.toList.filterMap (·.dst)) (fun o ho d hd => List.mem_filterMap.2 ⟨o, ho, hd⟩) (fun o ho => by have := List.all_eq_true.1 hp o ho; simpa using this) h
      exact ⟨.normal, a', σ', k1, k2, k3, seqOps_mono (fun a s hh => ⟨rfl, hh⟩) k4⟩
    | true =>
      obtain ⟨a', σ', k1, k2, k3, k4⟩ := drawOps_lin (ds := ops.toList.filterMap (·.dst)) (fun i o ho d hd => List.mem_filterMap.2 ⟨o, by rw [← Array.mem_def]; exact Array.mem_of_getElem? ho, hd⟩) h
      exact ⟨.normal, a', σ', k1, k2, k3, drawOps_mono (fun a s hh => ⟨rfl, hh⟩) k4⟩
  | seq x y ihx ihy =>
    intro D K a σ hp h
    simp only [noNext, Bool.and_eq_true] at hp
    have hx : ∀ t, t ∈ defsC x → t ∈ defsC (.seq x y) := fun t ht => by simp [defsC, ht]
    have hy : ∀ t, t ∈ defsC y → t ∈ defsC (.seq x y) := fun t ht => by simp [defsC, ht]
    obtain ⟨e, a1, σ1, h1, h2, h3, h4⟩ := ihx hp.1 h
    cases e with
    | normal =>
      obtain ⟨e2, a2, σ2, k1, k2, k3, k4⟩ := ihy hp.2 h1
      refine ⟨e2, a2, σ2, k1, (h2.more hx).trans (k2.more hy), Nat.le_trans h3 k3, codeG_mono (c := x) (fun e a s hh => ?_) h4⟩
      obtain ⟨rfl, rfl, rfl⟩ := hh
      exact k4
    | exit j =>
      refine ⟨.exit j, a1, σ1, h1, h2.more hx, h3, codeG_mono (c := x) (fun e a s hh => ?_) h4⟩
      obtain ⟨rfl, rfl, rfl⟩ := hh
      exact ⟨rfl, rfl, rfl⟩
    | ret =>
      refine ⟨.ret, a1, σ1, h1, h2.more hx, h3, codeG_mono (c := x) (fun e a s hh => ?_) h4⟩
      obtain ⟨rfl, rfl, rfl⟩ := hh
      exact ⟨rfl, rfl, rfl⟩
  | cond c x y ihx ihy =>
    intro D K a σ hp h
    simp only [noNext, Bool.and_eq_true] at hp
    unfold codeG at h
    split at h
    · rename_i hc
      obtain ⟨e, a1, σ1, h1, h2, h3, h4⟩ := ihx hp.1 h
      refine ⟨e, a1, σ1, h1, h2.more (fun t ht => by simp [defsC, ht]), h3, ?_⟩
      unfold codeG
      simp only [hc]
      exact h4
    · rename_i hc
      obtain ⟨e, a1, σ1, h1, h2, h3, h4⟩ := ihy hp.2 h
      refine ⟨e, a1, σ1, h1, h2.more (fun t ht => by simp [defsC, ht]), h3, ?_⟩
      unfold codeG
      simp only [hc]
      exact h4
    · exact h.elim
  | block id c ih =>
    intro D K a σ hp h
    obtain ⟨e, a1, σ1, h1, h2, h3, h4⟩ := ih hp h
    cases e with
    | normal =>
      refine ⟨.normal, a1, σ1, h1, h2, h3, codeG_mono (c := c) (fun e a s hh => ?_) h4⟩
      obtain ⟨rfl, rfl, rfl⟩ := hh
      exact ⟨rfl, rfl, rfl⟩
    | ret =>
      refine ⟨.ret, a1, σ1, h1, h2, h3, codeG_mono (c := c) (fun e a s hh => ?_) h4⟩
      obtain ⟨rfl, rfl, rfl⟩ := hh
      exact ⟨rfl, rfl, rfl⟩
    | exit j =>
      simp only at h1
      cases hb : j == id <;> rw [hb] at h1 <;> simp only [cond_true, cond_false] at h1
      · refine ⟨.exit j, a1, σ1, h1, h2, h3, codeG_mono (c := c) (fun e a s hh => ?_) h4⟩
        obtain ⟨rfl, rfl, rfl⟩ := hh
        simp [hb]
      · refine ⟨.normal, a1, σ1, h1, h2, h3, codeG_mono (c := c) (fun e a s hh => ?_) h4⟩
        obtain ⟨rfl, rfl, rfl⟩ := hh
        simp [hb]
  | loop c ih =>
    intro D K a σ hp h
    obtain ⟨n, hn⟩ := codeG_loop.1 h
    have key : ∀ (n : Nat) (xs : List Value) (σ : Store), rounds (loopF P c D a K) n xs σ →
        ∃ e a' σ', K e a' σ' ∧ Same (defsC c) a a' ∧ σ.next ≤ σ'.next ∧ rounds (loopF P c D a (fun e2 a2 σ2 => e2 = e ∧ a2 = a' ∧ σ2 = σ')) n xs σ := by
      intro n
      induction n with
      | zero => intro xs σ h; exact h.elim
      | succ n ihn =>
        intro xs σ h
        have h : loopF P c D a K (rounds (loopF P c D a K) n) xs σ := h
        unfold loopF at h
        obtain ⟨e, a1, σ1, h1, h2, h3, h4⟩ := ih hp h
        have hs : Same (defsC c) a a1 := same_round.trans h2
        have fin : ∀ (e2 : Out) (a2 : List Value) (σ2 : Store), (match (generalizing := false) e with | .normal => rounds (loopF P c D a (fun e3 a3 σ3 => e3 = e2 ∧ a3 = a2 ∧ σ3 = σ2)) n ((carried D c).map (aget a1)) σ1 | e => e = e2 ∧ a1 = a2 ∧ σ1 = σ2) →
            rounds (loopF P c D a (fun e3 a3 σ3 => e3 = e2 ∧ a3 = a2 ∧ σ3 = σ2)) (n + 1) xs σ := fun e2 a2 σ2 hf => by
          show loopF P c D a _ (rounds _ n) xs σ
          unfold loopF
          refine codeG_mono (fun e' a' s' hh => ?_) h4
          obtain ⟨rfl, rfl, rfl⟩ := hh
          cases e' <;> exact hf
        cases e with
        | normal =>
          obtain ⟨e2, a2, σ2, k1, k2, k3, k4⟩ := ihn _ _ h1
          exact ⟨e2, a2, σ2, k1, k2, Nat.le_trans h3 k3, fin _ _ _ k4⟩
        | exit j => exact ⟨.exit j, a1, σ1, h1, hs, h3, fin _ _ _ ⟨rfl, rfl, rfl⟩⟩
        | ret => exact ⟨.ret, a1, σ1, h1, hs, h3, fin _ _ _ ⟨rfl, rfl, rfl⟩⟩
    obtain ⟨e, a', σ', k1, k2, k3, k4⟩ := key n _ _ hn
    exact ⟨e, a', σ', k1, k2, k3, codeG_loop.2 ⟨n, k4⟩⟩
  | _ => intros; rename_i h; exact h.elim
end Go.Am
end
section
/- The abstract machine, part 19: code and calls are as the model has them. No program in sight. -/
set_option linter.all false
namespace Go.Am
open Go.RowKit
variable {P : Program} {ds : List Deferred}

def okCode (P : Program) : Code → Bool
  | .region _ ops false => ops.toList.all (okOp P)
  | .region _ ops true => okDraw P ops
  | .seq x y => okCode P x && okCode P y
  | .cond c x y => okOperand c && okCode P x && okCode P y
  | .block _ c => okCode P c
  | .loop c => okCode P c
  | _ => true
def exitOf : Out → Exit
  | .normal => .normal
  | .exit j => .exit j
  | .ret => .ret

theorem codeG_sound : ∀ {c : Code} {D : List Nat} {K : Out → List Value → Store → Prop} {act : List Value} {σ : Store} {M : Places} {w : World} {a : Act} {Q : Exit → Act → World → Prop}, okCode P c = true → ActR ds M act a → Rel M σ w → codeG (PI P) P c D K act σ →
    (∀ e act' σ' M' w' a', K e act' σ' → ActR ds M' act' a' → Rel M' σ' w' → Step σ M w σ' M' w' → Q (exitOf e) a' w') → c.wp P Q a w := by
  intro c
  induction c with
  | skip => intro D K act σ M w a Q _ ha hr h hq; exact wp_skip (hq .normal act σ M w a h ha hr (Step.refl _ _ _))
  | label l => intro D K act σ M w a Q _ ha hr h hq; exact wp_label (hq .normal act σ M w a h ha hr (Step.refl _ _ _))
  | exit id => intro D K act σ M w a Q _ ha hr h hq; exact wp_exit (hq (.exit id) act σ M w a h ha hr (Step.refl _ _ _))
  | ret => intro D K act σ M w a Q _ ha hr h hq; exact wp_ret (hq .ret act σ M w a h ha hr (Step.refl _ _ _))
  | region id ops d =>
    intro D K act σ M w a Q hok ha hr h hq
    cases d with
    | false => exact seq_sound (List.all_eq_true.1 hok) ha hr h fun act' σ' M' w' a' h1 h2 h3 h4 => hq .normal act' σ' M' w' a' h1 h2 h3 h4
    | true => exact draw_sound hok ha hr h fun act' σ' M' w' a' h1 h2 h3 h4 => hq .normal act' σ' M' w' a' h1 h2 h3 h4
  | seq x y ihx ihy =>
    intro D K act σ M w a Q hok ha hr h hq
    simp only [okCode, Bool.and_eq_true] at hok
    refine wp_seq (ihx hok.1 ha hr h fun e act' σ' M' w' a' h1 h2 h3 h4 => ?_)
    cases e with
    | normal => exact ihy hok.2 h2 h3 h1 fun e act2 σ2 M2 w2 a2 k1 k2 k3 k4 => hq e act2 σ2 M2 w2 a2 k1 k2 k3 (h4.trans k4)
    | exit j => exact hq (.exit j) act' σ' M' w' a' h1 h2 h3 h4
    | ret => exact hq .ret act' σ' M' w' a' h1 h2 h3 h4
  | cond c x y ihx ihy =>
    intro D K act σ M w a Q hok ha hr h hq
    simp only [okCode, Bool.and_eq_true] at hok
    have hc := ha.ev hok.1.1
    unfold codeG at h
    split at h
    · rename_i he
      rw [he] at hc
      exact wp_cond_true hc.bool_ (ihx hok.1.2 ha hr h hq)
    · rename_i he
      rw [he] at hc
      exact wp_cond_false hc.bool_ (ihy hok.2 ha hr h hq)
    · exact h.elim
  | block id c ih =>
    intro D K act σ M w a Q hok ha hr h hq
    refine wp_block (ih hok ha hr h fun e act' σ' M' w' a' h1 h2 h3 h4 => ?_)
    cases e with
    | normal => exact hq .normal act' σ' M' w' a' h1 h2 h3 h4
    | ret => exact hq .ret act' σ' M' w' a' h1 h2 h3 h4
    | exit j =>
      simp only at h1
      show (if j = id then Q .normal a' w' else Q (.exit j) a' w')
      by_cases e : j = id
      · rw [if_pos e]
        have hb : (j == id) = true := by simp [e]
        rw [hb] at h1
        exact hq .normal act' σ' M' w' a' h1 h2 h3 h4
      · rw [if_neg e]
        have hb : (j == id) = false := by simp [e]
        rw [hb] at h1
        exact hq (.exit j) act' σ' M' w' a' h1 h2 h3 h4
  | loop c ih =>
    intro D K act σ M w a Q hok ha hr h hq
    obtain ⟨n, hn⟩ := codeG_loop.1 h
    refine wp_loop_rounds n ?_
    have key : ∀ (n : Nat) (act1 : List Value) (σ1 : Store) (M1 : Places) (w1 : World) (a1 : Act), ActR ds M1 act1 a1 → Same (defsC c) act act1 → Rel M1 σ1 w1 → Step σ M w σ1 M1 w1 → rounds (loopF P c D act K) n ((carried D c).map (aget act1)) σ1 → Code.rounds P c Q n a1 w1 := by
      intro n
      induction n with
      | zero => intro _ _ _ _ _ _ _ _ _ h; exact h.elim
      | succ n ihn =>
        intro act1 σ1 M1 w1 a1 ha1 hs hr1 hst h1
        have h1 : loopF P c D act K (rounds (loopF P c D act K) n) ((carried D c).map (aget act1)) σ1 := h1
        unfold loopF at h1
        have ha2 : ActR ds M1 (setAll (forget act (defsC c)) (carried D c) ((carried D c).map (aget act1))) a1 := by
          refine ⟨fun t v hv => ?_, ha1.none_⟩
          have hlt : t < act1.length := by
            have := (List.getElem?_eq_some_iff.1 hv).1
            rw [setAll_len, length_forget] at this
            rw [hs.1]; exact this
          obtain ⟨v', k1, k2⟩ := ha1.vals t act1[t] (List.getElem?_eq_getElem hlt)
          refine ⟨v', k1, ?_⟩
          rcases setAll_spec.2 t v hv with ⟨k3, rfl⟩ | ⟨k3, k4⟩
          · simpa [aget, hlt] using k2
          · by_cases ht : t ∈ defsC c
            · rw [forget_in ht k4]; exact .junk _
            · rw [forget_not ht, ← hs.2 t ht, List.getElem?_eq_getElem hlt] at k4
              cases k4
              exact k2
        rw [rounds_succ]
        refine ih hok ha2 hr1 (codeG_and h1) fun e' act' σ' M' w' a' m1 m2 m3 m4 => ?_
        obtain ⟨k1, k2, _⟩ := m1
        cases e' with
        | normal => exact ihn act' σ' M' w' a' m2 (same_round.trans k2) m3 (hst.trans m4) k1
        | exit j => exact hq (.exit j) act' σ' M' w' a' k1 m2 m3 (hst.trans m4)
        | ret => exact hq .ret act' σ' M' w' a' k1 m2 m3 (hst.trans m4)
    exact key n act σ M w a ha (Same.refl _ _) hr (Step.refl _ _ _) hn
  | _ => intros; rename_i h _; exact h.elim

/-! ## calls -/
def okFn (P : Program) (fn : Func) : Bool :=
  match fn.body with
  | some c => okCode P c
  | none => false

theorem cell_sound {M : Places} {σ : Store} {w : World} {t : TypeId} {b : Bool} {n : Nat} {x x' v : Value} (hb : tAgg P t = some b) (hn : tSize P t = some n) (hx : VR M false x x') (hr : Rel M σ w) (h : loadV b n x σ.get = some v) :
    ∃ v', VR M false v v' ∧ (do loadVar t (← asAddr x') : Sem Value).run P w = .ok v' w := by
  obtain ⟨v', h1, h2⟩ := load_sound hb hn hx hr h
  unfold loadV at h
  split at h
  case h_2 => cases h
  obtain ⟨_, l, hl, rfl⟩ := VR.ptr_ hx
  refine ⟨v', h1, ?_⟩
  simpa [Instr.loadAt, Instr.sureAddr, asAddr] using h2
theorem results_sound {M : Places} {σ : Store} {w : World} {act : List Value} {a : Act} (hact : ActR ds M act a) (hr : Rel M σ w) (F : ResultVar → Sem Value) (hF : F = fun r => match r with
      | .tmp t => pure (a.tmps.getD t undef)
      | .cell x t => do loadVar t (← asAddr (a.tmps.getD x undef))) : ∀ {rs : List ResultVar} {vs : List Value}, resVs P act σ rs = some vs →
    ∃ us, (List.mapM F rs).run P w = .ok us w ∧ vs.length = us.length ∧ ∀ (i : Nat) (v v' : Value), vs[i]? = some v → us[i]? = some v' → VR M false v v'
  | [], vs, h => by
    simp only [resVs, Option.some.injEq] at h
    subst h
    exact ⟨[], rfl, rfl, fun i v v' hv => by simp at hv⟩
  | r :: rs, vs, h => by
    simp only [resVs] at h
    cases hrv : resV P act σ r with
    | none => rw [hrv] at h; cases h
    | some v =>
      cases hrs : resVs P act σ rs with
      | none => rw [hrv, hrs] at h; cases h
      | some us =>
        rw [hrv, hrs] at h
        simp only [Option.some.injEq] at h
        subst h
        obtain ⟨us', h1, h2, h3⟩ := results_sound hact hr F hF hrs
        have hone : ∃ v', (F r).run P w = .ok v' w ∧ VR M false v v' := by
          cases r with
          | tmp t =>
            simp only [resV, Option.some.injEq] at hrv
            subst hrv
            exact ⟨_, by rw [hF]; rfl, hact.get t⟩
          | cell x t =>
            simp only [resV] at hrv
            split at hrv
            · rename_i b n hb hn
              obtain ⟨v', k1, k2⟩ := cell_sound hb hn (hact.get x) hr hrv
              exact ⟨v', by rw [hF]; exact k2, k1⟩
            · cases hrv
        obtain ⟨v', k1, k2⟩ := hone
        refine ⟨v' :: us', ?_, by simp [h2], fun i v1 v2 hv1 hv2 => ?_⟩
        · simp only [List.mapM_cons, Sem.run_bind, Sem.run_pure, k1, Result.andThen, h1]
        · cases i with
          | zero => simp at hv1 hv2; subst hv1; subst hv2; exact k2
          | succ i => exact h3 i v1 v2 (by simpa using hv1) (by simpa using hv2)
theorem resOne_eq (us : List Value) : (if h : us.toArray.size = 1 then us.toArray[0] else Value.tuple us.toArray) = resOne us := by
  match us with
  | [] => rfl
  | [v] => rfl
  | v :: v2 :: r => rfl
theorem run_results {M : Places} {σ : Store} {w : World} {act : List Value} {a : Act} (hact : ActR ds M act a) (hr : Rel M σ w) {fn : Func} {vs : List Value} (h : resVs P act σ fn.results.toList = some vs) :
    ∃ us, (results fn a.tmps).run P w = .ok (resOne us) w ∧ vs.length = us.length ∧ ∀ (i : Nat) (v v' : Value), vs[i]? = some v → us[i]? = some v' → VR M false v v' := by
  obtain ⟨us, h1, h2, h3⟩ := results_sound hact hr _ rfl h
  refine ⟨us, ?_, h2, h3⟩
  have h' : fn.results = fn.results.toList.toArray := by simp
  unfold results
  rw [h', List.mapM_toArray]
  simp only [Sem.run_bind, Sem.run_map, Sem.run_pure]
  erw [h1]
  simp only [Result.andThen]
  rw [resOne_eq]

def noNextFn (fn : Func) : Bool := match fn.body with | some c => noNext c | none => true
theorem sim_of_body {f : FuncId} {fn : Func} {args : List Value} {σ : Store} {Q : Value → Store → Prop} (hf : P.funcs[f]? = some fn) (hok : okFn P fn = true) (hnn : noNextFn fn = true) (h : bodyG (PI P) P fn args σ Q) : Does P f args σ Q := by
  unfold okFn at hok
  unfold bodyG at h
  cases hb : fn.body with
  | none => rw [hb] at h; exact h.elim
  | some c =>
    rw [hb] at hok h
    simp only at hok h
    unfold noNextFn at hnn
    rw [hb] at hnn
    obtain ⟨e, a', σ', h1, h2, h3, h4⟩ := codeG_lin hnn h
    have hpost : ∃ vs, (∀ j, e ≠ .exit j) ∧ resVs P a' σ' fn.results.toList = some vs ∧ Q (resOne vs) σ' := by
      cases e with
      | exit j => exact h1.elim
      | normal =>
        simp only at h1
        split at h1
        · rename_i vs hvs; exact ⟨vs, fun j => by simp, hvs, h1⟩
        · exact h1.elim
      | ret =>
        simp only at h1
        split at h1
        · rename_i vs hvs; exact ⟨vs, fun j => by simp, hvs, h1⟩
        · exact h1.elim
    obtain ⟨vs, hne, hvs, hQ⟩ := hpost
    refine ⟨resOne vs, σ', ⟨h3, fun M w cargs hr hargs => ?_⟩, hQ⟩
    refine calls_of_wp hf hb (codeG_sound (ds := []) hok (M := M) ?_ hr h4 fun e2' act' σ2 M' w' b' k1 k2 k3 k4 => ?_)
    · refine ⟨fun t v hv => ?_, rfl⟩
      have hlen := hargs.1
      rw [List.getElem?_append] at hv
      split at hv
      · rename_i ht
        have hct : cargs[t]? = some cargs[t] := Array.getElem?_eq_getElem (by omega)
        exact ⟨cargs[t], by rw [Array.getElem?_append_left (by omega)]; exact hct, hargs.2 t v _ hv hct⟩
      · rename_i ht
        rw [List.getElem?_replicate] at hv
        split at hv
        · rename_i ht2
          cases hv
          refine ⟨undef, ?_, .junk _⟩
          rw [Array.getElem?_append_right (by omega), Array.getElem?_replicate, if_pos (by omega)]
        · cases hv
    · obtain ⟨rfl, rfl, rfl⟩ := k1
      obtain ⟨us, hres, hlen, hvals⟩ := run_results (P := P) k2 k3 hvs
      have hval : VR M' false (resOne vs) (resOne us) := by
        match vs, us, hlen, hvals with
        | [], [], _, _ => exact .tuple _ _ rfl fun i v v' hv => by simp at hv
        | [v], [u], _, hvals => exact hvals 0 v u rfl rfl
        | v :: v2 :: r, u :: u2 :: q, hlen, hvals =>
          refine .tuple _ _ (by simpa using hlen) fun i v v' hv hv' => ?_
          rw [List.getElem?_toArray] at hv hv'
          exact hvals i v v' hv hv'
      have fin : bodyPost P fn (fun e w' => ∃ M' v, e = .returned v ∧ VR M' false (resOne vs) v ∧ Rel M' σ2 w' ∧ Step σ M w σ2 M' w') .normal b' w' := ⟨k2.none_, _, hres, M', _, rfl, hval, k3, k4⟩
      cases e2' with
      | exit j => exact absurd rfl (hne j)
      | normal => exact fin
      | ret => exact fin
end Go.Am
end
section
/- The abstract machine, part 20: it is run. No program in sight. -/
set_option linter.all false
namespace Go.Am
open Go.RowKit
variable {P : Program}

/-- Alike, as far as is seen at a look. -/
def same1 : Value → Value → Bool
  | .bool a, .bool b => a == b
  | .int k a, .int l b => decide (k = l) && decide (a = b)
  | .string a, .string b => decide (a = b)
  | .pointer none, .pointer none => true
  | .pointer (some a), .pointer (some b) => decide (a = b)
  | .slice none a b, .slice none c d => decide (a = c) && decide (b = d)
  | .slice (some x) a b, .slice (some y) c d => decide (x = y) && decide (a = c) && decide (b = d)
  | .map a, .map b => decide (a = b)
  | .nilFunc, .nilFunc => true
  | .nilIface, .nilIface => true
  | .func (.func f) xs ys, .func (.func g) us vs => decide (f = g) && xs.isEmpty && ys.isEmpty && us.isEmpty && vs.isEmpty
  | _, _ => false
theorem same1_eq {a b : Value} (h : same1 a b = true) : a = b := by
  unfold same1 at h
  split at h <;> simp_all
def sameVs : List Value → List Value → Bool
  | [], [] => true
  | a :: as, b :: bs => same1 a b && sameVs as bs
  | _, _ => false
theorem sameVs_eq : ∀ {a b : List Value}, sameVs a b = true → a = b
  | [], [], _ => rfl
  | a :: as, b :: bs, h => by
    simp only [sameVs, Bool.and_eq_true] at h
    rw [same1_eq h.1, sameVs_eq h.2]
  | [], _ :: _, h => by cases h
  | _ :: _, [], h => by cases h
def sameV : Value → Value → Bool
  | .agg a, .agg b => sameVs a.toList b.toList
  | .tuple a, .tuple b => sameVs a.toList b.toList
  | a, b => same1 a b
theorem sameV_eq {a b : Value} (h : sameV a b = true) : a = b := by
  unfold sameV at h
  split at h
  · have := sameVs_eq h
    rw [Array.toList_inj] at this
    rw [this]
  · have := sameVs_eq h
    rw [Array.toList_inj] at this
    rw [this]
  · exact same1_eq h
def sameO : Option Value → Value → Bool
  | some a, b => sameV a b
  | none, _ => false
theorem sameO_eq {a : Option Value} {b : Value} (h : sameO a b = true) : a = some b := by
  cases a with
  | none => cases h
  | some a => rw [sameV_eq (show sameV a b = true from h)]

abbrev Ans := Option (Value × Store)
def roundsO (F : (List Value → Store → Ans) → List Value → Store → Ans) : Nat → List Value → Store → Ans
  | 0, _, _ => none
  | n + 1, xs, σ => F (roundsO F n) xs σ
def RI (C : FuncId → List Value → Store → Ans) (n : Nat) : Interp Ans where
  fail := none
  call f args σ K := match C f args σ with | some (v, σ') => K v σ' | none => none
  loop F xs σ := roundsO F n xs σ
  check x v r := bif sameO x v then r else none
  all l K := match l with | [p] => K p.1 p.2 | _ => none

/-- Functions whose answer is given. -/
abbrev Given := FuncId → Option (List Value → Store → Ans)
def pcall (P : Program) (T : Given) : Nat → FuncId → List Value → Store → Ans
  | 0, _, _, _ => none
  | n + 1, f, args, σ =>
    match T f with
    | some g => g args σ
    | none =>
      match P.funcs[f]? with
      | some fn => bif okFn P fn && noNextFn fn then bodyG (RI (pcall P T n) 100000) P fn args σ (fun v σ' => some (v, σ')) else none
      | none => none

section
variable {C : FuncId → List Value → Store → Ans} (hC : ∀ f args σ v σ', C f args σ = some (v, σ') → Sim P f args σ v σ') {n : Nat} {res : Value × Store}
include hC
theorem doAct_run {x : Option Action} {σ : Store} {K : Value → Store → Ans} {K' : Value → Store → Prop} (hk : ∀ v s, K v s = some res → K' v s) (h : doAct (RI C n) x σ K = some res) : doAct (PI P) x σ K' := by
  cases x with
  | none => cases h
  | some x =>
    cases x with
    | val v => exact hk _ _ h
    | rd f =>
      simp only [doAct] at h ⊢
      split at h
      · exact hk _ _ h
      · cases h
    | new o mk => exact hk _ _ h
    | eff f =>
      simp only [doAct] at h ⊢
      split at h
      · exact hk _ _ h
      · cases h
    | call f args =>
      simp only [doAct, RI] at h
      split at h
      · rename_i v σ' hv
        exact ⟨v, σ', hC _ _ _ _ _ hv, hk _ _ h⟩
      · cases h
    | pick f =>
      simp only [doAct, RI] at h
      simp only [doAct]
      split at h
      · rename_i l hl
        split at h
        · rename_i p
          intro v s hm
          rw [List.mem_singleton] at hm
          rw [← hm] at h
          exact hk _ _ h
        · cases h
      · cases h
theorem seqOps_run {ops : Array Oper} : ∀ {l : List Oper} {K : List Value → Store → Ans} {K' : List Value → Store → Prop} {a : List Value} {σ : Store}, (∀ a s, K a s = some res → K' a s) → seqOps (RI C n) P ops l K a σ = some res → seqOps (PI P) P ops l K' a σ
  | [], _, _, _, _, hk, h => hk _ _ h
  | o :: rest, K, K', a, σ, hk, h => by
    unfold seqOps at h ⊢
    simp only at h ⊢
    split at h
    · exact doAct_run hC (fun v s hh => seqOps_run hk hh) h
    · exact seqOps_run hk h
    · cases h
omit hC in
theorem recheck_run {k : Nat} {s : Store} : ∀ {fl : List (Nat × ((Nat → Option SObj) → Option Value) × Value)} {r : Ans} {r' : Prop}, recheck (RI C n) k s fl r = some res → (r = some res → r') → recheck (PI P) k s fl r'
  | [], _, _, h, hr => hr h
  | (hi, f, v) :: fl, r, r', h, hr => by
    unfold recheck at h ⊢
    cases hb : Nat.ble k hi <;> rw [hb] at h <;> simp only [cond_true, cond_false] at h ⊢
    · exact recheck_run h hr
    · simp only [RI] at h
      cases hs : sameO (f s.get) v <;> rw [hs] at h <;> simp only [cond_true, cond_false] at h
      · cases h
      · exact ⟨sameO_eq hs, recheck_run h hr⟩
omit hC in
theorem checkAll_run {f : (Nat → Option SObj) → Option Value} {v : Value} : ∀ {ss : List Store} {r : Ans} {r' : Prop}, checkAll (RI C n) f v ss r = some res → (r = some res → r') → checkAll (PI P) f v ss r'
  | [], _, _, h, hr => hr h
  | s :: ss, r, r', h, hr => by
    simp only [checkAll, RI] at h ⊢
    cases hs : sameO (f s.get) v <;> rw [hs] at h <;> simp only [cond_true, cond_false] at h
    · cases h
    · exact ⟨sameO_eq hs, checkAll_run h hr⟩
theorem drawOps_run {ops : Array Oper} {b : Array Nat} : ∀ {l : List Nat} {K : List Value → Store → Ans} {K' : List Value → Store → Prop} {a : List Value} {past : List Store} {cur : Store} {fl : List (Nat × ((Nat → Option SObj) → Option Value) × Value)}, (∀ a s, K a s = some res → K' a s) → drawOps (RI C n) P ops b l K a past cur fl = some res → drawOps (PI P) P ops b l K' a past cur fl
  | [], _, _, _, _, _, _, hk, h => hk _ _ h
  | i :: rest, K, K', a, past, cur, fl, hk, h => by
    unfold drawOps at h ⊢
    cases ho : ops[i]? with
    | none => rw [ho] at h; cases h
    | some o =>
      rw [ho] at h
      simp only at h ⊢
      cases he : isEff o.op <;> rw [he] at h <;> simp only [cond_true, cond_false] at h ⊢
      · split at h
        · cases h
        · exact drawOps_run hk h
        · split at h
          · exact drawOps_run hk h
          · exact drawOps_run hk h
          · split at h
            · cases h
            · exact checkAll_run h (drawOps_run hk)
          · cases h
      · split at h
        · exact doAct_run hC (fun v s hh => recheck_run hh (drawOps_run hk)) h
        · exact recheck_run h (drawOps_run hk)
        · cases h
theorem codeG_run : ∀ {c : Code} {D : List Nat} {K : Out → List Value → Store → Ans} {K' : Out → List Value → Store → Prop} {a : List Value} {σ : Store}, (∀ e a s, K e a s = some res → K' e a s) → codeG (RI C n) P c D K a σ = some res → codeG (PI P) P c D K' a σ := by
  intro c
  induction c with
  | skip => intro D K K' a σ hk h; exact hk _ _ _ h
  | label l => intro D K K' a σ hk h; exact hk _ _ _ h
  | region id ops d =>
    intro D K K' a σ hk h
    cases d with
    | false => exact seqOps_run hC (fun a s hh => hk _ _ _ hh) h
    | true => exact drawOps_run hC (fun a s hh => hk _ _ _ hh) h
  | seq x y ihx ihy =>
    intro D K K' a σ hk h
    refine ihx (fun e a s hh => ?_) h
    cases e with
    | normal => exact ihy hk hh
    | _ => exact hk _ _ _ hh
  | cond c x y ihx ihy =>
    intro D K K' a σ hk h
    unfold codeG at h ⊢
    split at h
    · exact ihx hk h
    · exact ihy hk h
    · cases h
  | block id c ih =>
    intro D K K' a σ hk h
    refine ih (fun e a s hh => ?_) h
    cases e with
    | exit j =>
      simp only at hh ⊢
      cases hb : j == id <;> rw [hb] at hh <;> simp only [cond_true, cond_false] at hh ⊢ <;> exact hk _ _ _ hh
    | _ => exact hk _ _ _ hh
  | loop c ih =>
    intro D K K' a σ hk h
    refine codeG_loop.2 ⟨n, ?_⟩
    have key : ∀ (F : (List Value → Store → Ans) → List Value → Store → Ans) (F' : (List Value → Store → Prop) → List Value → Store → Prop),
        (∀ N N', (∀ xs s, N xs s = some res → N' xs s) → ∀ xs s, F N xs s = some res → F' N' xs s) → ∀ n xs s, roundsO F n xs s = some res → rounds F' n xs s := by
      intro F F' hF n
      induction n with
      | zero => intro xs s h; cases h
      | succ n ihn => intro xs s h; exact hF _ _ ihn xs s h
    refine key _ _ (fun N N' hN xs s hh => ?_) n _ _ h
    unfold loopF
    refine ih (fun e a s h1 => ?_) hh
    cases e with
    | normal => exact hN _ _ h1
    | _ => exact hk _ _ _ h1
  | exit id => intro D K K' a σ hk h; exact hk _ _ _ h
  | ret => intro D K K' a σ hk h; exact hk _ _ _ h
  | _ => intros; rename_i h; cases h
theorem bodyG_run {fn : Func} {args : List Value} {σ : Store} {K : Value → Store → Ans} {K' : Value → Store → Prop} (hk : ∀ v s, K v s = some res → K' v s) (h : bodyG (RI C n) P fn args σ K = some res) : bodyG (PI P) P fn args σ K' := by
  unfold bodyG at h ⊢
  split at h
  · cases h
  · refine codeG_run hC (fun e a s hh => ?_) h
    cases e with
    | exit j => cases hh
    | _ =>
      simp only at hh ⊢
      split at hh
      · exact hk _ _ hh
      · cases hh
end
theorem pcall_sim {T : Given} (hT : ∀ f g, T f = some g → ∀ args σ v σ', g args σ = some (v, σ') → Sim P f args σ v σ') : ∀ n f args σ v σ', pcall P T n f args σ = some (v, σ') → Sim P f args σ v σ'
  | 0, _, _, _, _, _, h => by cases h
  | n + 1, f, args, σ, v, σ', h => by
    unfold pcall at h
    split at h
    · rename_i g hg; exact hT f g hg args σ v σ' h
    · split at h
      · rename_i fn hf
        cases hok : okFn P fn && noNextFn fn <;> rw [hok] at h <;> simp only [cond_true, cond_false] at h
        · cases h
        · rw [Bool.and_eq_true] at hok
          have := sim_of_body hf hok.1 hok.2 (bodyG_run (K' := fun v2 σ2 => (v2, σ2) = (v, σ')) (pcall_sim hT n) (fun v2 s2 hh => by injection hh) h)
          obtain ⟨r, σ2, h1, h2⟩ := this
          cases h2
          exact h1
      · cases h
end Go.Am
end
section
/- The abstract machine, part 21: what a run says of a call. No program in sight. -/
set_option linter.all false
namespace Go.Am
open Go.RowKit
variable {P : Program}

def yes : Ans → Bool
  | some (.bool true, _) => true
  | _ => false
theorem yes_spec {x : Ans} (h : yes x = true) : ∃ σ', x = some (.bool true, σ') := by
  unfold yes at h
  split at h
  · exact ⟨_, rfl⟩
  · cases h

/-- Nothing that lay there is changed by a call that owns nothing. -/
theorem Sim.below {f : FuncId} {args : List Value} {σ σ' : Store} {r : Value} (h : Sim P f args σ r σ') {M : Places} {w : World} {cargs : Array Value} (hr : Rel M σ w) (ha : VRs M args cargs) (ho : ∀ i o, σ.get i = some o → o.own = false) :
    Calls P f cargs w fun e w' => ∃ M' v, e = .returned v ∧ VR M' false r v ∧ Rel M' σ' w' ∧ Below w.heap.size w w' := by
  refine Calls.mono (h.2 M w cargs hr ha) ?_
  rintro e w' ⟨M', v, h1, h2, h3, h4⟩
  refine ⟨M', v, h1, h2, h3, h4.os, h4.tape, h4.output, h4.size, fun k hk => h4.frame k hk ?_⟩
  rintro ⟨i, o, l, k1, k2, _⟩
  rw [ho i o k1] at k2; cases k2
theorem empty_get (i : Nat) : Store.empty.get i = none := Store.get_none (Nat.zero_le _)
theorem rel_empty (w : World) : Rel (fun _ => none) Store.empty w :=
  ⟨fun i o h => (by rw [empty_get] at h; cases h), fun i j a b l l' h => (by rw [empty_get] at h; cases h), fun _ _ => rfl⟩
theorem calls_of_run {T : Given} (hT : ∀ f g, T f = some g → ∀ args σ v σ', g args σ = some (v, σ') → Sim P f args σ v σ') {n : Nat} {f : FuncId} (h : yes (pcall P T n f [] Store.empty) = true) (w : World) :
    Calls P f #[] w fun e w' => e = .returned (.bool true) ∧ Below w.heap.size w w' := by
  obtain ⟨σ', hx⟩ := yes_spec h
  have hs := pcall_sim hT n f [] Store.empty _ _ hx
  refine Calls.mono (hs.below (rel_empty w) ⟨rfl, fun i v v' hv => by simp at hv⟩ fun i o h => by rw [empty_get] at h; cases h) ?_
  rintro e w' ⟨M', v, rfl, h2, _, h4⟩
  rw [h2.bool_]
  exact ⟨rfl, h4⟩
/-- A call of scalars that answers a scalar does so whatever else lies there, and leaves it. -/
theorem Sim.anywhere {f : FuncId} {args : List Value} {r : Value} {σ' : Store} (h : Sim P f args Store.empty r σ') (ha : ∀ v ∈ args, scalar v = true) (hr : scalar r = true) (σ : Store) : Sim P f args σ r σ := by
  refine ⟨Nat.le_refl _, fun M w cargs hrel hargs => ?_⟩
  have hargs0 : VRs (fun _ => none) args cargs := ⟨hargs.1, fun i v v' hv hv' => by
    have hs := ha v (List.mem_of_getElem? hv)
    rw [VR.scalar_eq hs (hargs.2 i v v' hv hv')]
    exact .cell _ _ (.scalar v hs)⟩
  refine Calls.mono (h.below (rel_empty w) hargs0 fun i o h => by rw [empty_get] at h; cases h) ?_
  rintro e w' ⟨M', v, rfl, h2, _, hb⟩
  rw [VR.scalar_eq hr h2]
  refine ⟨M, r, rfl, .cell _ _ (.scalar r hr), ⟨fun i o hi => ?_, hrel.apart, hrel.dom⟩, ⟨Nat.le_refl _, M.le_refl, hb.size, fun b hb0 _ => hb.block b hb0, fun _ _ h => h, fun _ _ h => h, hb.os, hb.tape, hb.output⟩⟩
  obtain ⟨l, hl, hs⟩ := hrel.shows i o hi
  exact ⟨l, hl, hs.same (hb.block _ hs.lt)⟩
theorem Shows.back {M M' : Places} {w w' : World} {l : Loc} {o : SObj} (hm : M.le M') (h : Shows M w l o) (h' : Shows M' w' l o) : Shows M w' l o := by
  cases o with
  | cells c g =>
    obtain ⟨h1, arr, e, fz, h2, h3, h4, h5⟩ := h
    obtain ⟨k1, arr', e', fz', k2, k3, k4, k5⟩ := h'
    refine ⟨k1, arr', e', fz', k2, fun j v hv => ?_, k4, k5⟩
    obtain ⟨u, a1, a2⟩ := h3 j v hv
    obtain ⟨u', b1, b2⟩ := k3 j v hv
    exact ⟨u', b1, a2.back hm b2⟩
  | map es ck =>
    obtain ⟨h1, es1, h2, h3⟩ := h
    obtain ⟨k1, es2, k2, k3⟩ := h'
    refine ⟨k1, es2, k2, k3.1, fun i e e' he he' => ?_⟩
    have hi : i < es.length := (List.getElem?_eq_some_iff.1 he).1
    have hi1 : i < es1.size := by have := h3.1; omega
    have he1 : es1[i]? = some es1[i] := Array.getElem?_eq_getElem hi1
    obtain ⟨a1, a2, a3⟩ := h3.2 i e _ he he1
    obtain ⟨b1, b2, b3⟩ := k3.2 i e e' he he'
    exact ⟨b1, a2.back hm b2, a3.back hm b3⟩
  | lent c =>
    obtain ⟨h1, h0, h2⟩ := h
    obtain ⟨k1, k0, k2⟩ := h'
    refine ⟨k1, k0, fun j v hv => ?_⟩
    obtain ⟨u, a1, a2⟩ := h2 j v hv
    obtain ⟨u', b1, b2⟩ := k2 j v hv
    exact ⟨u', b1, a2.back hm b2⟩
  | iter m since seen ck =>
    obtain ⟨h1, h0, mb, h2, h3⟩ := h
    obtain ⟨k1, k0, mb', k2, k3⟩ := h'
    exact ⟨k1, k0, mb', k2, h3.back hm k3⟩
/-- A call that changes nothing that was there and answers no id leaves the store. -/
theorem Sim.pure {f : FuncId} {args : List Value} {σ σ' : Store} {r : Value} (h : Sim P f args σ r σ') (hr : closed r = true) (hs : ∀ i o, σ.get i = some o → σ'.get i = some o) : Sim P f args σ r σ := by
  refine ⟨Nat.le_refl _, fun M w cargs hrel hargs => Calls.mono (h.2 M w cargs hrel hargs) ?_⟩
  rintro e w' ⟨M', v, rfl, h2, h3, h4⟩
  refine ⟨M, v, rfl, (VR.of_closed hr).back h4.le h2, ⟨fun i o hi => ?_, hrel.apart, hrel.dom⟩, ⟨Nat.le_refl _, M.le_refl, h4.size, h4.frame, fun _ _ h => h, fun _ _ h => h, h4.os, h4.tape, h4.output⟩⟩
  obtain ⟨l, hl, hsh⟩ := hrel.shows i o hi
  obtain ⟨l', hl', hsh'⟩ := h3.shows i o (hs i o hi)
  have := h4.le i l hl
  rw [this] at hl'; cases hl'
  exact ⟨l, hl, hsh.back h4.le hsh'⟩
theorem Does.pure {f : FuncId} {args : List Value} {σ : Store} {r : Value} {Q : Value → Store → Prop} (h : Does P f args σ fun r' σ' => r' = r ∧ ∀ i o, σ.get i = some o → σ'.get i = some o) (hr : closed r = true) (hq : Q r σ) : Does P f args σ Q := by
  obtain ⟨r', σ', h1, rfl, h2⟩ := h
  exact ⟨r', σ, h1.pure hr h2, hq⟩
/-- Nothing is given. -/
def nothing : Given := fun _ => none
theorem nothing_ok : ∀ f g, nothing f = some g → ∀ args σ v σ', g args σ = some (v, σ') → Sim P f args σ v σ' := fun _ _ h => by cases h
end Go.Am
end
section
/- The abstract machine, part 22: laws for contracts. No program in sight. -/
set_option linter.all false
namespace Go.Am
open Go.RowKit
variable {P : Program} {ops : Array Oper} {o : Oper} {rest : List Oper} {K : List Value → Store → Prop} {a a' : List Value} {σ σ' : Store} {v : Value}

theorem st_val (hg : guardA ops a o = some true) (hA : action P o (aev a) = some (.val v)) (ha : aput a o.dst v = a') (h : seqOps (PI P) P ops rest K a' σ) : seqOps (PI P) P ops (o :: rest) K a σ := by
  subst ha
  unfold seqOps; simp only [hg, hA]; exact h
theorem st_rd {f : (Nat → Option SObj) → Option Value} (hg : guardA ops a o = some true) (hA : action P o (aev a) = some (.rd f)) (hf : f σ.get = some v) (ha : aput a o.dst v = a') (h : seqOps (PI P) P ops rest K a' σ) : seqOps (PI P) P ops (o :: rest) K a σ := by
  subst ha
  unfold seqOps; simp only [hg, hA, doAct, hf]; exact h
theorem st_new {ob : SObj} {mk : Nat → Value} (hg : guardA ops a o = some true) (hA : action P o (aev a) = some (.new ob mk)) (ha : aput a o.dst (mk σ.next) = a') (h : seqOps (PI P) P ops rest K a' (σ.push ob)) : seqOps (PI P) P ops (o :: rest) K a σ := by
  subst ha
  unfold seqOps; simp only [hg, hA]; exact h
theorem st_eff {f : Store → Option (Value × Store)} (hg : guardA ops a o = some true) (hA : action P o (aev a) = some (.eff f)) (hf : f σ = some (v, σ')) (ha : aput a o.dst v = a') (h : seqOps (PI P) P ops rest K a' σ') : seqOps (PI P) P ops (o :: rest) K a σ := by
  subst ha
  unfold seqOps; simp only [hg, hA, doAct, hf]; exact h
theorem st_call {f : FuncId} {args : List Value} (hg : guardA ops a o = some true) (hA : action P o (aev a) = some (.call f args)) (h : Does P f args σ fun v σ' => seqOps (PI P) P ops rest K (aput a o.dst v) σ') : seqOps (PI P) P ops (o :: rest) K a σ := by
  unfold seqOps; simp only [hg, hA]; exact h
theorem st_skip (hg : guardA ops a o = some false) (ha : aput a o.dst gone = a') (h : seqOps (PI P) P ops rest K a' σ) : seqOps (PI P) P ops (o :: rest) K a σ := by
  subst ha
  unfold seqOps; simp only [hg]; exact h
theorem set_same {t : Nat} {x : Value} (h : a[t]? = some x) : a.set t x = a := by
  apply List.ext_getElem?
  intro i
  rw [List.getElem?_set]
  by_cases e : t = i
  · subst e
    rw [if_pos rfl, h]
    split
    · rfl
    · rename_i hn
      rw [List.getElem?_eq_none (by omega)] at h
      cases h
  · rw [if_neg e]
theorem st_learn {R : List Value → Store → Prop} {t : Nat} {b : Bool} (ht : a[t]? = some (.bool b)) (h1 : b = true → R (a.set t (.bool true)) σ) (h0 : b = false → R (a.set t (.bool false)) σ) : R a σ := by
  cases b with
  | true => have := h1 rfl; rwa [set_same ht] at this
  | false => have := h0 rfl; rwa [set_same ht] at this

/-! ## what side goals want -/
theorem indexAddr_arr {t e : TypeId} {n c b o : Nat} {k : IntKind} {i : Int} (hu : P.underlying t = some (.array n e)) (hc : tSize P e = some c) (h0 : 0 ≤ i) (h1 : i < n) : indexAddrV P t (.pointer (some ⟨b, o, none⟩)) (.int k i) = some (.pointer (some ⟨b, o + i.toNat * c, none⟩)) := by
  simp only [indexAddrV, hu, hc, h0, h1, and_self, if_true]
theorem indexAddr_slice {t e : TypeId} {n c b o cap : Nat} {s : Option Nat} {k : IntKind} {i : Int} (hu : P.underlying t = some (.slice e)) (hc : tSize P e = some c) (hs : s = none ∨ s = some c) (h0 : 0 ≤ i) (h1 : i < n) : indexAddrV P t (.slice (some ⟨b, o, s⟩) n cap) (.int k i) = some (.pointer (some ⟨b, o + i.toNat * c, none⟩)) := by
  rcases hs with rfl | rfl <;> simp [indexAddrV, hu, hc, h0, h1]
theorem load_cells {n i o : Nat} {g : Nat → Option SObj} {c : List Value} {gr : Option Nat} (h : g i = some (.cells c gr)) (hl : o + n ≤ c.length) : loadV true n (.pointer (some ⟨i, o, none⟩)) g = some (.agg ((c.drop o).take n).toArray) := by
  simp [loadV, h, part?, Nat.ble_eq_true_of_le hl]
theorem load_all {n i : Nat} {g : Nat → Option SObj} {c : List Value} {gr : Option Nat} (h : g i = some (.cells c gr)) (hl : c.length = n) : loadV true n (.pointer (some ⟨i, 0, none⟩)) g = some (.agg c.toArray) := by
  rw [load_cells h (by omega)]
  simp [List.take_of_length_le (Nat.le_of_eq hl)]
theorem load_cell {n i o : Nat} {g : Nat → Option SObj} {c : List Value} {gr : Option Nat} {v : Value} (h : g i = some (.cells c gr)) (hv : c[o]? = some v) : loadV false n (.pointer (some ⟨i, o, none⟩)) g = some v := by
  simp [loadV, h, part?, hv]
theorem store_cells {n i o : Nat} {c vs : List Value} {gr : Option Nat} {v : Value} (h : σ.get i = some (.cells c gr)) (ha : asCells n v = some vs) (hl : o + n ≤ c.length) : storeV n (.pointer (some ⟨i, o, none⟩)) v σ = some (junk, σ.put i (some (.cells (splice c o vs) gr))) := by
  simp [storeV, h, ha, Nat.ble_eq_true_of_le hl]
theorem splice_one {c : List Value} {o : Nat} {v : Value} (h : o < c.length) : splice c o [v] = c.set o v := by
  rw [List.set_eq_take_append_cons_drop, if_pos h]
  unfold splice
  cases o with
  | zero => simp
  | succ o => simp
theorem wrap_i64 {n : Int} (h0 : -9223372036854775808 ≤ n) (h1 : n < 9223372036854775808) : IntKind.i64.wrap n = n := by
  have h2 : (2 : Int) ^ 64 = 18446744073709551616 := rfl
  have h3 : (2 : Int) ^ (64 - 1) = 9223372036854775808 := rfl
  simp only [IntKind.wrap, IntKind.bits, IntKind.signed, Bool.true_and, decide_eq_true_eq, h2, h3]
  split <;> omega
section
variable {b : Array Nat} {i : Nat} {lrest : List Nat} {past : List Store} {cur s : Store} {fl fl' : List (Nat × ((Nat → Option SObj) → Option Value) × Value)}
theorem dr_val (ho : ops[i]? = some o) (he : isEff o.op = false) (hg : guardA ops a o = some true) (hA : action P o (aev a) = some (.val v)) (ha : aput a o.dst v = a') (h : drawOps (PI P) P ops b lrest K a' past cur fl) : drawOps (PI P) P ops b (i :: lrest) K a past cur fl := by
  subst ha
  unfold drawOps; simp only [ho, he, hg, hA, cond_false]; exact h
theorem dr_skip (ho : ops[i]? = some o) (he : isEff o.op = false) (hg : guardA ops a o = some false) (ha : aput a o.dst gone = a') (h : drawOps (PI P) P ops b lrest K a' past cur fl) : drawOps (PI P) P ops b (i :: lrest) K a past cur fl := by
  subst ha
  unfold drawOps; simp only [ho, he, hg, cond_false]; exact h
theorem dr_new {ob : SObj} {mk : Nat → Value} (ho : ops[i]? = some o) (he : isEff o.op = false) (hg : guardA ops a o = some true) (hA : action P o (aev a) = some (.new ob mk)) (ha : aput a o.dst (mk cur.next) = a') (h : drawOps (PI P) P ops b lrest K a' past (cur.push ob) fl) : drawOps (PI P) P ops b (i :: lrest) K a past cur fl := by
  subst ha
  unfold drawOps; simp only [ho, he, hg, hA, cond_false]; exact h
theorem dr_rd {f : (Nat → Option SObj) → Option Value} (ho : ops[i]? = some o) (he : isEff o.op = false) (hg : guardA ops a o = some true) (hA : action P o (aev a) = some (.rd f)) (hs : past.getLastD cur = s) (hf : f s.get = some v) (ha : aput a o.dst v = a')
    (hfl : (bif Nat.blt (highOf ops b i + 1) past.length || Nat.beq (highOf ops b i + 1) past.length then fl else (highOf ops b i, f, v) :: fl) = fl') (h : checkAll (PI P) f v ((past.drop (lowOf ops b i)).dropLast) (drawOps (PI P) P ops b lrest K a' past cur fl')) : drawOps (PI P) P ops b (i :: lrest) K a past cur fl := by
  subst ha hs hfl
  unfold drawOps; simp only [ho, he, hg, hA, hf, cond_false]; exact h
theorem dr_eff {f : Store → Option (Value × Store)} (ho : ops[i]? = some o) (he : isEff o.op = true) (hg : guardA ops a o = some true) (hA : action P o (aev a) = some (.eff f)) (hf : f cur = some (v, s)) (ha : aput a o.dst v = a') (h : recheck (PI P) past.length s fl (drawOps (PI P) P ops b lrest K a' (past ++ [s]) s fl)) : drawOps (PI P) P ops b (i :: lrest) K a past cur fl := by
  subst ha
  unfold drawOps; simp only [ho, he, hg, hA, doAct, hf, cond_true]; exact h
theorem dr_call {f : FuncId} {args : List Value} (ho : ops[i]? = some o) (he : isEff o.op = true) (hg : guardA ops a o = some true) (hA : action P o (aev a) = some (.call f args)) (h : Does P f args cur fun v s => recheck (PI P) past.length s fl (drawOps (PI P) P ops b lrest K (aput a o.dst v) (past ++ [s]) s fl)) : drawOps (PI P) P ops b (i :: lrest) K a past cur fl := by
  unfold drawOps; simp only [ho, he, hg, hA, cond_true]; exact h
theorem dr_effval (ho : ops[i]? = some o) (he : isEff o.op = true) (hg : guardA ops a o = some true) (hA : action P o (aev a) = some (.val v)) (ha : aput a o.dst v = a') (h : recheck (PI P) past.length cur fl (drawOps (PI P) P ops b lrest K a' (past ++ [cur]) cur fl)) : drawOps (PI P) P ops b (i :: lrest) K a past cur fl := by
  subst ha
  unfold drawOps; simp only [ho, he, hg, hA, doAct, cond_true]; exact h
theorem dr_effskip (ho : ops[i]? = some o) (he : isEff o.op = true) (hg : guardA ops a o = some false) (ha : aput a o.dst gone = a') (h : recheck (PI P) past.length cur fl (drawOps (PI P) P ops b lrest K a' (past ++ [cur]) cur fl)) : drawOps (PI P) P ops b (i :: lrest) K a past cur fl := by
  subst ha
  unfold drawOps; simp only [ho, he, hg, cond_true]; exact h
theorem rc_yes {k hi : Nat} {f : (Nat → Option SObj) → Option Value} {r : Prop} (hk : Nat.ble k hi = true) (h0 : f s.get = some v) (h : recheck (PI P) k s fl r) : recheck (PI P) k s ((hi, f, v) :: fl) r := by
  unfold recheck; rw [hk]; exact ⟨h0, h⟩
theorem rc_no {k hi : Nat} {f : (Nat → Option SObj) → Option Value} {r : Prop} (hk : Nat.ble k hi = false) (h : recheck (PI P) k s fl r) : recheck (PI P) k s ((hi, f, v) :: fl) r := by
  unfold recheck; rw [hk]; exact h
theorem ca_cons {f : (Nat → Option SObj) → Option Value} {r : Prop} {ss : List Store} (h0 : f s.get = some v) (h : checkAll (PI P) f v ss r) : checkAll (PI P) f v (s :: ss) r := ⟨h0, h⟩
end
theorem append_nil {sz by_ j m c : Nat} {gj gr : Option Nat} {news : List Value} (hj : σ.get j = some (.cells news gr)) (hl : news.length = (m + 1) * sz) (hb : (m + 1) * by_ ≤ 140737488355328) (hm : m + 1 ≤ 9223372036854775807) :
    appendV sz by_ (.slice none 0 0) (.slice (some ⟨j, 0, gj⟩) (m + 1) c) σ = some (.slice (some ⟨σ.next, 0, some sz⟩) (m + 1) (m + 1), σ.push (.cells news (some sz))) := by
  simp [appendV, lenV, sourceV, cellsAt, hj, Nat.ble_eq_true_of_le (Nat.le_of_eq hl.symm), Nat.ble_eq_true_of_le hb, Nat.ble_eq_true_of_le hm, List.take_of_length_le (Nat.le_of_eq hl)]
theorem append_full {sz by_ i j n m c : Nat} {gj gr : Option Nat} {cs news : List Value} (hi : σ.get i = some (.cells cs (some sz))) (hcl : cs.length = n * sz) (hj : σ.get j = some (.cells news gr)) (hl : news.length = (m + 1) * sz) (hb : (n + (m + 1)) * by_ ≤ 140737488355328) (hm : n + (m + 1) ≤ 9223372036854775807) :
    appendV sz by_ (.slice (some ⟨i, 0, some sz⟩) n n) (.slice (some ⟨j, 0, gj⟩) (m + 1) c) σ = some (.slice (some ⟨σ.next, 0, some sz⟩) (n + (m + 1)) (n + (m + 1)), (σ.put i none).push (.cells (cs ++ news) (some sz))) := by
  have h0 : Nat.ble (n + (m + 1)) n = false := by
    cases hx : Nat.ble (n + (m + 1)) n with
    | false => rfl
    | true => have := Nat.le_of_ble_eq_true hx; omega
  have h1 : Nat.ble (0 + n * sz) cs.length = true := Nat.ble_eq_true_of_le (by omega)
  have h2 : cs.take (n * sz) = cs := List.take_of_length_le (by omega)
  simp [appendV, lenV, sourceV, cellsAt, hi, hj, h0, h2, Nat.ble_eq_true_of_le (Nat.le_of_eq hl.symm), Nat.ble_eq_true_of_le hb, Nat.ble_eq_true_of_le hm, List.take_of_length_le (Nat.le_of_eq hl), hcl, Nat.ble_eq_true_of_le (Nat.le_refl (n * sz))]
/-- A slice that is built. -/
def sliceA (P : Program) (t : TypeId) (n : Nat) (parts : List (Nat × Value)) : Option Action :=
  match P.underlying t with
  | some (.slice el) =>
    (match tZeros P el with
    | some ze =>
      (match buildL (List.replicate n ze) parts with
      | some fs => bif Nat.ble (n * ze.length) 16777216 then some (.new (.cells fs.flatten none) fun i => .slice (some ⟨i, 0, none⟩) n n) else none
      | none => none)
    | none => none)
  | _ => none
theorem slice1_spec {t el : TypeId} {ze c : List Value} {v : Value} (hu : P.underlying t = some (.slice el)) (hz : tZeros P el = some ze) (hc : asCells ze.length v = some c) (hl : ze.length ≤ 16777216) : sliceA P t 1 [(0, v)] = some (.new (.cells c none) fun i => .slice (some ⟨i, 0, none⟩) 1 1) := by
  simp [sliceA, hu, hz, buildL, hc, Nat.ble_eq_true_of_le hl]
theorem build_struct {t : TypeId} {fields : Array Field} {z : List Value} {ns : List Nat} {parts : List (Nat × Value)} {fs : List (List Value)} (hu : P.underlying t = some (.struct fields)) (hz : tZeros P t = some z) (hn : fieldSizes P fields.toList = some ns) (hb : buildL (cutL ns z) parts = some fs) : buildAgg P t parts = some (.agg fs.flatten.toArray) := by
  simp [buildAgg, hu, hz, hn, hb]
theorem res_nil {a : List Value} {σ : Store} : resVs P a σ [] = some [] := rfl
theorem res_tmp {a : List Value} {σ : Store} {t : Nat} {rs : List ResultVar} {vs : List Value} {v : Value} (hv : aget a t = v) (h : resVs P a σ rs = some vs) : resVs P a σ (.tmp t :: rs) = some (v :: vs) := by
  subst hv
  simp [resVs, resV, h]
theorem res_cell {a : List Value} {σ : Store} {t : Nat} {ty : TypeId} {rs : List ResultVar} {vs : List Value} {b : Bool} {n : Nat} {x v : Value} (hb : tAgg P ty = some b) (hn : tSize P ty = some n) (hx : aget a t = x) (hv : loadV b n x σ.get = some v) (h : resVs P a σ rs = some vs) : resVs P a σ (.cell t ty :: rs) = some (v :: vs) := by
  subst hx
  simp [resVs, resV, h, hb, hn, hv]
theorem st_res {X : Option (List Value)} {vs : List Value} {F : Option (List Value) → Prop} (h : X = some vs) (hF : F (some vs)) : F X := by rw [h]; exact hF
/-- The cells of a type's zero value, by name. -/
def zerosOf (P : Program) (t : TypeId) : List Value := (tZeros P t).getD []
/-- A round hands on to one with less to go. -/
def Next (Inv : Nat → List Value → Store → Prop) (n : Nat) (xs : List Value) (σ : Store) : Prop := ∃ m, m < n ∧ Inv m xs σ
/-- How a loop begins. -/
def Start (Inv : Nat → List Value → Store → Prop) (n : Nat) (xs : List Value) (σ : Store) : Prop := Inv n xs σ
theorem rounds_le {F : (List Value → Store → Prop) → List Value → Store → Prop} (h : ∀ N N' : List Value → Store → Prop, (∀ xs s, N xs s → N' xs s) → ∀ xs s, F N xs s → F N' xs s) : ∀ {n m : Nat}, n ≤ m → ∀ xs s, rounds F n xs s → rounds F m xs s
  | 0, _, _, _, _, hh => hh.elim
  | n + 1, 0, hle, _, _, _ => absurd hle (by omega)
  | n + 1, m + 1, hle, xs, s, hh => h _ _ (rounds_le h (by omega)) xs s hh
theorem Start.mk {Inv : Nat → List Value → Store → Prop} {n : Nat} {xs : List Value} {σ : Store} (h : Inv n xs σ) : Start Inv n xs σ := h
theorem Next.mk {Inv : Nat → List Value → Store → Prop} {n : Nat} {xs : List Value} {σ : Store} (m : Nat) (hm : m < n) (h : Inv m xs σ) : Next Inv n xs σ := ⟨m, hm, h⟩
theorem loop_inv {c : Code} {D : List Nat} {Ko : Out → List Value → Store → Prop} (Inv : Nat → List Value → Store → Prop) (n : Nat) (h0 : Start Inv n ((carried D c).map (aget a)) σ)
    (hs : ∀ n xs σ, Inv n xs σ → loopF P c D a Ko (Next Inv n) xs σ) : codeG (PI P) P (.loop c) D Ko a σ := by
  have hm : ∀ N N' : List Value → Store → Prop, (∀ xs s, N xs s → N' xs s) → ∀ xs s, loopF P c D a Ko N xs s → loopF P c D a Ko N' xs s := fun N N' hN xs s hh => by
    unfold loopF at hh ⊢
    refine codeG_mono (fun e a s h1 => ?_) hh
    cases e with
    | normal => exact hN _ _ h1
    | _ => exact h1
  refine codeG_loop.2 ⟨n + 1, ?_⟩
  have key : ∀ n xs s, Inv n xs s → rounds (loopF P c D a Ko) (n + 1) xs s := by
    intro n
    induction n using Nat.strongRecOn with
    | ind n ih =>
      intro xs s hi
      refine hm _ _ ?_ xs s (hs n xs s hi)
      rintro xs' s' ⟨m, hlt, hi'⟩
      exact rounds_le hm (by omega) _ _ (ih m hlt xs' s' hi')
  exact key n _ _ h0

attribute [irreducible] Next Start zerosOf
end Go.Am
end
section
/- The abstract machine, part 23: maps over whole numbers. No program in sight. -/
set_option linter.all false
namespace Go.Am
open Go.RowKit
variable {P : Program} {σ : Store}

abbrev Ents := List (Int × Value × Nat)
def ents (l : Ents) : List MapEntry := l.map fun p => { key := .int .i64 p.1, val := p.2.1, born := p.2.2 }
def efind : Ents → Int → Nat → Option (Nat × Value)
  | [], _, _ => none
  | p :: l, x, i => if p.1 = x then some (i, p.2.1) else efind l x (i + 1)
def eget (l : Ents) (x : Int) : Option Value := (efind l x 0).map (·.2)
theorem findNow_ents (x : Int) : ∀ (l : Ents) (i : Nat), Instr.findNow (.int .i64) (.int .i64 x) (ents l) i = some (efind l x i)
  | [], _ => rfl
  | p :: l, i => by
    have ih := findNow_ents x l (i + 1)
    unfold ents at ih
    simp only [ents, List.map_cons, Instr.findNow, Instr.sameNow, efind, if_true]
    by_cases h : p.1 = x
    · subst h; simp
    · have h2 : (x == p.1) = false := by simp; exact fun e => h e.symm
      simp [h, h2, ih]
/-- A key is given a value. -/
def eset : Ents → Int → Value → Ents
  | [], _, _ => []
  | p :: l, x, v => if p.1 = x then (x, v, p.2.2) :: l else p :: eset l x v
def eput (l : Ents) (ck : Nat) (x : Int) (v : Value) : Ents × Nat :=
  match efind l x 0 with
  | some _ => (eset l x v, ck)
  | none => (l ++ [(x, v, ck)], ck + 1)
theorem eset_modify (x : Int) (v : Value) : ∀ (l : Ents) (i j : Nat) (u : Value), efind l x i = some (j, u) → i ≤ j ∧ (ents l).modify (j - i) (fun e => { e with key := .int .i64 x, val := v }) = ents (eset l x v)
  | [], _, _, _, h => by cases h
  | p :: l, i, j, u, h => by
    unfold efind at h
    unfold eset
    by_cases hp : p.1 = x
    · rw [if_pos hp] at h
      cases h
      rw [if_pos hp]
      refine ⟨Nat.le_refl _, ?_⟩
      simp [ents]
    · rw [if_neg hp] at h
      rw [if_neg hp]
      obtain ⟨h1, h2⟩ := eset_modify x v l (i + 1) j u h
      refine ⟨by omega, ?_⟩
      have e : j - i = (j - (i + 1)) + 1 := by omega
      rw [e]
      unfold ents at h2 ⊢
      simp only [List.map_cons, List.modify_succ_cons, h2]
theorem update_ents {t kt et : TypeId} {r ck : Nat} {l : Ents} {x : Int} {v : Value} (hu : P.underlying t = some (.map kt et)) (hk : P.underlying kt = some (.int .i64)) (h : σ.get r = some (.map (ents l) ck)) :
    mapUpdateV P t (.map (some r)) (.int .i64 x) v σ = some (junk, σ.put r (some (.map (ents (eput l ck x v).1) (eput l ck x v).2))) := by
  simp only [mapUpdateV, hu, keyDesc, hk, h, findNow_ents]
  cases hf : efind l x 0 with
  | none =>
    simp [eput, hf, ents]
  | some iu =>
    obtain ⟨i, u⟩ := iu
    obtain ⟨_, h2⟩ := eset_modify x v l 0 i u hf
    simp only [Nat.sub_zero] at h2
    simp [eput, hf, h2]
theorem efind_get (y : Int) : ∀ (l : Ents) (i j : Nat), (efind l y i).map (·.2) = (efind l y j).map (·.2)
  | [], _, _ => rfl
  | p :: l, i, j => by
    unfold efind
    split
    · rfl
    · exact efind_get y l _ _
theorem eget_cons (p : Int × Value × Nat) (l : Ents) (y : Int) : eget (p :: l) y = if p.1 = y then some p.2.1 else eget l y := by
  unfold eget
  conv => lhs; unfold efind
  split
  · rfl
  · exact efind_get y l _ _
theorem eget_eset (x : Int) (v : Value) (y : Int) : ∀ (l : Ents), (eget l x).isSome → eget (eset l x v) y = if y = x then some v else eget l y
  | [], h => by simp [eget, efind] at h
  | p :: l, h => by
    unfold eset
    by_cases hp : p.1 = x
    · rw [if_pos hp, eget_cons, eget_cons]
      by_cases hy : y = x
      · subst hy; simp
      · have h1 : ¬ x = y := fun e => hy e.symm
        rw [if_neg h1, if_neg hy, if_neg (by rw [hp]; exact h1)]
    · rw [if_neg hp, eget_cons, eget_cons]
      rw [eget_cons, if_neg hp] at h
      by_cases hy : y = x
      · subst hy
        rw [if_neg hp, eget_eset y v y l h, if_pos rfl, if_pos rfl]
      · rw [eget_eset x v y l h, if_neg hy, if_neg hy]
theorem eget_append (l k : Ents) (y : Int) : eget (l ++ k) y = (eget l y).or (eget k y) := by
  induction l with
  | nil => simp [eget, efind]
  | cons p l ih =>
    rw [List.cons_append, eget_cons, eget_cons, ih]
    split <;> simp
theorem eget_eput (l : Ents) (ck : Nat) (x : Int) (v : Value) (y : Int) : eget (eput l ck x v).1 y = if y = x then some v else eget l y := by
  unfold eput
  cases hf : efind l x 0 with
  | none =>
    have h0 : eget l x = none := by simp [eget, hf]
    rw [eget_append, eget_cons]
    by_cases hy : y = x
    · subst hy; simp [h0]
    · have h1 : ¬ x = y := fun e => hy e.symm
      simp [hy, h1, eget, efind]
  | some iu =>
    exact eget_eset x v y l (by simp [eget, hf])
theorem lookup_ents {t kt et : TypeId} {z : Value} {r ck : Nat} {l : Ents} {x : Int} {g : Nat → Option SObj} (hu : P.underlying t = some (.map kt et)) (hk : P.underlying kt = some (.int .i64)) (hz : tZero P et = some z) (h : g r = some (.map (ents l) ck)) :
    lookupV P t (.map (some r)) (.int .i64 x) true g = some (match eget l x with | some v => .tuple #[v, .bool true] | none => .tuple #[z, .bool false]) := by
  simp only [lookupV, hu, keyDesc, hk, hz, h, findNow_ents, eget]
  cases efind l x 0 with
  | none => rfl
  | some iu => rfl
theorem lookup_ents1 {t kt et : TypeId} {z : Value} {r ck : Nat} {l : Ents} {x : Int} {g : Nat → Option SObj} (hu : P.underlying t = some (.map kt et)) (hk : P.underlying kt = some (.int .i64)) (hz : tZero P et = some z) (h : g r = some (.map (ents l) ck)) :
    lookupV P t (.map (some r)) (.int .i64 x) false g = some ((eget l x).getD z) := by
  simp only [lookupV, hu, keyDesc, hk, hz, h, findNow_ents, eget]
  cases efind l x 0 with
  | none => rfl
  | some iu => rfl
/-! ## what is only read -/
theorem load_lent {n i o : Nat} {g : Nat → Option SObj} {c : List Value} (h : g i = some (.lent c)) (hl : o + n ≤ c.length) : loadV true n (.pointer (some ⟨i, o, none⟩)) g = some (.agg ((c.drop o).take n).toArray) := by
  simp [loadV, h, part?, Nat.ble_eq_true_of_le hl]
theorem load_lent1 {n i o : Nat} {g : Nat → Option SObj} {c : List Value} {v : Value} (h : g i = some (.lent c)) (hv : c[o]? = some v) : loadV false n (.pointer (some ⟨i, o, none⟩)) g = some v := by
  simp [loadV, h, part?, hv]
/-- Cells of the world become an id's, to be read. -/
theorem Rel.lend {M : Places} {w : World} (h : Rel M σ w) {c : List Value} {b o : Nat} (hc : ∀ (j : Nat) (v : Value), c[j]? = some v → ∃ v', w.cell? ⟨b, o + j, none⟩ = some v' ∧ VR M true v v') (hb : b < w.heap.size)
    (hap : ∀ i x l, σ.get i = some x → x.own = true → M i = some l → l.block ≠ b) : Rel (M.upd σ.next ⟨b, o, none⟩) (σ.push (.lent c)) w := by
  have hle : M.le (M.upd σ.next ⟨b, o, none⟩) := Places.le_upd _ (h.dom _ (Nat.le_refl _))
  refine ⟨fun i x hi => ?_, fun i j x y li lj hi hj hx hne hli hlj => ?_, fun i hi => ?_⟩
  · by_cases e : i = σ.next
    · subst e
      rw [Store.get_push_same] at hi; cases hi
      refine ⟨_, Places.upd_same _ _ _, rfl, hb, fun j v hv => ?_⟩
      obtain ⟨v', h1, h2⟩ := hc j v hv
      exact ⟨v', h1, h2.mono hle⟩
    · rw [Store.get_push, if_neg e] at hi
      obtain ⟨l', hl', hs'⟩ := h.shows i x hi
      exact ⟨l', by rw [Places.upd_ne _ e]; exact hl', hs'.mono hle⟩
  · by_cases ei : i = σ.next
    · subst ei
      rw [Store.get_push_same] at hi; cases hi
      cases hx
    · rw [Store.get_push, if_neg ei] at hi
      rw [Places.upd_ne _ ei] at hli
      by_cases ej : j = σ.next
      · subst ej
        rw [Places.upd_same] at hlj; cases hlj
        exact hap i x li hi hx hli
      · rw [Store.get_push, if_neg ej] at hj
        rw [Places.upd_ne _ ej] at hlj
        exact h.apart i j x y li lj hi hj hx hne hli hlj
  · rw [Store.next_push] at hi
    rw [Places.upd_ne _ (by omega)]
    exact h.dom i (by omega)
/-- One run of cells, from nothing. -/
theorem rel_lent {w : World} {c : List Value} {b o : Nat} (hb : b < w.heap.size) (hc : ∀ (j : Nat) (v : Value), c[j]? = some v → scalar v = true ∧ w.cell? ⟨b, o + j, none⟩ = some v) : Rel (Places.upd (fun _ => none) 0 ⟨b, o, none⟩) (Store.empty.push (.lent c)) w :=
  (rel_empty w).lend (fun j v hv => ⟨v, (hc j v hv).2, .scalar v (hc j v hv).1⟩) hb fun i x l hi => by rw [empty_get] at hi; cases hi
end Go.Am
end
section
/- The abstract machine, part 24: operations with their types resolved. No program in sight. -/
set_option linter.all false
namespace Go.Am
open Go.RowKit
variable {P : Program}

/-! ## rows of like cells -/
def unrle : List (Nat × Value) → List Value
  | [] => []
  | (n, v) :: r => List.replicate n v ++ unrle r
def comp1 (v : Value) (q : List (Nat × Value)) : List (Nat × Value) :=
  match q with
  | [] => [(1, v)]
  | (n, u) :: q => bif same1 v u then (n + 1, u) :: q else (1, v) :: (n, u) :: q
def comp : List Value → List (Nat × Value)
  | [] => []
  | v :: r => comp1 v (comp r)
theorem unrle_comp : ∀ z : List Value, unrle (comp z) = z
  | [] => rfl
  | v :: r => by
    show unrle (comp1 v (comp r)) = v :: r
    have ih := unrle_comp r
    unfold comp1
    split
    · rename_i h
      rw [h] at ih
      rw [← ih]; rfl
    · rename_i n u q h
      rw [h] at ih
      cases hs : same1 v u with
      | false => rw [cond_false, ← ih]; rfl
      | true =>
        rw [cond_true, ← ih, same1_eq hs]
        simp [unrle, List.replicate_succ]
def rle (z : List Value) : List Value := unrle (comp z)
@[simp] theorem rle_eq (z : List Value) : rle z = z := unrle_comp z
def rleV (z : Value) : Value := match z with | .agg xs => .agg (unrle (comp xs.toList)).toArray | v => v
@[simp] theorem rleV_eq (z : Value) : rleV z = z := by
  unfold rleV
  split
  · rw [unrle_comp]
  · rfl

/-! ## what an operation does, its types resolved -/
inductive ActH where
  | fail
  | mv (v : Value)
  | val (x : Option Value)
  | rd (f : (Nat → Option SObj) → Option Value)
  | new (x : Option (SObj × (Nat → Value)))
  | eff (f : Store → Option (Value × Store))
  | call (x : Option (FuncId × List Value))
  | pick (f : Store → Option (List (Value × Store)))
def Fits (h : ActH) (x : Option Action) : Prop :=
  match h with
  | .fail => True
  | .mv v => x = some (.val v)
  | .val y => ∀ v, y = some v → x = some (.val v)
  | .rd f => (∃ f', x = some (.rd f') ∧ ∀ g v, f g = some v → f' g = some v) ∨ ∀ g, f g = none
  | .new y => ∀ o mk, y = some (o, mk) → x = some (.new o mk)
  | .eff f => (∃ f', x = some (.eff f') ∧ ∀ σ r, f σ = some r → f' σ = some r) ∨ ∀ σ, f σ = none
  | .call y => ∀ f as, y = some (f, as) → x = some (.call f as)
  | .pick f => x = some (.pick f)
theorem Fits.rd_same (f : (Nat → Option SObj) → Option Value) : Fits (.rd f) (some (.rd f)) := .inl ⟨f, rfl, fun _ _ h => h⟩
theorem Fits.eff_same (f : Store → Option (Value × Store)) : Fits (.eff f) (some (.eff f)) := .inl ⟨f, rfl, fun _ _ h => h⟩

def pickV (c a b : Value) : Option Value := match c with | .bool t => some (bif t then a else b) | _ => none
def boxN (x : Value) : Option (SObj × (Nat → Value)) := match cellsL x with | some cs => some (.cells cs none, ptrTo) | none => none
def nilV (x : Value) : Option Value := match x with | .pointer (some a) => some (.pointer (some a)) | .func (.func f) xs ys => some (.func (.func f) xs ys) | _ => none
def shiftV (op : BinOp) (x y : Value) : Option Value := match x, y with | .int k a, .int _ b => shiftOp op k a b | _, _ => none
def binI (op : BinOp) (x y : Value) : Option Value := match x, y with | .int k a, .int k' b => bif k == k' then intOp op k a b else none | _, _ => none
def binS (op : BinOp) (x y : Value) : Option Value := match x, y with | .string a, .string b => strOp op a b | _, _ => none
def eqB (neg : Bool) (x y : Value) : Option Value := match x, y with | .bool a, .bool b => some (.bool ((a == b) ^^ neg)) | _, _ => none
/-- One of the two is nil. -/
def eqSl (neg : Bool) (x y : Value) : Option Value :=
  match x, y with
  | .slice none _ _, .slice b _ _ => some (.bool (b.isNone ^^ neg))
  | .slice (some _) _ _, .slice none _ _ => some (.bool (false ^^ neg))
  | _, _ => none
def eqMp (neg : Bool) (x y : Value) : Option Value :=
  match x, y with
  | .map none, .map b => some (.bool (b.isNone ^^ neg))
  | .map (some _), .map none => some (.bool (false ^^ neg))
  | _, _ => none
def eqFn (neg : Bool) (x y : Value) : Option Value :=
  match x, y with
  | .nilFunc, .nilFunc => some (.bool (true ^^ neg))
  | .nilFunc, .func (.func _) _ _ => some (.bool (false ^^ neg))
  | .func (.func _) _ _, .nilFunc => some (.bool (false ^^ neg))
  | _, _ => none
def eqPn (neg : Bool) (x y : Value) : Option Value :=
  match x, y with
  | .pointer none, .pointer b => some (.bool (b.isNone ^^ neg))
  | .pointer (some _), .pointer none => some (.bool (false ^^ neg))
  | _, _ => none
def eqPt (neg : Bool) (x y : Value) (g : Nat → Option SObj) : Option Value :=
  match x, y with
  | .pointer (some a), .pointer (some b) => (eqP a b g).map fun r => .bool (r ^^ neg)
  | _, _ => none
def isNilC (x : Operand) : Bool := match x with | .const (.pointer none) => true | _ => false
/-- How cells are held against each other. -/
inductive EqD where
  | ints (k : IntKind) (n : Nat)
  | one (d : TypeDesc)
  | fields (l : List (Nat × Nat × EqD))
  | elems (c n : Nat) (d : EqD)
mutual
def eqD : EqD → List Value → List Value → Option Bool
  | .ints k n, xs, ys => eqInts k n xs ys
  | .one d, xs, ys => eqLeaf d xs ys
  | .fields l, xs, ys => eqDs l xs ys
  | .elems c n d, xs, ys => eqIs (eqD d) c n xs ys
def eqDs : List (Nat × Nat × EqD) → List Value → List Value → Option Bool
  | [], _, _ => some true
  | (off, n, d) :: l, xs, ys =>
    match eqD d ((xs.drop off).take n) ((ys.drop off).take n), eqDs l xs ys with
    | some a, some b => some (a && b)
    | _, _ => none
end
def descFs (P : Program) (desc : TypeId → Option EqD) : List Field → Option (List (Nat × Nat × EqD))
  | [] => some []
  | fl :: fs =>
    bif fl.name == "_" then none else
    match tSize P fl.type, desc fl.type, descFs P desc fs with
    | some n, some d, some l => some ((fl.offset, n, d) :: l)
    | _, _, _ => none
def desc (P : Program) : Nat → TypeId → Option EqD
  | 0, _ => none
  | f + 1, t =>
    match P.underlying t with
    | some (.struct fs) => bif P.stoodInHeld t then none else (descFs P (desc P f) fs.toList).map .fields
    | some (.array n e) =>
      match P.underlying e, tSize P e with
      | some (.int k), some 1 => some (.ints k n)
      | some _, some c => (desc P f e).map (.elems c n)
      | _, _ => none
    | some d => some (.one d)
    | none => none
theorem descFs_eq {des : TypeId → Option EqD} {eq : TypeId → List Value → List Value → Option Bool} (h : ∀ t d, des t = some d → ∀ xs ys, eq t xs ys = eqD d xs ys) : ∀ {fs : List Field} {l : List (Nat × Nat × EqD)}, descFs P des fs = some l → ∀ xs ys, eqFs P eq fs xs ys = eqDs l xs ys
  | [], l, hl, xs, ys => by cases hl; simp [eqFs, eqDs]
  | fl :: fs, l, hl, xs, ys => by
    unfold descFs at hl
    unfold eqFs
    cases hn : (fl.name == "_") with
    | true => rw [hn] at hl; cases hl
    | false =>
      rw [hn] at hl
      simp only [cond_false] at hl ⊢
      cases hs : tSize P fl.type with
      | none => rw [hs] at hl; cases hl
      | some n =>
        cases hd : des fl.type with
        | none => rw [hs, hd] at hl; cases hl
        | some d =>
          cases hf : descFs P des fs with
          | none => rw [hs, hd, hf] at hl; cases hl
          | some l' =>
            rw [hs, hd, hf] at hl
            cases hl
            simp only [eqDs, h _ _ hd, descFs_eq h hf]
            generalize eqD d _ _ = A
            generalize eqDs l' xs ys = B
            cases A <;> cases B <;> rfl
theorem desc_eq : ∀ {f : Nat} {t : TypeId} {d : EqD}, desc P f t = some d → ∀ xs ys, eqL P f t xs ys = eqD d xs ys
  | 0, _, _, h, _, _ => by cases h
  | f + 1, t, d, h, xs, ys => by
    unfold desc at h
    unfold eqL
    cases hu : P.underlying t with
    | none => rw [hu] at h; cases h
    | some u =>
      rw [hu] at h
      cases u with
      | struct fs =>
        simp only at h ⊢
        cases hst : P.stoodInHeld t with
        | true => rw [hst] at h; cases h
        | false =>
          rw [hst] at h
          simp only [cond_false] at h ⊢
          cases hf : descFs P (desc P f) fs.toList with
          | none => rw [hf] at h; cases h
          | some l =>
            rw [hf] at h; cases h
            rw [descFs_eq (fun t d hd xs ys => desc_eq hd xs ys) hf]
            simp [eqD]
      | array n e =>
        simp only at h ⊢
        split at h
        · rename_i k h1 h2
          cases h
          simp [h1, h2, eqD]
        · rename_i u c hno h1 h2
          cases hd : desc P f e with
          | none => rw [hd] at h; cases h
          | some d' =>
            rw [hd] at h; cases h
            have hfun : eqL P f e = eqD d' := funext fun xs => funext fun ys => desc_eq hd xs ys
            rw [h1, h2]
            simp only [eqD, hfun]
        · cases h
      | _ => cases h; simp [eqD]
def eqA (d : EqD) (neg : Bool) (x y : Value) : Option Value := match x, y with | .agg xs, .agg ys => (eqD d xs.toList ys.toList).map fun b => .bool (b ^^ neg) | _, _ => none
def eqH (P : Program) (nc neg : Bool) (t : TypeId) (x y : Value) : ActH :=
  match P.underlying t with
  | some .bool => .val (eqB neg x y)
  | some (.slice _) => .val (eqSl neg x y)
  | some (.map _ _) => .val (eqMp neg x y)
  | some (.func _ _ _) => .val (eqFn neg x y)
  | some (.pointer el) => bif nc then .val (eqPn neg x y) else (match tSize P el with | some (_ + 1) => .rd (eqPt neg x y) | _ => .fail)
  | some (.struct _) => (match desc P eqFuel t with | some d => .val (eqA d neg x y) | none => .fail)
  | some (.array _ _) => (match desc P eqFuel t with | some d => .val (eqA d neg x y) | none => .fail)
  | _ => .fail
def binH (P : Program) (nc : Bool) (op : BinOp) (t : TypeId) (x y : Value) : ActH :=
  match op with
  | .shl => .val (shiftV .shl x y)
  | .shr => .val (shiftV .shr x y)
  | op =>
    match P.underlying t with
    | some (.int _) => .val (binI op x y)
    | some .string => .val (binS op x y)
    | _ =>
      match op with
      | .eql => eqH P nc false t x y
      | .neq => eqH P nc true t x y
      | _ => .fail
theorem binI_fits {op : BinOp} {t : TypeId} {x y v : Value} (h1 : op ≠ .shl) (h2 : op ≠ .shr) (h : binI op x y = some v) : binA P op t x y = some (.val v) := by
  unfold binI at h
  split at h
  · cases op <;> first | exact absurd rfl h1 | exact absurd rfl h2 | (
      rename_i k a k' b
      unfold binA
      cases hk : (k == k') <;> rw [hk] at h
      · cases h
      · simp only [hk, cond_true] at h ⊢
        rw [h]; rfl)
  · cases h
theorem binS_fits {op : BinOp} {t : TypeId} {x y v : Value} (h : binS op x y = some v) : binA P op t x y = some (.val v) := by
  unfold binS at h
  split at h
  · cases op <;> (unfold binA; simp only; rw [h]; rfl)
  · cases h
theorem eqV_fits {t : TypeId} {x y : Value} {b : Bool} (hs : ∀ k a j c, ¬ (x = .int k a ∧ y = .int j c)) (hst : ∀ a c, ¬ (x = .string a ∧ y = .string c)) (hp : ∀ a c, ¬ (x = .pointer (some a) ∧ y = .pointer (some c))) (h : eqV P t x y = some b) (neg : Bool) :
    binA P (bif neg then .neq else .eql) t x y = some (.val (.bool (b ^^ neg))) := by
  cases neg
  · unfold binA
    simp only [cond_false]
    split <;> first | (rename_i e1 e2 e3; cases e1; done) | skip
    all_goals first
      | exact absurd ⟨rfl, rfl⟩ (hs _ _ _ _)
      | exact absurd ⟨rfl, rfl⟩ (hst _ _)
      | exact absurd ⟨rfl, rfl⟩ (hp _ _)
      | (rw [h]; simp; done)
      | (simp_all; done)
      | (rename_i hh _ _ _; cases hh; done)
      | (rename_i hh _ _ _ _; cases hh; done)
  · unfold binA
    simp only [cond_true]
    split <;> first | (rename_i e1 e2 e3; cases e1; done) | skip
    all_goals first
      | exact absurd ⟨rfl, rfl⟩ (hs _ _ _ _)
      | exact absurd ⟨rfl, rfl⟩ (hst _ _)
      | exact absurd ⟨rfl, rfl⟩ (hp _ _)
      | (rw [h]; simp; done)
      | (simp_all; done)
      | (rename_i hh _ _ _; cases hh; done)
      | (rename_i hh _ _ _ _; cases hh; done)
end Go.Am
end
