/- The abstract machine, part 18: what is reached is one thing. No program in sight. -/
import Derived.Test.YtfcefiabbdakgaaAm17
set_option linter.all false
namespace Go.Am
open Go.RowKit
variable {P : Program}

def Same (ds : List Nat) (a a' : List Value) : Prop := a'.length = a.length ∧ ∀ t, t ∉ ds → a'[t]? = a[t]?
theorem Same.refl (ds : List Nat) (a : List Value) : Same ds a a := ⟨rfl, fun _ _ => rfl⟩
theorem Same.trans {ds : List Nat} {a b c : List Value} (h : Same ds a b) (k : Same ds b c) : Same ds a c := ⟨k.1.trans h.1, fun t ht => (k.2 t ht).trans (h.2 t ht)⟩
theorem Same.more {ds ds' : List Nat} {a b : List Value} (h : Same ds a b) (hs : ∀ t, t ∈ ds → t ∈ ds') : Same ds' a b := ⟨h.1, fun t ht => h.2 t fun h0 => ht (hs t h0)⟩
theorem Same.put {ds : List Nat} {a : List Value} {dst : Option Nat} {v : Value} (h : ∀ d, dst = some d → d ∈ ds) : Same ds a (aput a dst v) := by
  cases dst with
  | none => exact Same.refl _ _
  | some d => exact ⟨by simp [aput], fun t ht => by
      have : d ≠ t := fun e => ht (e ▸ h d rfl)
      simp [aput, List.getElem?_set_ne this]⟩

theorem doAct_mono {x : Option Action} {σ : Store} {K K' : Value → Store → Prop} (hk : ∀ v s, K v s → K' v s) (h : doAct (PI P) x σ K) : doAct (PI P) x σ K' := by
  cases x with
  | none => exact h
  | some x =>
    cases x with
    | val v => exact hk _ _ h
    | rd f =>
      simp only [doAct] at h ⊢
      split at h
      · exact hk _ _ h
      · exact h
    | new o mk => exact hk _ _ h
    | eff f =>
      simp only [doAct] at h ⊢
      split at h
      · exact hk _ _ h
      · exact h
    | call f args => exact Does.mono h hk
theorem doAct_lin {o : Oper} {e : Operand → Value} {σ : Store} {K : Value → Store → Prop} (h : doAct (PI P) (action P o e) σ K) : ∃ v σ', K v σ' ∧ σ.next ≤ σ'.next ∧ doAct (PI P) (action P o e) σ fun v2 σ2 => v2 = v ∧ σ2 = σ' := by
  obtain ⟨v, σ', h1, h2⟩ := res_of_doAct h
  exact ⟨v, σ', h2, Res.mono h1, doAct_of_res h1⟩

theorem seqOps_mono {ops : Array Oper} : ∀ {l : List Oper} {K K' : List Value → Store → Prop} {a : List Value} {σ : Store}, (∀ a s, K a s → K' a s) → seqOps (PI P) P ops l K a σ → seqOps (PI P) P ops l K' a σ
  | [], _, _, _, _, hk, h => hk _ _ h
  | o :: rest, K, K', a, σ, hk, h => by
    unfold seqOps at h ⊢
    simp only at h ⊢
    split at h
    · exact doAct_mono (fun v s hh => seqOps_mono hk hh) h
    · exact seqOps_mono hk h
    · exact h
theorem seqOps_lin {ops : Array Oper} {ds : List Nat} : ∀ {l : List Oper} {K : List Value → Store → Prop} {a : List Value} {σ : Store}, (∀ o ∈ l, ∀ d, o.dst = some d → d ∈ ds) → seqOps (PI P) P ops l K a σ →
    ∃ a' σ', K a' σ' ∧ Same ds a a' ∧ σ.next ≤ σ'.next ∧ seqOps (PI P) P ops l (fun a2 σ2 => a2 = a' ∧ σ2 = σ') a σ
  | [], K, a, σ, hd, h => ⟨a, σ, h, Same.refl _ _, Nat.le_refl _, ⟨rfl, rfl⟩⟩
  | o :: rest, K, a, σ, hd, h => by
    unfold seqOps at h
    simp only at h
    split at h
    · rename_i hg
      obtain ⟨v, σ1, h1, h2, h3⟩ := doAct_lin h
      obtain ⟨a', σ', k1, k2, k3, k4⟩ := seqOps_lin (fun o ho => hd o (List.mem_cons_of_mem _ ho)) h1
      refine ⟨a', σ', k1, (Same.put (hd o List.mem_cons_self)).trans k2, Nat.le_trans h2 k3, ?_⟩
      unfold seqOps
      simp only [hg]
      refine doAct_mono (fun v2 s2 hh => ?_) h3
      obtain ⟨rfl, rfl⟩ := hh
      exact k4
    · rename_i hg
      obtain ⟨a', σ', k1, k2, k3, k4⟩ := seqOps_lin (fun o ho => hd o (List.mem_cons_of_mem _ ho)) h
      refine ⟨a', σ', k1, (Same.put (hd o List.mem_cons_self)).trans k2, k3, ?_⟩
      unfold seqOps
      simp only [hg]
      exact k4
    · exact h.elim

theorem recheck_mk {k : Nat} {s : Store} : ∀ {fl : List (Nat × ((Nat → Option SObj) → Option Value) × Value)} {r r' : Prop}, recheck (PI P) k s fl r → (r → r') → recheck (PI P) k s fl r'
  | [], _, _, h, hr => hr h
  | (hi, f, v) :: fl, r, r', h, hr => by
    unfold recheck at h ⊢
    cases hb : Nat.ble k hi <;> rw [hb] at h <;> simp only [cond_true, cond_false] at h ⊢
    · exact recheck_mk h hr
    · exact ⟨h.1, recheck_mk h.2 hr⟩
theorem checkAll_mk {f : (Nat → Option SObj) → Option Value} {v : Value} : ∀ {ss : List Store} {r r' : Prop}, checkAll (PI P) f v ss r → (r → r') → checkAll (PI P) f v ss r'
  | [], _, _, h, hr => hr h
  | s :: ss, r, r', h, hr => ⟨h.1, checkAll_mk h.2 hr⟩

theorem drawOps_mono {ops : Array Oper} {b : Array Nat} : ∀ {l : List Nat} {K K' : List Value → Store → Prop} {a : List Value} {past : List Store} {cur : Store} {fl : List (Nat × ((Nat → Option SObj) → Option Value) × Value)}, (∀ a s, K a s → K' a s) → drawOps (PI P) P ops b l K a past cur fl → drawOps (PI P) P ops b l K' a past cur fl
  | [], _, _, _, _, _, _, hk, h => hk _ _ h
  | i :: rest, K, K', a, past, cur, fl, hk, h => by
    unfold drawOps at h ⊢
    cases ho : ops[i]? with
    | none => rw [ho] at h; exact h
    | some o =>
      rw [ho] at h
      simp only at h ⊢
      cases he : isEff o.op <;> rw [he] at h <;> simp only [cond_true, cond_false] at h ⊢
      · split at h
        · exact h
        · exact drawOps_mono hk h
        · split at h
          · exact drawOps_mono hk h
          · exact drawOps_mono hk h
          · split at h
            · exact h
            · exact checkAll_mk h (drawOps_mono hk)
          · exact h
      · split at h
        · exact doAct_mono (fun v s hh => recheck_mk hh (drawOps_mono hk)) h
        · exact recheck_mk h (drawOps_mono hk)
        · exact h
theorem drawOps_lin {ops : Array Oper} {b : Array Nat} {ds : List Nat} (hd : ∀ (i : Nat) (o : Oper), ops[i]? = some o → ∀ d, o.dst = some d → d ∈ ds) : ∀ {l : List Nat} {K : List Value → Store → Prop} {a : List Value} {past : List Store} {cur : Store} {fl : List (Nat × ((Nat → Option SObj) → Option Value) × Value)}, drawOps (PI P) P ops b l K a past cur fl →
    ∃ a' σ', K a' σ' ∧ Same ds a a' ∧ cur.next ≤ σ'.next ∧ drawOps (PI P) P ops b l (fun a2 σ2 => a2 = a' ∧ σ2 = σ') a past cur fl
  | [], K, a, past, cur, fl, h => ⟨a, cur, h, Same.refl _ _, Nat.le_refl _, ⟨rfl, rfl⟩⟩
  | i :: rest, K, a, past, cur, fl, h => by
    unfold drawOps at h
    cases ho : ops[i]? with
    | none => rw [ho] at h; exact h.elim
    | some o =>
      rw [ho] at h
      simp only at h
      have hput : ∀ v, Same ds a (aput a o.dst v) := fun v => Same.put (hd i o ho)
      cases he : isEff o.op <;> rw [he] at h <;> simp only [cond_true, cond_false] at h
      · split at h
        · exact h.elim
        · rename_i hg
          obtain ⟨a', σ', k1, k2, k3, k4⟩ := drawOps_lin hd h
          refine ⟨a', σ', k1, (hput _).trans k2, k3, ?_⟩
          unfold drawOps
          simp only [ho, he, cond_false, hg]
          exact k4
        · rename_i hg
          split at h
          · rename_i v hA
            obtain ⟨a', σ', k1, k2, k3, k4⟩ := drawOps_lin hd h
            refine ⟨a', σ', k1, (hput _).trans k2, k3, ?_⟩
            unfold drawOps
            simp only [ho, he, cond_false, hg, hA]
            exact k4
          · rename_i ob mk hA
            obtain ⟨a', σ', k1, k2, k3, k4⟩ := drawOps_lin hd h
            refine ⟨a', σ', k1, (hput _).trans k2, Nat.le_trans (Store.le_push _ _) k3, ?_⟩
            unfold drawOps
            simp only [ho, he, cond_false, hg, hA]
            exact k4
          · rename_i f hA
            split at h
            · exact h.elim
            · rename_i v hv
              obtain ⟨hh, _⟩ := checkAll_spec h
              obtain ⟨a', σ', k1, k2, k3, k4⟩ := drawOps_lin hd hh
              refine ⟨a', σ', k1, (hput _).trans k2, k3, ?_⟩
              unfold drawOps
              simp only [ho, he, cond_false, hg, hA, hv]
              exact checkAll_mk h fun _ => k4
          · exact h.elim
      · split at h
        · rename_i hg
          obtain ⟨v, σ1, h1, h2, h3⟩ := doAct_lin h
          obtain ⟨hh, _⟩ := recheck_spec h1
          obtain ⟨a', σ', k1, k2, k3, k4⟩ := drawOps_lin hd hh
          refine ⟨a', σ', k1, (hput _).trans k2, Nat.le_trans h2 k3, ?_⟩
          unfold drawOps
          simp only [ho, he, cond_true, hg]
          refine doAct_mono (fun v2 s2 hhh => ?_) h3
          obtain ⟨rfl, rfl⟩ := hhh
          exact recheck_mk h1 fun _ => k4
        · rename_i hg
          obtain ⟨hh, _⟩ := recheck_spec h
          obtain ⟨a', σ', k1, k2, k3, k4⟩ := drawOps_lin hd hh
          refine ⟨a', σ', k1, (hput _).trans k2, k3, ?_⟩
          unfold drawOps
          simp only [ho, he, cond_true, hg]
          exact recheck_mk h fun _ => k4
        · exact h.elim

theorem rounds_mono {F F' : (List Value → Store → Prop) → List Value → Store → Prop} (h : ∀ N N' : List Value → Store → Prop, (∀ xs s, N xs s → N' xs s) → ∀ xs s, F N xs s → F' N' xs s) : ∀ n xs s, rounds F n xs s → rounds F' n xs s
  | 0, _, _, hh => hh
  | n + 1, xs, s, hh => h _ _ (rounds_mono h n) xs s hh

def loopF (P : Program) (c : Code) (D : List Nat) (a : List Value) (K : Out → List Value → Store → Prop) (next : List Value → Store → Prop) (xs : List Value) (σ : Store) : Prop :=
  codeG (PI P) P c D (fun e a σ => match e with | .normal => next ((carried D c).map (aget a)) σ | e => K e a σ) (setAll (forget a (defsC c)) (carried D c) xs) σ
theorem codeG_loop {c : Code} {D : List Nat} {a : List Value} {K : Out → List Value → Store → Prop} {σ : Store} : codeG (PI P) P (.loop c) D K a σ ↔ ∃ n, rounds (loopF P c D a K) n ((carried D c).map (aget a)) σ := Iff.rfl

theorem codeG_mono : ∀ {c : Code} {D : List Nat} {K K' : Out → List Value → Store → Prop} {a : List Value} {σ : Store}, (∀ e a s, K e a s → K' e a s) → codeG (PI P) P c D K a σ → codeG (PI P) P c D K' a σ := by
  intro c
  induction c with
  | skip => intro D K K' a σ hk h; exact hk _ _ _ h
  | label l => intro D K K' a σ hk h; exact hk _ _ _ h
  | region id ops d =>
    intro D K K' a σ hk h
    cases d with
    | false => exact seqOps_mono (fun a s hh => hk _ _ _ hh) h
    | true => exact drawOps_mono (fun a s hh => hk _ _ _ hh) h
  | seq x y ihx ihy =>
    intro D K K' a σ hk h
    refine ihx (fun e a s hh => ?_) h
    cases e with
    | normal => exact ihy hk hh
    | _ => exact hk _ _ _ hh
  | cond c x y ihx ihy =>
    intro D K K' a σ hk h
    unfold codeG at h ⊢
    split at h
    · exact ihx hk h
    · exact ihy hk h
    · exact h
  | block id c ih =>
    intro D K K' a σ hk h
    refine ih (fun e a s hh => ?_) h
    cases e with
    | exit j =>
      simp only at hh ⊢
      cases hb : j == id <;> rw [hb] at hh <;> simp only [cond_true, cond_false] at hh ⊢ <;> exact hk _ _ _ hh
    | _ => exact hk _ _ _ hh
  | loop c ih =>
    intro D K K' a σ hk h
    obtain ⟨n, hn⟩ := codeG_loop.1 h
    refine codeG_loop.2 ⟨n, rounds_mono (F := loopF P c D a K) (F' := loopF P c D a K') (fun N N' hN xs s hh => ?_) n _ _ hn⟩
    unfold loopF at hh ⊢
    refine ih (fun e a s h1 => ?_) hh
    cases e with
    | normal => exact hN _ _ h1
    | _ => exact hk _ _ _ h1
  | exit id => intro D K K' a σ hk h; exact hk _ _ _ h
  | ret => intro D K K' a σ hk h; exact hk _ _ _ h
  | _ => intros; rename_i h; exact h.elim

theorem length_forget (ds : List Nat) : ∀ a : List Value, (forget a ds).length = a.length := by
  induction ds with
  | nil => intro a; rfl
  | cons t ts ih => intro a; show (forget (a.set t junk) ts).length = _; rw [ih]; simp
theorem forget_not {ds : List Nat} : ∀ {a : List Value} {t : Nat}, t ∉ ds → (forget a ds)[t]? = a[t]? := by
  induction ds with
  | nil => intro a t _; rfl
  | cons x ts ih =>
    intro a t ht
    rw [List.mem_cons, not_or] at ht
    show (forget (a.set x junk) ts)[t]? = _
    rw [ih ht.2, List.getElem?_set_ne (Ne.symm ht.1)]
theorem forget_in {ds : List Nat} : ∀ {a : List Value} {t : Nat} {v : Value}, t ∈ ds → (forget a ds)[t]? = some v → v = junk := by
  induction ds with
  | nil => intro a t v ht; simp at ht
  | cons x ts ih =>
    intro a t v ht hv
    have hv : (forget (a.set x junk) ts)[t]? = some v := hv
    by_cases hts : t ∈ ts
    · exact ih hts hv
    · rcases List.mem_cons.1 ht with rfl | h0
      · rw [forget_not hts, List.getElem?_set_self'] at hv
        cases hx : a[t]? with
        | none => rw [hx] at hv; cases hv
        | some u => rw [hx] at hv; simpa using hv.symm
      · exact absurd h0 hts
theorem setAll_spec {f : Nat → Value} : ∀ {L : List Nat} {a : List Value}, (setAll a L (L.map f)).length = a.length ∧ ∀ (t : Nat) (v : Value), (setAll a L (L.map f))[t]? = some v → (t ∈ L ∧ v = f t) ∨ (t ∉ L ∧ a[t]? = some v)
  | [], a => ⟨rfl, fun t v h => .inr ⟨by simp, h⟩⟩
  | x :: L, a => by
    obtain ⟨h1, h2⟩ := setAll_spec (f := f) (L := L) (a := a.set x (f x))
    refine ⟨by show (setAll (a.set x (f x)) L (L.map f)).length = _; rw [h1]; simp, fun t v hv => ?_⟩
    rcases h2 t v hv with ⟨h3, h4⟩ | ⟨h3, h4⟩
    · exact .inl ⟨List.mem_cons_of_mem _ h3, h4⟩
    · by_cases e : x = t
      · subst e
        rw [List.getElem?_set_self'] at h4
        cases hx : a[x]? with
        | none => rw [hx] at h4; cases h4
        | some u => rw [hx] at h4; exact .inl ⟨List.mem_cons_self, by simpa using h4.symm⟩
      · rw [List.getElem?_set_ne e] at h4
        refine .inr ⟨?_, h4⟩
        rw [List.mem_cons, not_or]
        exact ⟨Ne.symm e, h3⟩
theorem setAll_not : ∀ {L : List Nat} {a : List Value} {xs : List Value} {t : Nat}, t ∉ L → (setAll a L xs)[t]? = a[t]?
  | [], a, xs, t, _ => rfl
  | x :: L, a, xs, t, ht => by
    rw [List.mem_cons, not_or] at ht
    show (setAll (a.set x (xs.headD junk)) L xs.tail)[t]? = _
    rw [setAll_not ht.2, List.getElem?_set_ne (Ne.symm ht.1)]
theorem setAll_len : ∀ {L : List Nat} {a : List Value} {xs : List Value}, (setAll a L xs).length = a.length
  | [], a, xs => rfl
  | x :: L, a, xs => by
    show (setAll (a.set x (xs.headD junk)) L xs.tail).length = _
    rw [setAll_len]; simp
theorem carried_sub {D : List Nat} {c : Code} {t : Nat} (h : t ∈ carried D c) : t ∈ defsC c := by
  unfold carried at h
  rw [List.mem_eraseDups] at h
  exact (List.mem_filter.1 h).1
theorem same_round {D : List Nat} {c : Code} {a : List Value} {xs : List Value} : Same (defsC c) a (setAll (forget a (defsC c)) (carried D c) xs) :=
  ⟨by rw [setAll_len, length_forget], fun t ht => by rw [setAll_not fun h => ht (carried_sub h), forget_not ht]⟩

theorem codeG_lin : ∀ {c : Code} {D : List Nat} {K : Out → List Value → Store → Prop} {a : List Value} {σ : Store}, codeG (PI P) P c D K a σ →
    ∃ e a' σ', K e a' σ' ∧ Same (defsC c) a a' ∧ σ.next ≤ σ'.next ∧ codeG (PI P) P c D (fun e2 a2 σ2 => e2 = e ∧ a2 = a' ∧ σ2 = σ') a σ := by
  intro c
  induction c with
  | skip => intro D K a σ h; exact ⟨.normal, a, σ, h, Same.refl _ _, Nat.le_refl _, ⟨rfl, rfl, rfl⟩⟩
  | label l => intro D K a σ h; exact ⟨.normal, a, σ, h, Same.refl _ _, Nat.le_refl _, ⟨rfl, rfl, rfl⟩⟩
  | exit id => intro D K a σ h; exact ⟨.exit id, a, σ, h, Same.refl _ _, Nat.le_refl _, ⟨rfl, rfl, rfl⟩⟩
  | ret => intro D K a σ h; exact ⟨.ret, a, σ, h, Same.refl _ _, Nat.le_refl _, ⟨rfl, rfl, rfl⟩⟩
  | region id ops d =>
    intro D K a σ h
    cases d with
    | false =>
      obtain ⟨a', σ', k1, k2, k3, k4⟩ := seqOps_lin (ds := ops.toList.filterMap (·.dst)) (fun o ho d hd => List.mem_filterMap.2 ⟨o, ho, hd⟩) h
      exact ⟨.normal, a', σ', k1, k2, k3, seqOps_mono (fun a s hh => ⟨rfl, hh⟩) k4⟩
    | true =>
      obtain ⟨a', σ', k1, k2, k3, k4⟩ := drawOps_lin (ds := ops.toList.filterMap (·.dst)) (fun i o ho d hd => List.mem_filterMap.2 ⟨o, by rw [← Array.mem_def]; exact Array.mem_of_getElem? ho, hd⟩) h
      exact ⟨.normal, a', σ', k1, k2, k3, drawOps_mono (fun a s hh => ⟨rfl, hh⟩) k4⟩
  | seq x y ihx ihy =>
    intro D K a σ h
    have hx : ∀ t, t ∈ defsC x → t ∈ defsC (.seq x y) := fun t ht => by simp [defsC, ht]
    have hy : ∀ t, t ∈ defsC y → t ∈ defsC (.seq x y) := fun t ht => by simp [defsC, ht]
    obtain ⟨e, a1, σ1, h1, h2, h3, h4⟩ := ihx h
    cases e with
    | normal =>
      obtain ⟨e2, a2, σ2, k1, k2, k3, k4⟩ := ihy h1
      refine ⟨e2, a2, σ2, k1, (h2.more hx).trans (k2.more hy), Nat.le_trans h3 k3, codeG_mono (c := x) (fun e a s hh => ?_) h4⟩
      obtain ⟨rfl, rfl, rfl⟩ := hh
      exact k4
    | exit j =>
      refine ⟨.exit j, a1, σ1, h1, h2.more hx, h3, codeG_mono (c := x) (fun e a s hh => ?_) h4⟩
      obtain ⟨rfl, rfl, rfl⟩ := hh
      exact ⟨rfl, rfl, rfl⟩
    | ret =>
      refine ⟨.ret, a1, σ1, h1, h2.more hx, h3, codeG_mono (c := x) (fun e a s hh => ?_) h4⟩
      obtain ⟨rfl, rfl, rfl⟩ := hh
      exact ⟨rfl, rfl, rfl⟩
  | cond c x y ihx ihy =>
    intro D K a σ h
    unfold codeG at h
    split at h
    · rename_i hc
      obtain ⟨e, a1, σ1, h1, h2, h3, h4⟩ := ihx h
      refine ⟨e, a1, σ1, h1, h2.more (fun t ht => by simp [defsC, ht]), h3, ?_⟩
      unfold codeG
      simp only [hc]
      exact h4
    · rename_i hc
      obtain ⟨e, a1, σ1, h1, h2, h3, h4⟩ := ihy h
      refine ⟨e, a1, σ1, h1, h2.more (fun t ht => by simp [defsC, ht]), h3, ?_⟩
      unfold codeG
      simp only [hc]
      exact h4
    · exact h.elim
  | block id c ih =>
    intro D K a σ h
    obtain ⟨e, a1, σ1, h1, h2, h3, h4⟩ := ih h
    cases e with
    | normal =>
      refine ⟨.normal, a1, σ1, h1, h2, h3, codeG_mono (c := c) (fun e a s hh => ?_) h4⟩
      obtain ⟨rfl, rfl, rfl⟩ := hh
      exact ⟨rfl, rfl, rfl⟩
    | ret =>
      refine ⟨.ret, a1, σ1, h1, h2, h3, codeG_mono (c := c) (fun e a s hh => ?_) h4⟩
      obtain ⟨rfl, rfl, rfl⟩ := hh
      exact ⟨rfl, rfl, rfl⟩
    | exit j =>
      simp only at h1
      cases hb : j == id <;> rw [hb] at h1 <;> simp only [cond_true, cond_false] at h1
      · refine ⟨.exit j, a1, σ1, h1, h2, h3, codeG_mono (c := c) (fun e a s hh => ?_) h4⟩
        obtain ⟨rfl, rfl, rfl⟩ := hh
        simp [hb]
      · refine ⟨.normal, a1, σ1, h1, h2, h3, codeG_mono (c := c) (fun e a s hh => ?_) h4⟩
        obtain ⟨rfl, rfl, rfl⟩ := hh
        simp [hb]
  | loop c ih =>
    intro D K a σ h
    obtain ⟨n, hn⟩ := codeG_loop.1 h
    have key : ∀ (n : Nat) (xs : List Value) (σ : Store), rounds (loopF P c D a K) n xs σ →
        ∃ e a' σ', K e a' σ' ∧ Same (defsC c) a a' ∧ σ.next ≤ σ'.next ∧ rounds (loopF P c D a (fun e2 a2 σ2 => e2 = e ∧ a2 = a' ∧ σ2 = σ')) n xs σ := by
      intro n
      induction n with
      | zero => intro xs σ h; exact h.elim
      | succ n ihn =>
        intro xs σ h
        have h : loopF P c D a K (rounds (loopF P c D a K) n) xs σ := h
        unfold loopF at h
        obtain ⟨e, a1, σ1, h1, h2, h3, h4⟩ := ih h
        have hs : Same (defsC c) a a1 := same_round.trans h2
        have fin : ∀ (e2 : Out) (a2 : List Value) (σ2 : Store), (match (generalizing := false) e with | .normal => rounds (loopF P c D a (fun e3 a3 σ3 => e3 = e2 ∧ a3 = a2 ∧ σ3 = σ2)) n ((carried D c).map (aget a1)) σ1 | e => e = e2 ∧ a1 = a2 ∧ σ1 = σ2) →
            rounds (loopF P c D a (fun e3 a3 σ3 => e3 = e2 ∧ a3 = a2 ∧ σ3 = σ2)) (n + 1) xs σ := fun e2 a2 σ2 hf => by
          show loopF P c D a _ (rounds _ n) xs σ
          unfold loopF
          refine codeG_mono (fun e' a' s' hh => ?_) h4
          obtain ⟨rfl, rfl, rfl⟩ := hh
          cases e' <;> exact hf
        cases e with
        | normal =>
          obtain ⟨e2, a2, σ2, k1, k2, k3, k4⟩ := ihn _ _ h1
          exact ⟨e2, a2, σ2, k1, k2, Nat.le_trans h3 k3, fin _ _ _ k4⟩
        | exit j => exact ⟨.exit j, a1, σ1, h1, hs, h3, fin _ _ _ ⟨rfl, rfl, rfl⟩⟩
        | ret => exact ⟨.ret, a1, σ1, h1, hs, h3, fin _ _ _ ⟨rfl, rfl, rfl⟩⟩
    obtain ⟨e, a', σ', k1, k2, k3, k4⟩ := key n _ _ hn
    exact ⟨e, a', σ', k1, k2, k3, codeG_loop.2 ⟨n, k4⟩⟩
  | _ => intros; rename_i h; exact h.elim
end Go.Am
