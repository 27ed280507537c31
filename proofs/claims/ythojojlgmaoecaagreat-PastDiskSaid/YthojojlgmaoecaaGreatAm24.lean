import Derived.Test.YthojojlgmaoecaaGreatAm17
import Derived.Below
section
/- The abstract machine, part 18: what is reached is one thing. No program in sight. -/
set_option linter.all false
namespace Go.Am
open Go.RowKit
variable {P : Program}

def Same (ds : List Nat) (a a' : List Value) : Prop := a'.length = a.length ∧ ∀ t, t ∉ ds → a'[t]? = a[t]?
theorem Same.refl (ds : List Nat) (a : List Value) : Same ds a a := ⟨rfl, fun _ _ => rfl⟩
theorem Same.trans {ds : List Nat} {a b c : List Value} (h : Same ds a b) (k : Same ds b c) : Same ds a c := ⟨k.1.trans h.1, fun t ht => (k.2 t ht).trans (h.2 t ht)⟩
theorem Same.more {ds ds' : List Nat} {a b : List Value} (h : Same ds a b) (hs : ∀ t, t ∈ ds → t ∈ ds') : Same ds' a b := ⟨h.1, fun t ht => h.2 t fun h0 => ht (hs t h0)⟩
theorem Same.put {ds : List Nat} {a : List Value} {dst : Option Nat} {v : Value} (h : ∀ d, dst = some d → d ∈ ds) : Same ds a (aput a dst v) := by
  cases dst with
  | none => exact Same.refl _ _
  | some d => exact ⟨by simp [aput], fun t ht => by
      have : d ≠ t := fun e => ht (e ▸ h d rfl)
      simp [aput, List.getElem?_set_ne this]⟩

theorem doAct_mono {x : Option Action} {σ : Store} {K K' : Value → Store → Prop} (hk : ∀ v s, K v s → K' v s) (h : doAct (PI P) x σ K) : doAct (PI P) x σ K' := by
  cases x with
  | none => exact h
  | some x =>
    cases x with
    | val v => exact hk _ _ h
    | rd f =>
      simp only [doAct] at h ⊢
      split at h
      · exact hk _ _ h
      · exact h
    | new o mk => exact hk _ _ h
    | eff f =>
      simp only [doAct] at h ⊢
      split at h
      · exact hk _ _ h
      · exact h
    | call f args => exact Does.mono h hk
    | pick f =>
      simp only [doAct] at h ⊢
      split at h
      · intro v s hm; exact hk _ _ (h v s hm)
      · exact h
theorem doAct_lin {o : Oper} {e : Operand → Value} {σ : Store} {K : Value → Store → Prop} (hp : isNext o.op = false) (h : doAct (PI P) (action P o e) σ K) : ∃ v σ', K v σ' ∧ σ.next ≤ σ'.next ∧ doAct (PI P) (action P o e) σ fun v2 σ2 => v2 = v ∧ σ2 = σ' := by
  obtain ⟨v, σ', h1, h2⟩ := res_of_doAct (fun f hf => by have := pick_next hf; rw [hp] at this; cases this) h
  exact ⟨v, σ', h2, Res.mono h1, doAct_of_res h1⟩

theorem seqOps_mono {ops : Array Oper} : ∀ {l : List Oper} {K K' : List Value → Store → Prop} {a : List Value} {σ : Store}, (∀ a s, K a s → K' a s) → seqOps (PI P) P ops l K a σ → seqOps (PI P) P ops l K' a σ
  | [], _, _, _, _, hk, h => hk _ _ h
  | o :: rest, K, K', a, σ, hk, h => by
    unfold seqOps at h ⊢
    simp only at h ⊢
    split at h
    · exact doAct_mono (fun v s hh => seqOps_mono hk hh) h
    · exact seqOps_mono hk h
    · exact h
theorem seqOps_lin {ops : Array Oper} {ds : List Nat} : ∀ {l : List Oper} {K : List Value → Store → Prop} {a : List Value} {σ : Store}, (∀ o ∈ l, ∀ d, o.dst = some d → d ∈ ds) → (∀ o ∈ l, isNext o.op = false) → seqOps (PI P) P ops l K a σ →
    ∃ a' σ', K a' σ' ∧ Same ds a a' ∧ σ.next ≤ σ'.next ∧ seqOps (PI P) P ops l (fun a2 σ2 => a2 = a' ∧ σ2 = σ') a σ
  | [], K, a, σ, hd, _, h => ⟨a, σ, h, Same.refl _ _, Nat.le_refl _, ⟨rfl, rfl⟩⟩
  | o :: rest, K, a, σ, hd, hp, h => by
    unfold seqOps at h
    simp only at h
    split at h
    · rename_i hg
      obtain ⟨v, σ1, h1, h2, h3⟩ := doAct_lin (hp o List.mem_cons_self) h
      obtain ⟨a', σ', k1, k2, k3, k4⟩ := seqOps_lin (fun o ho => hd o (List.mem_cons_of_mem _ ho)) (fun o ho => hp o (List.mem_cons_of_mem _ ho)) h1
      refine ⟨a', σ', k1, (Same.put (hd o List.mem_cons_self)).trans k2, Nat.le_trans h2 k3, ?_⟩
      unfold seqOps
      simp only [hg]
      refine doAct_mono (fun v2 s2 hh => ?_) h3
      obtain ⟨rfl, rfl⟩ := hh
      exact k4
    · rename_i hg
      obtain ⟨a', σ', k1, k2, k3, k4⟩ := seqOps_lin (fun o ho => hd o (List.mem_cons_of_mem _ ho)) (fun o ho => hp o (List.mem_cons_of_mem _ ho)) h
      refine ⟨a', σ', k1, (Same.put (hd o List.mem_cons_self)).trans k2, k3, ?_⟩
      unfold seqOps
      simp only [hg]
      exact k4
    · exact h.elim

theorem recheck_mk {k : Nat} {s : Store} : ∀ {fl : List (Nat × ((Nat → Option SObj) → Option Value) × Value)} {r r' : Prop}, recheck (PI P) k s fl r → (r → r') → recheck (PI P) k s fl r'
  | [], _, _, h, hr => hr h
  | (hi, f, v) :: fl, r, r', h, hr => by
    unfold recheck at h ⊢
    cases hb : Nat.ble k hi <;> rw [hb] at h <;> simp only [cond_true, cond_false] at h ⊢
    · exact recheck_mk h hr
    · exact ⟨h.1, recheck_mk h.2 hr⟩
theorem checkAll_mk {f : (Nat → Option SObj) → Option Value} {v : Value} : ∀ {ss : List Store} {r r' : Prop}, checkAll (PI P) f v ss r → (r → r') → checkAll (PI P) f v ss r'
  | [], _, _, h, hr => hr h
  | s :: ss, r, r', h, hr => ⟨h.1, checkAll_mk h.2 hr⟩

theorem drawOps_lin {ops : Array Oper} {b : Array Nat} {ds : List Nat} (hd : ∀ (i : Nat) (o : Oper), ops[i]? = some o → ∀ d, o.dst = some d → d ∈ ds) : ∀ {l : List Nat} {K : List Value → Store → Prop} {a : List Value} {past : List Store} {cur : Store} {fl : List (Nat × ((Nat → Option SObj) → Option Value) × Value)}, drawOps (PI P) P ops b l K a past cur fl →
    ∃ a' σ', K a' σ' ∧ Same ds a a' ∧ cur.next ≤ σ'.next ∧ drawOps (PI P) P ops b l (fun a2 σ2 => a2 = a' ∧ σ2 = σ') a past cur fl
  | [], K, a, past, cur, fl, h => ⟨a, cur, h, Same.refl _ _, Nat.le_refl _, ⟨rfl, rfl⟩⟩
  | i :: rest, K, a, past, cur, fl, h => by
    unfold drawOps at h
    cases ho : ops[i]? with
    | none => rw [ho] at h; exact h.elim
    | some o =>
      rw [ho] at h
      simp only at h
      have hput : ∀ v, Same ds a (aput a o.dst v) := fun v => Same.put (hd i o ho)
      cases he : isEff o.op <;> rw [he] at h <;> simp only [cond_true, cond_false] at h
      · split at h
        · exact h.elim
        · rename_i hg
          obtain ⟨a', σ', k1, k2, k3, k4⟩ := drawOps_lin hd h
          refine ⟨a', σ', k1, (hput _).trans k2, k3, ?_⟩
          unfold drawOps
          simp only [ho, he, cond_false, hg]
          exact k4
        · rename_i hg
          split at h
          · rename_i v hA
            obtain ⟨a', σ', k1, k2, k3, k4⟩ := drawOps_lin hd h
            refine ⟨a', σ', k1, (hput _).trans k2, k3, ?_⟩
            unfold drawOps
            simp only [ho, he, cond_false, hg, hA]
            exact k4
          · rename_i ob mk hA
            obtain ⟨a', σ', k1, k2, k3, k4⟩ := drawOps_lin hd h
            refine ⟨a', σ', k1, (hput _).trans k2, Nat.le_trans (Store.le_push _ _) k3, ?_⟩
            unfold drawOps
            simp only [ho, he, cond_false, hg, hA]
            exact k4
          · rename_i f hA
            split at h
            · exact h.elim
            · rename_i v hv
              obtain ⟨hh, _⟩ := checkAll_spec h
              obtain ⟨a', σ', k1, k2, k3, k4⟩ := drawOps_lin hd hh
              refine ⟨a', σ', k1, (hput _).trans k2, k3, ?_⟩
              unfold drawOps
              simp only [ho, he, cond_false, hg, hA, hv]
              exact checkAll_mk h fun _ => k4
          · exact h.elim
      · split at h
        · rename_i hg
          obtain ⟨v, σ1, h1, h2, h3⟩ := doAct_lin (eff_notnext he) h
          obtain ⟨hh, _⟩ := recheck_spec h1
          obtain ⟨a', σ', k1, k2, k3, k4⟩ := drawOps_lin hd hh
          refine ⟨a', σ', k1, (hput _).trans k2, Nat.le_trans h2 k3, ?_⟩
          unfold drawOps
          simp only [ho, he, cond_true, hg]
          refine doAct_mono (fun v2 s2 hhh => ?_) h3
          obtain ⟨rfl, rfl⟩ := hhh
          exact recheck_mk h1 fun _ => k4
        · rename_i hg
          obtain ⟨hh, _⟩ := recheck_spec h
          obtain ⟨a', σ', k1, k2, k3, k4⟩ := drawOps_lin hd hh
          refine ⟨a', σ', k1, (hput _).trans k2, k3, ?_⟩
          unfold drawOps
          simp only [ho, he, cond_true, hg]
          exact recheck_mk h fun _ => k4
        · exact h.elim

theorem setAll_spec {f : Nat → Value} : ∀ {L : List Nat} {a : List Value}, (setAll a L (L.map f)).length = a.length ∧ ∀ (t : Nat) (v : Value), (setAll a L (L.map f))[t]? = some v → (t ∈ L ∧ v = f t) ∨ (t ∉ L ∧ a[t]? = some v)
  | [], a => ⟨rfl, fun t v h => .inr ⟨by simp, h⟩⟩
  | x :: L, a => by
    obtain ⟨h1, h2⟩ := setAll_spec (f := f) (L := L) (a := a.set x (f x))
    refine ⟨by show (setAll (a.set x (f x)) L (L.map f)).length = _; rw [h1]; simp, fun t v hv => ?_⟩
    rcases h2 t v hv with ⟨h3, h4⟩ | ⟨h3, h4⟩
    · exact .inl ⟨List.mem_cons_of_mem _ h3, h4⟩
    · by_cases e : x = t
      · subst e
        rw [List.getElem?_set_self'] at h4
        cases hx : a[x]? with
        | none => rw [hx] at h4; cases h4
        | some u => rw [hx] at h4; exact .inl ⟨List.mem_cons_self, by simpa using h4.symm⟩
      · rw [List.getElem?_set_ne e] at h4
        refine .inr ⟨?_, h4⟩
        rw [List.mem_cons, not_or]
        exact ⟨Ne.symm e, h3⟩
theorem setAll_not : ∀ {L : List Nat} {a : List Value} {xs : List Value} {t : Nat}, t ∉ L → (setAll a L xs)[t]? = a[t]?
  | [], a, xs, t, _ => rfl
  | x :: L, a, xs, t, ht => by
    rw [List.mem_cons, not_or] at ht
    show (setAll (a.set x (xs.headD junk)) L xs.tail)[t]? = _
    rw [setAll_not ht.2, List.getElem?_set_ne (Ne.symm ht.1)]
theorem setAll_len : ∀ {L : List Nat} {a : List Value} {xs : List Value}, (setAll a L xs).length = a.length
  | [], a, xs => rfl
  | x :: L, a, xs => by
    show (setAll (a.set x (xs.headD junk)) L xs.tail).length = _
    rw [setAll_len]; simp
theorem doAct_and {o : Oper} {e : Operand → Value} {σ : Store} {K : Value → Store → Prop} (h : doAct (PI P) (action P o e) σ K) : doAct (PI P) (action P o e) σ fun v s => K v s ∧ σ.next ≤ s.next := by
  cases hA : action P o e with
  | none => rw [hA] at h; exact h
  | some x =>
    rw [hA] at h
    cases x with
    | val v => exact ⟨h, Nat.le_refl _⟩
    | rd f =>
      simp only [doAct] at h ⊢
      split at h
      · exact ⟨h, Nat.le_refl _⟩
      · exact h
    | new o mk => exact ⟨h, Store.le_push _ _⟩
    | eff f =>
      simp only [doAct] at h ⊢
      split at h
      · rename_i v s hv; exact ⟨h, action_mono hA hv⟩
      · exact h
    | call f args =>
      obtain ⟨r, s, h1, h2⟩ := h
      exact ⟨r, s, h1, h2, h1.1⟩
    | pick f =>
      simp only [doAct] at h ⊢
      split at h
      · rename_i l hl
        intro v s hm
        exact ⟨h v s hm, action_pick_mono hA hl hm⟩
      · exact h
theorem seqOps_and {ops : Array Oper} {ds : List Nat} : ∀ {l : List Oper} {K : List Value → Store → Prop} {a : List Value} {σ : Store}, (∀ o ∈ l, ∀ d, o.dst = some d → d ∈ ds) → seqOps (PI P) P ops l K a σ →
    seqOps (PI P) P ops l (fun a' σ' => K a' σ' ∧ Same ds a a' ∧ σ.next ≤ σ'.next) a σ
  | [], K, a, σ, hd, h => ⟨h, Same.refl _ _, Nat.le_refl _⟩
  | o :: rest, K, a, σ, hd, h => by
    unfold seqOps at h ⊢
    simp only at h ⊢
    split at h
    · refine doAct_mono (fun v s hh => ?_) (doAct_and h)
      refine seqOps_mono (fun a' σ' hk => ?_) (seqOps_and (fun o ho => hd o (List.mem_cons_of_mem _ ho)) hh.1)
      exact ⟨hk.1, (Same.put (hd o List.mem_cons_self)).trans hk.2.1, Nat.le_trans hh.2 hk.2.2⟩
    · refine seqOps_mono (fun a' σ' hk => ?_) (seqOps_and (fun o ho => hd o (List.mem_cons_of_mem _ ho)) h)
      exact ⟨hk.1, (Same.put (hd o List.mem_cons_self)).trans hk.2.1, hk.2.2⟩
    · exact h
/-- Nothing is one of several. -/
def noNext : Code → Bool
  | .region _ ops false => ops.toList.all fun o => !isNext o.op
  | .seq x y => noNext x && noNext y
  | .cond _ x y => noNext x && noNext y
  | .block _ c => noNext c
  | .loop c => noNext c
  | _ => true
end Go.Am
end
section
/- The abstract machine, part 19: code and calls are as the model has them. No program in sight. -/
set_option linter.all false
namespace Go.Am
open Go.RowKit
variable {P : Program} {ds : List Deferred}

def okCode (P : Program) : Code → Bool
  | .region _ ops false => ops.toList.all (okOp P)
  | .region _ ops true => okDraw P ops
  | .seq x y => okCode P x && okCode P y
  | .cond c x y => okOperand c && okCode P x && okCode P y
  | .block _ c => okCode P c
  | .loop c => okCode P c
  | _ => true
def exitOf : Out → Exit
  | .normal => .normal
  | .exit j => .exit j
  | .ret => .ret

/-! ## calls -/
def okFn (P : Program) (fn : Func) : Bool :=
  match fn.body with
  | some c => okCode P c
  | none => false

theorem cell_sound {M : Places} {σ : Store} {w : World} {t : TypeId} {b : Bool} {n : Nat} {x x' v : Value} (hb : tAgg P t = some b) (hn : tSize P t = some n) (hx : VR M false x x') (hr : Rel M σ w) (h : loadV b n x σ.get = some v) :
    ∃ v', VR M false v v' ∧ (do loadVar t (← asAddr x') : Sem Value).run P w = .ok v' w := by
  obtain ⟨v', h1, h2⟩ := load_sound hb hn hx hr h
  unfold loadV at h
  split at h
  case h_2 => cases h
  obtain ⟨_, l, hl, rfl⟩ := VR.ptr_ hx
  refine ⟨v', h1, ?_⟩
  simpa [Instr.loadAt, Instr.sureAddr, asAddr] using h2
theorem results_sound {M : Places} {σ : Store} {w : World} {act : List Value} {a : Act} (hact : ActR ds M act a) (hr : Rel M σ w) (F : ResultVar → Sem Value) (hF : F = fun r => match r with
      | .tmp t => pure (a.tmps.getD t undef)
      | .cell x t => do loadVar t (← asAddr (a.tmps.getD x undef))) : ∀ {rs : List ResultVar} {vs : List Value}, resVs P act σ rs = some vs →
    ∃ us, (List.mapM F rs).run P w = .ok us w ∧ vs.length = us.length ∧ ∀ (i : Nat) (v v' : Value), vs[i]? = some v → us[i]? = some v' → VR M false v v'
  | [], vs, h => by
    simp only [resVs, Option.some.injEq] at h
    subst h
    exact ⟨[], rfl, rfl, fun i v v' hv => by simp at hv⟩
  | r :: rs, vs, h => by
    simp only [resVs] at h
    cases hrv : resV P act σ r with
    | none => rw [hrv] at h; cases h
    | some v =>
      cases hrs : resVs P act σ rs with
      | none => rw [hrv, hrs] at h; cases h
      | some us =>
        rw [hrv, hrs] at h
        simp only [Option.some.injEq] at h
        subst h
        obtain ⟨us', h1, h2, h3⟩ := results_sound hact hr F hF hrs
        have hone : ∃ v', (F r).run P w = .ok v' w ∧ VR M false v v' := by
          cases r with
          | tmp t =>
            simp only [resV, Option.some.injEq] at hrv
            subst hrv
            exact ⟨_, by rw [hF]; rfl, hact.get t⟩
          | cell x t =>
            simp only [resV] at hrv
            split at hrv
            · rename_i b n hb hn
              obtain ⟨v', k1, k2⟩ := cell_sound hb hn (hact.get x) hr hrv
              exact ⟨v', by rw [hF]; exact k2, k1⟩
            · cases hrv
        obtain ⟨v', k1, k2⟩ := hone
        refine ⟨v' :: us', ?_, by simp [h2], fun i v1 v2 hv1 hv2 => ?_⟩
        · simp only [List.mapM_cons, Sem.run_bind, Sem.run_pure, k1, Result.andThen, h1]
        · cases i with
          | zero => simp at hv1 hv2; subst hv1; subst hv2; exact k2
          | succ i => exact h3 i v1 v2 (by simpa using hv1) (by simpa using hv2)
theorem resOne_eq (us : List Value) : (if h : us.toArray.size = 1 then us.toArray[0] else Value.tuple us.toArray) = resOne us := by
  match us with
  | [] => rfl
  | [v] => rfl
  | v :: v2 :: r => rfl
theorem run_results {M : Places} {σ : Store} {w : World} {act : List Value} {a : Act} (hact : ActR ds M act a) (hr : Rel M σ w) {fn : Func} {vs : List Value} (h : resVs P act σ fn.results.toList = some vs) :
    ∃ us, (results fn a.tmps).run P w = .ok (resOne us) w ∧ vs.length = us.length ∧ ∀ (i : Nat) (v v' : Value), vs[i]? = some v → us[i]? = some v' → VR M false v v' := by
  obtain ⟨us, h1, h2, h3⟩ := results_sound hact hr _ rfl h
  refine ⟨us, ?_, h2, h3⟩
  have h' : fn.results = fn.results.toList.toArray := by simp
  unfold results
  rw [h', List.mapM_toArray]
  simp only [Sem.run_bind, Sem.run_map, Sem.run_pure]
  erw [h1]
  simp only [Result.andThen]
  rw [resOne_eq]

def noNextFn (fn : Func) : Bool := match fn.body with | some c => noNext c | none => true
end Go.Am
end
section
/- The abstract machine, part 20: it is run. No program in sight. -/
set_option linter.all false
namespace Go.Am
open Go.RowKit
variable {P : Program}

/-- Alike, as far as is seen at a look. -/
def same1 : Value → Value → Bool
  | .bool a, .bool b => a == b
  | .int k a, .int l b => decide (k = l) && decide (a = b)
  | .string a, .string b => decide (a = b)
  | .pointer none, .pointer none => true
  | .pointer (some a), .pointer (some b) => decide (a = b)
  | .slice none a b, .slice none c d => decide (a = c) && decide (b = d)
  | .slice (some x) a b, .slice (some y) c d => decide (x = y) && decide (a = c) && decide (b = d)
  | .map a, .map b => decide (a = b)
  | .nilFunc, .nilFunc => true
  | .nilIface, .nilIface => true
  | .func (.func f) xs ys, .func (.func g) us vs => decide (f = g) && xs.isEmpty && ys.isEmpty && us.isEmpty && vs.isEmpty
  | _, _ => false
theorem same1_eq {a b : Value} (h : same1 a b = true) : a = b := by
  unfold same1 at h
  split at h <;> simp_all
abbrev Ans := Option (Value × Store)
/-- Functions whose answer is given. -/
abbrev Given := FuncId → Option (List Value → Store → Ans)
section
variable {C : FuncId → List Value → Store → Ans} (hC : ∀ f args σ v σ', C f args σ = some (v, σ') → Sim P f args σ v σ') {n : Nat} {res : Value × Store}
include hC
end
end Go.Am
end
section
/- The abstract machine, part 21: what a run says of a call. No program in sight. -/
set_option linter.all false
namespace Go.Am
open Go.RowKit
variable {P : Program}

def yes : Ans → Bool
  | some (.bool true, _) => true
  | _ => false
/-- Nothing that lay there is changed by a call that owns nothing. -/
theorem Sim.below {f : FuncId} {args : List Value} {σ σ' : Store} {r : Value} (h : Sim P f args σ r σ') {M : Places} {w : World} {cargs : Array Value} (hr : Rel M σ w) (ha : VRs M args cargs) (ho : ∀ i o, σ.get i = some o → o.own = false) :
    Calls P f cargs w fun e w' => ∃ M' v, e = .returned v ∧ VR M' false r v ∧ Rel M' σ' w' ∧ Below w.heap.size w w' := by
  refine Calls.mono (h.2 M w cargs hr ha) ?_
  rintro e w' ⟨M', v, h1, h2, h3, h4⟩
  refine ⟨M', v, h1, h2, h3, h4.os, h4.tape, h4.output, h4.size, fun k hk => h4.frame k hk ?_⟩
  rintro ⟨i, o, l, k1, k2, _⟩
  rw [ho i o k1] at k2; cases k2
theorem empty_get (i : Nat) : Store.empty.get i = none := Store.get_none (Nat.zero_le _)
theorem rel_empty (w : World) : Rel (fun _ => none) Store.empty w :=
  ⟨fun i o h => (by rw [empty_get] at h; cases h), fun i j a b l l' h => (by rw [empty_get] at h; cases h), fun _ _ => rfl⟩
theorem Shows.back {M M' : Places} {w w' : World} {l : Loc} {o : SObj} (hm : M.le M') (h : Shows M w l o) (h' : Shows M' w' l o) : Shows M w' l o := by
  cases o with
  | cells c g =>
    obtain ⟨h1, arr, e, fz, h2, h3, h4, h5⟩ := h
    obtain ⟨k1, arr', e', fz', k2, k3, k4, k5⟩ := h'
    refine ⟨k1, arr', e', fz', k2, fun j v hv => ?_, k4, k5⟩
    obtain ⟨u, a1, a2⟩ := h3 j v hv
    obtain ⟨u', b1, b2⟩ := k3 j v hv
    exact ⟨u', b1, a2.back hm b2⟩
  | map es ck =>
    obtain ⟨h1, es1, h2, h3⟩ := h
    obtain ⟨k1, es2, k2, k3⟩ := h'
    refine ⟨k1, es2, k2, k3.1, fun i e e' he he' => ?_⟩
    have hi : i < es.length := (List.getElem?_eq_some_iff.1 he).1
    have hi1 : i < es1.size := by have := h3.1; omega
    have he1 : es1[i]? = some es1[i] := Array.getElem?_eq_getElem hi1
    obtain ⟨a1, a2, a3⟩ := h3.2 i e _ he he1
    obtain ⟨b1, b2, b3⟩ := k3.2 i e e' he he'
    exact ⟨b1, a2.back hm b2, a3.back hm b3⟩
  | lent c =>
    obtain ⟨h1, h0, h2⟩ := h
    obtain ⟨k1, k0, k2⟩ := h'
    refine ⟨k1, k0, fun j v hv => ?_⟩
    obtain ⟨u, a1, a2⟩ := h2 j v hv
    obtain ⟨u', b1, b2⟩ := k2 j v hv
    exact ⟨u', b1, a2.back hm b2⟩
  | iter m since seen ck =>
    obtain ⟨h1, h0, mb, h2, h3⟩ := h
    obtain ⟨k1, k0, mb', k2, k3⟩ := h'
    exact ⟨k1, k0, mb', k2, h3.back hm k3⟩
/-- A call that changes nothing that was there and answers no id leaves the store. -/
theorem Sim.pure {f : FuncId} {args : List Value} {σ σ' : Store} {r : Value} (h : Sim P f args σ r σ') (hr : closed r = true) (hs : ∀ i o, σ.get i = some o → σ'.get i = some o) : Sim P f args σ r σ := by
  refine ⟨Nat.le_refl _, fun M w cargs hrel hargs => Calls.mono (h.2 M w cargs hrel hargs) ?_⟩
  rintro e w' ⟨M', v, rfl, h2, h3, h4⟩
  refine ⟨M, v, rfl, (VR.of_closed hr).back h4.le h2, ⟨fun i o hi => ?_, hrel.apart, hrel.dom⟩, ⟨Nat.le_refl _, M.le_refl, h4.size, h4.frame, fun _ _ h => h, fun _ _ h => h, h4.os, h4.tape, h4.output⟩⟩
  obtain ⟨l, hl, hsh⟩ := hrel.shows i o hi
  obtain ⟨l', hl', hsh'⟩ := h3.shows i o (hs i o hi)
  have := h4.le i l hl
  rw [this] at hl'; cases hl'
  exact ⟨l, hl, hsh.back h4.le hsh'⟩
theorem Does.pure {f : FuncId} {args : List Value} {σ : Store} {r : Value} {Q : Value → Store → Prop} (h : Does P f args σ fun r' σ' => r' = r ∧ ∀ i o, σ.get i = some o → σ'.get i = some o) (hr : closed r = true) (hq : Q r σ) : Does P f args σ Q := by
  obtain ⟨r', σ', h1, rfl, h2⟩ := h
  exact ⟨r', σ, h1.pure hr h2, hq⟩
/-- Nothing is given. -/
def nothing : Given := fun _ => none
end Go.Am
end
section
/- The abstract machine, part 22: laws for contracts. No program in sight. -/
set_option linter.all false
namespace Go.Am
open Go.RowKit
variable {P : Program} {ops : Array Oper} {o : Oper} {rest : List Oper} {K : List Value → Store → Prop} {a a' : List Value} {σ σ' : Store} {v : Value}

/-! ## what side goals want -/
theorem splice_one {c : List Value} {o : Nat} {v : Value} (h : o < c.length) : splice c o [v] = c.set o v := by
  rw [List.set_eq_take_append_cons_drop, if_pos h]
  unfold splice
  cases o with
  | zero => simp
  | succ o => simp
theorem wrap_i64 {n : Int} (h0 : -9223372036854775808 ≤ n) (h1 : n < 9223372036854775808) : IntKind.i64.wrap n = n := by
  have h2 : (2 : Int) ^ 64 = 18446744073709551616 := rfl
  have h3 : (2 : Int) ^ (64 - 1) = 9223372036854775808 := rfl
  simp only [IntKind.wrap, IntKind.bits, IntKind.signed, Bool.true_and, decide_eq_true_eq, h2, h3]
  split <;> omega
section
variable {b : Array Nat} {i : Nat} {lrest : List Nat} {past : List Store} {cur s : Store} {fl fl' : List (Nat × ((Nat → Option SObj) → Option Value) × Value)}
end
theorem append_nil {sz by_ j m c : Nat} {gj gr : Option Nat} {news : List Value} (hj : σ.get j = some (.cells news gr)) (hl : news.length = (m + 1) * sz) (hb : (m + 1) * by_ ≤ 140737488355328) (hm : m + 1 ≤ 9223372036854775807) :
    appendV sz by_ (.slice none 0 0) (.slice (some ⟨j, 0, gj⟩) (m + 1) c) σ = some (.slice (some ⟨σ.next, 0, some sz⟩) (m + 1) (m + 1), σ.push (.cells news (some sz))) := by
  simp [appendV, lenV, sourceV, cellsAt, hj, Nat.ble_eq_true_of_le (Nat.le_of_eq hl.symm), Nat.ble_eq_true_of_le hb, Nat.ble_eq_true_of_le hm, List.take_of_length_le (Nat.le_of_eq hl)]
theorem append_full {sz by_ i j n m c : Nat} {gj gr : Option Nat} {cs news : List Value} (hi : σ.get i = some (.cells cs (some sz))) (hcl : cs.length = n * sz) (hj : σ.get j = some (.cells news gr)) (hl : news.length = (m + 1) * sz) (hb : (n + (m + 1)) * by_ ≤ 140737488355328) (hm : n + (m + 1) ≤ 9223372036854775807) :
    appendV sz by_ (.slice (some ⟨i, 0, some sz⟩) n n) (.slice (some ⟨j, 0, gj⟩) (m + 1) c) σ = some (.slice (some ⟨σ.next, 0, some sz⟩) (n + (m + 1)) (n + (m + 1)), (σ.put i none).push (.cells (cs ++ news) (some sz))) := by
  have h0 : Nat.ble (n + (m + 1)) n = false := by
    cases hx : Nat.ble (n + (m + 1)) n with
    | false => rfl
    | true => have := Nat.le_of_ble_eq_true hx; omega
  have h1 : Nat.ble (0 + n * sz) cs.length = true := Nat.ble_eq_true_of_le (by omega)
  have h2 : cs.take (n * sz) = cs := List.take_of_length_le (by omega)
  simp [appendV, lenV, sourceV, cellsAt, hi, hj, h0, h2, Nat.ble_eq_true_of_le (Nat.le_of_eq hl.symm), Nat.ble_eq_true_of_le hb, Nat.ble_eq_true_of_le hm, List.take_of_length_le (Nat.le_of_eq hl), hcl, Nat.ble_eq_true_of_le (Nat.le_refl (n * sz))]
/-- The cells of a type's zero value, by name. -/
def zerosOf (P : Program) (t : TypeId) : List Value := (tZeros P t).getD []
/-- A round hands on to one with less to go. -/
def Next (Inv : Nat → List Value → Store → Prop) (n : Nat) (xs : List Value) (σ : Store) : Prop := ∃ m, m < n ∧ Inv m xs σ
/-- How a loop begins. -/
def Start (Inv : Nat → List Value → Store → Prop) (n : Nat) (xs : List Value) (σ : Store) : Prop := Inv n xs σ
theorem Start.mk {Inv : Nat → List Value → Store → Prop} {n : Nat} {xs : List Value} {σ : Store} (h : Inv n xs σ) : Start Inv n xs σ := h
theorem Next.mk {Inv : Nat → List Value → Store → Prop} {n : Nat} {xs : List Value} {σ : Store} (m : Nat) (hm : m < n) (h : Inv m xs σ) : Next Inv n xs σ := ⟨m, hm, h⟩
attribute [irreducible] Next Start zerosOf
end Go.Am
end
section
/- The abstract machine, part 23: maps over whole numbers. No program in sight. -/
set_option linter.all false
namespace Go.Am
open Go.RowKit
variable {P : Program} {σ : Store}

abbrev Ents := List (Int × Value × Nat)
def ents (l : Ents) : List MapEntry := l.map fun p => { key := .int .i64 p.1, val := p.2.1, born := p.2.2 }
def efind : Ents → Int → Nat → Option (Nat × Value)
  | [], _, _ => none
  | p :: l, x, i => if p.1 = x then some (i, p.2.1) else efind l x (i + 1)
def eget (l : Ents) (x : Int) : Option Value := (efind l x 0).map (·.2)
theorem findNow_ents (x : Int) : ∀ (l : Ents) (i : Nat), Instr.findNow (.int .i64) (.int .i64 x) (ents l) i = some (efind l x i)
  | [], _ => rfl
  | p :: l, i => by
    have ih := findNow_ents x l (i + 1)
    unfold ents at ih
    simp only [ents, List.map_cons, Instr.findNow, Instr.sameNow, efind, if_true]
    by_cases h : p.1 = x
    · subst h; simp
    · have h2 : (x == p.1) = false := by simp; exact fun e => h e.symm
      simp [h, h2, ih]
/-- A key is given a value. -/
def eset : Ents → Int → Value → Ents
  | [], _, _ => []
  | p :: l, x, v => if p.1 = x then (x, v, p.2.2) :: l else p :: eset l x v
def eput (l : Ents) (ck : Nat) (x : Int) (v : Value) : Ents × Nat :=
  match efind l x 0 with
  | some _ => (eset l x v, ck)
  | none => (l ++ [(x, v, ck)], ck + 1)
theorem eset_modify (x : Int) (v : Value) : ∀ (l : Ents) (i j : Nat) (u : Value), efind l x i = some (j, u) → i ≤ j ∧ (ents l).modify (j - i) (fun e => { e with key := .int .i64 x, val := v }) = ents (eset l x v)
  | [], _, _, _, h => by cases h
  | p :: l, i, j, u, h => by
    unfold efind at h
    unfold eset
    by_cases hp : p.1 = x
    · rw [if_pos hp] at h
      cases h
      rw [if_pos hp]
      refine ⟨Nat.le_refl _, ?_⟩
      simp [ents]
    · rw [if_neg hp] at h
      rw [if_neg hp]
      obtain ⟨h1, h2⟩ := eset_modify x v l (i + 1) j u h
      refine ⟨by omega, ?_⟩
      have e : j - i = (j - (i + 1)) + 1 := by omega
      rw [e]
      unfold ents at h2 ⊢
      simp only [List.map_cons, List.modify_succ_cons, h2]
theorem efind_get (y : Int) : ∀ (l : Ents) (i j : Nat), (efind l y i).map (·.2) = (efind l y j).map (·.2)
  | [], _, _ => rfl
  | p :: l, i, j => by
    unfold efind
    split
    · rfl
    · exact efind_get y l _ _
theorem eget_cons (p : Int × Value × Nat) (l : Ents) (y : Int) : eget (p :: l) y = if p.1 = y then some p.2.1 else eget l y := by
  unfold eget
  conv => lhs; unfold efind
  split
  · rfl
  · exact efind_get y l _ _
theorem eget_eset (x : Int) (v : Value) (y : Int) : ∀ (l : Ents), (eget l x).isSome → eget (eset l x v) y = if y = x then some v else eget l y
  | [], h => by simp [eget, efind] at h
  | p :: l, h => by
    unfold eset
    by_cases hp : p.1 = x
    · rw [if_pos hp, eget_cons, eget_cons]
      by_cases hy : y = x
      · subst hy; simp
      · have h1 : ¬ x = y := fun e => hy e.symm
        rw [if_neg h1, if_neg hy, if_neg (by rw [hp]; exact h1)]
    · rw [if_neg hp, eget_cons, eget_cons]
      rw [eget_cons, if_neg hp] at h
      by_cases hy : y = x
      · subst hy
        rw [if_neg hp, eget_eset y v y l h, if_pos rfl, if_pos rfl]
      · rw [eget_eset x v y l h, if_neg hy, if_neg hy]
theorem eget_append (l k : Ents) (y : Int) : eget (l ++ k) y = (eget l y).or (eget k y) := by
  induction l with
  | nil => simp [eget, efind]
  | cons p l ih =>
    rw [List.cons_append, eget_cons, eget_cons, ih]
    split <;> simp
theorem eget_eput (l : Ents) (ck : Nat) (x : Int) (v : Value) (y : Int) : eget (eput l ck x v).1 y = if y = x then some v else eget l y := by
  unfold eput
  cases hf : efind l x 0 with
  | none =>
    have h0 : eget l x = none := by simp [eget, hf]
    rw [eget_append, eget_cons]
    by_cases hy : y = x
    · subst hy; simp [h0]
    · have h1 : ¬ x = y := fun e => hy e.symm
      simp [hy, h1, eget, efind]
  | some iu =>
    exact eget_eset x v y l (by simp [eget, hf])
/-! ## what is only read -/
/-- Cells of the world become an id's, to be read. -/
theorem Rel.lend {M : Places} {w : World} (h : Rel M σ w) {c : List Value} {b o : Nat} (hc : ∀ (j : Nat) (v : Value), c[j]? = some v → ∃ v', w.cell? ⟨b, o + j, none⟩ = some v' ∧ VR M true v v') (hb : b < w.heap.size)
    (hap : ∀ i x l, σ.get i = some x → x.own = true → M i = some l → l.block ≠ b) : Rel (M.upd σ.next ⟨b, o, none⟩) (σ.push (.lent c)) w := by
  have hle : M.le (M.upd σ.next ⟨b, o, none⟩) := Places.le_upd _ (h.dom _ (Nat.le_refl _))
  refine ⟨fun i x hi => ?_, fun i j x y li lj hi hj hx hne hli hlj => ?_, fun i hi => ?_⟩
  · by_cases e : i = σ.next
    · subst e
      rw [Store.get_push_same] at hi; cases hi
      refine ⟨_, Places.upd_same _ _ _, rfl, hb, fun j v hv => ?_⟩
      obtain ⟨v', h1, h2⟩ := hc j v hv
      exact ⟨v', h1, h2.mono hle⟩
    · rw [Store.get_push, if_neg e] at hi
      obtain ⟨l', hl', hs'⟩ := h.shows i x hi
      exact ⟨l', by rw [Places.upd_ne _ e]; exact hl', hs'.mono hle⟩
  · by_cases ei : i = σ.next
    · subst ei
      rw [Store.get_push_same] at hi; cases hi
      cases hx
    · rw [Store.get_push, if_neg ei] at hi
      rw [Places.upd_ne _ ei] at hli
      by_cases ej : j = σ.next
      · subst ej
        rw [Places.upd_same] at hlj; cases hlj
        exact hap i x li hi hx hli
      · rw [Store.get_push, if_neg ej] at hj
        rw [Places.upd_ne _ ej] at hlj
        exact h.apart i j x y li lj hi hj hx hne hli hlj
  · rw [Store.next_push] at hi
    rw [Places.upd_ne _ (by omega)]
    exact h.dom i (by omega)
end Go.Am
end
section
/- The abstract machine, part 24: operations with their types resolved. No program in sight. -/
set_option linter.all false
namespace Go.Am
open Go.RowKit
variable {P : Program}

/-! ## rows of like cells -/
def unrle : List (Nat × Value) → List Value
  | [] => []
  | (n, v) :: r => List.replicate n v ++ unrle r
def comp1 (v : Value) (q : List (Nat × Value)) : List (Nat × Value) :=
  match q with
  | [] => [(1, v)]
  | (n, u) :: q => bif same1 v u then (n + 1, u) :: q else (1, v) :: (n, u) :: q
def comp : List Value → List (Nat × Value)
  | [] => []
  | v :: r => comp1 v (comp r)
theorem unrle_comp : ∀ z : List Value, unrle (comp z) = z
  | [] => rfl
  | v :: r => by
    show unrle (comp1 v (comp r)) = v :: r
    have ih := unrle_comp r
    unfold comp1
    split
    · rename_i h
      rw [h] at ih
      rw [← ih]; rfl
    · rename_i n u q h
      rw [h] at ih
      cases hs : same1 v u with
      | false => rw [cond_false, ← ih]; rfl
      | true =>
        rw [cond_true, ← ih, same1_eq hs]
        simp [unrle, List.replicate_succ]
def rle (z : List Value) : List Value := unrle (comp z)
@[simp] theorem rle_eq (z : List Value) : rle z = z := unrle_comp z
def rleV (z : Value) : Value := match z with | .agg xs => .agg (unrle (comp xs.toList)).toArray | v => v
@[simp] theorem rleV_eq (z : Value) : rleV z = z := by
  unfold rleV
  split
  · rw [unrle_comp]
  · rfl

/-! ## what an operation does, its types resolved -/
inductive ActH where
  | fail
  | mv (v : Value)
  | val (x : Option Value)
  | rd (f : (Nat → Option SObj) → Option Value)
  | new (x : Option (SObj × (Nat → Value)))
  | eff (f : Store → Option (Value × Store))
  | call (x : Option (FuncId × List Value))
  | pick (f : Store → Option (List (Value × Store)))
def Fits (h : ActH) (x : Option Action) : Prop :=
  match h with
  | .fail => True
  | .mv v => x = some (.val v)
  | .val y => ∀ v, y = some v → x = some (.val v)
  | .rd f => (∃ f', x = some (.rd f') ∧ ∀ g v, f g = some v → f' g = some v) ∨ ∀ g, f g = none
  | .new y => ∀ o mk, y = some (o, mk) → x = some (.new o mk)
  | .eff f => (∃ f', x = some (.eff f') ∧ ∀ σ r, f σ = some r → f' σ = some r) ∨ ∀ σ, f σ = none
  | .call y => ∀ f as, y = some (f, as) → x = some (.call f as)
  | .pick f => x = some (.pick f)
theorem Fits.rd_same (f : (Nat → Option SObj) → Option Value) : Fits (.rd f) (some (.rd f)) := .inl ⟨f, rfl, fun _ _ h => h⟩
theorem Fits.eff_same (f : Store → Option (Value × Store)) : Fits (.eff f) (some (.eff f)) := .inl ⟨f, rfl, fun _ _ h => h⟩

def pickV (c a b : Value) : Option Value := match c with | .bool t => some (bif t then a else b) | _ => none
def boxN (x : Value) : Option (SObj × (Nat → Value)) := match cellsL x with | some cs => some (.cells cs none, ptrTo) | none => none
def nilV (x : Value) : Option Value := match x with | .pointer (some a) => some (.pointer (some a)) | .func (.func f) xs ys => some (.func (.func f) xs ys) | _ => none
def shiftV (op : BinOp) (x y : Value) : Option Value := match x, y with | .int k a, .int _ b => shiftOp op k a b | _, _ => none
def binI (op : BinOp) (x y : Value) : Option Value := match x, y with | .int k a, .int k' b => bif k == k' then intOp op k a b else none | _, _ => none
def binS (op : BinOp) (x y : Value) : Option Value := match x, y with | .string a, .string b => strOp op a b | _, _ => none
def eqB (neg : Bool) (x y : Value) : Option Value := match x, y with | .bool a, .bool b => some (.bool ((a == b) ^^ neg)) | _, _ => none
/-- One of the two is nil. -/
def eqSl (neg : Bool) (x y : Value) : Option Value :=
  match x, y with
  | .slice none _ _, .slice b _ _ => some (.bool (b.isNone ^^ neg))
  | .slice (some _) _ _, .slice none _ _ => some (.bool (false ^^ neg))
  | _, _ => none
def eqMp (neg : Bool) (x y : Value) : Option Value :=
  match x, y with
  | .map none, .map b => some (.bool (b.isNone ^^ neg))
  | .map (some _), .map none => some (.bool (false ^^ neg))
  | _, _ => none
def eqFn (neg : Bool) (x y : Value) : Option Value :=
  match x, y with
  | .nilFunc, .nilFunc => some (.bool (true ^^ neg))
  | .nilFunc, .func (.func _) _ _ => some (.bool (false ^^ neg))
  | .func (.func _) _ _, .nilFunc => some (.bool (false ^^ neg))
  | _, _ => none
def eqPn (neg : Bool) (x y : Value) : Option Value :=
  match x, y with
  | .pointer none, .pointer b => some (.bool (b.isNone ^^ neg))
  | .pointer (some _), .pointer none => some (.bool (false ^^ neg))
  | _, _ => none
def eqPt (neg : Bool) (x y : Value) (g : Nat → Option SObj) : Option Value :=
  match x, y with
  | .pointer (some a), .pointer (some b) => (eqP a b g).map fun r => .bool (r ^^ neg)
  | _, _ => none
def isNilC (x : Operand) : Bool := match x with | .const (.pointer none) => true | _ => false
/-- How cells are held against each other. -/
inductive EqD where
  | ints (k : IntKind) (n : Nat)
  | one (d : TypeDesc)
  | fields (l : List (Nat × Nat × EqD))
  | elems (c n : Nat) (d : EqD)
mutual
def eqD : EqD → List Value → List Value → Option Bool
  | .ints k n, xs, ys => eqInts k n xs ys
  | .one d, xs, ys => eqLeaf d xs ys
  | .fields l, xs, ys => eqDs l xs ys
  | .elems c n d, xs, ys => eqIs (eqD d) c n xs ys
def eqDs : List (Nat × Nat × EqD) → List Value → List Value → Option Bool
  | [], _, _ => some true
  | (off, n, d) :: l, xs, ys =>
    match eqD d ((xs.drop off).take n) ((ys.drop off).take n), eqDs l xs ys with
    | some a, some b => some (a && b)
    | _, _ => none
end
def descFs (P : Program) (desc : TypeId → Option EqD) : List Field → Option (List (Nat × Nat × EqD))
  | [] => some []
  | fl :: fs =>
    bif fl.name == "_" then none else
    match tSize P fl.type, desc fl.type, descFs P desc fs with
    | some n, some d, some l => some ((fl.offset, n, d) :: l)
    | _, _, _ => none
def desc (P : Program) : Nat → TypeId → Option EqD
  | 0, _ => none
  | f + 1, t =>
    match P.underlying t with
    | some (.struct fs) => bif P.stoodInHeld t then none else (descFs P (desc P f) fs.toList).map .fields
    | some (.array n e) =>
      match P.underlying e, tSize P e with
      | some (.int k), some 1 => some (.ints k n)
      | some _, some c => (desc P f e).map (.elems c n)
      | _, _ => none
    | some d => some (.one d)
    | none => none
theorem descFs_eq {des : TypeId → Option EqD} {eq : TypeId → List Value → List Value → Option Bool} (h : ∀ t d, des t = some d → ∀ xs ys, eq t xs ys = eqD d xs ys) : ∀ {fs : List Field} {l : List (Nat × Nat × EqD)}, descFs P des fs = some l → ∀ xs ys, eqFs P eq fs xs ys = eqDs l xs ys
  | [], l, hl, xs, ys => by cases hl; simp [eqFs, eqDs]
  | fl :: fs, l, hl, xs, ys => by
    unfold descFs at hl
    unfold eqFs
    cases hn : (fl.name == "_") with
    | true => rw [hn] at hl; cases hl
    | false =>
      rw [hn] at hl
      simp only [cond_false] at hl ⊢
      cases hs : tSize P fl.type with
      | none => rw [hs] at hl; cases hl
      | some n =>
        cases hd : des fl.type with
        | none => rw [hs, hd] at hl; cases hl
        | some d =>
          cases hf : descFs P des fs with
          | none => rw [hs, hd, hf] at hl; cases hl
          | some l' =>
            rw [hs, hd, hf] at hl
            cases hl
            simp only [eqDs, h _ _ hd, descFs_eq h hf]
            generalize eqD d _ _ = A
            generalize eqDs l' xs ys = B
            cases A <;> cases B <;> rfl
theorem desc_eq : ∀ {f : Nat} {t : TypeId} {d : EqD}, desc P f t = some d → ∀ xs ys, eqL P f t xs ys = eqD d xs ys
  | 0, _, _, h, _, _ => by cases h
  | f + 1, t, d, h, xs, ys => by
    unfold desc at h
    unfold eqL
    cases hu : P.underlying t with
    | none => rw [hu] at h; cases h
    | some u =>
      rw [hu] at h
      cases u with
      | struct fs =>
        simp only at h ⊢
        cases hst : P.stoodInHeld t with
        | true => rw [hst] at h; cases h
        | false =>
          rw [hst] at h
          simp only [cond_false] at h ⊢
          cases hf : descFs P (desc P f) fs.toList with
          | none => rw [hf] at h; cases h
          | some l =>
            rw [hf] at h; cases h
            rw [descFs_eq (fun t d hd xs ys => desc_eq hd xs ys) hf]
            simp [eqD]
      | array n e =>
        simp only at h ⊢
        split at h
        · rename_i k h1 h2
          cases h
          simp [h1, h2, eqD]
        · rename_i u c hno h1 h2
          cases hd : desc P f e with
          | none => rw [hd] at h; cases h
          | some d' =>
            rw [hd] at h; cases h
            have hfun : eqL P f e = eqD d' := funext fun xs => funext fun ys => desc_eq hd xs ys
            rw [h1, h2]
            simp only [eqD, hfun]
        · cases h
      | _ => cases h; simp [eqD]
def eqA (d : EqD) (neg : Bool) (x y : Value) : Option Value := match x, y with | .agg xs, .agg ys => (eqD d xs.toList ys.toList).map fun b => .bool (b ^^ neg) | _, _ => none
def eqH (P : Program) (nc neg : Bool) (t : TypeId) (x y : Value) : ActH :=
  match P.underlying t with
  | some .bool => .val (eqB neg x y)
  | some (.slice _) => .val (eqSl neg x y)
  | some (.map _ _) => .val (eqMp neg x y)
  | some (.func _ _ _) => .val (eqFn neg x y)
  | some (.pointer el) => bif nc then .val (eqPn neg x y) else (match tSize P el with | some (_ + 1) => .rd (eqPt neg x y) | _ => .fail)
  | some (.struct _) => (match desc P eqFuel t with | some d => .val (eqA d neg x y) | none => .fail)
  | some (.array _ _) => (match desc P eqFuel t with | some d => .val (eqA d neg x y) | none => .fail)
  | _ => .fail
def binH (P : Program) (nc : Bool) (op : BinOp) (t : TypeId) (x y : Value) : ActH :=
  match op with
  | .shl => .val (shiftV .shl x y)
  | .shr => .val (shiftV .shr x y)
  | op =>
    match P.underlying t with
    | some (.int _) => .val (binI op x y)
    | some .string => .val (binS op x y)
    | _ =>
      match op with
      | .eql => eqH P nc false t x y
      | .neq => eqH P nc true t x y
      | _ => .fail
theorem binI_fits {op : BinOp} {t : TypeId} {x y v : Value} (h1 : op ≠ .shl) (h2 : op ≠ .shr) (h : binI op x y = some v) : binA P op t x y = some (.val v) := by
  unfold binI at h
  split at h
  · cases op <;> first | exact absurd rfl h1 | exact absurd rfl h2 | (
      rename_i k a k' b
      unfold binA
      cases hk : (k == k') <;> rw [hk] at h
      · cases h
      · simp only [hk, cond_true] at h ⊢
        rw [h]; rfl)
  · cases h
theorem binS_fits {op : BinOp} {t : TypeId} {x y v : Value} (h : binS op x y = some v) : binA P op t x y = some (.val v) := by
  unfold binS at h
  split at h
  · cases op <;> (unfold binA; simp only; rw [h]; rfl)
  · cases h
theorem eqV_fits {t : TypeId} {x y : Value} {b : Bool} (hs : ∀ k a j c, ¬ (x = .int k a ∧ y = .int j c)) (hst : ∀ a c, ¬ (x = .string a ∧ y = .string c)) (hp : ∀ a c, ¬ (x = .pointer (some a) ∧ y = .pointer (some c))) (h : eqV P t x y = some b) (neg : Bool) :
    binA P (bif neg then .neq else .eql) t x y = some (.val (.bool (b ^^ neg))) := by
  cases neg
  · unfold binA
    simp only [cond_false]
    split <;> first | (rename_i e1 e2 e3; cases e1; done) | skip
    all_goals first
      | exact absurd ⟨rfl, rfl⟩ (hs _ _ _ _)
      | exact absurd ⟨rfl, rfl⟩ (hst _ _)
      | exact absurd ⟨rfl, rfl⟩ (hp _ _)
      | (rw [h]; simp; done)
      | (simp_all; done)
      | (rename_i hh _ _ _; cases hh; done)
      | (rename_i hh _ _ _ _; cases hh; done)
  · unfold binA
    simp only [cond_true]
    split <;> first | (rename_i e1 e2 e3; cases e1; done) | skip
    all_goals first
      | exact absurd ⟨rfl, rfl⟩ (hs _ _ _ _)
      | exact absurd ⟨rfl, rfl⟩ (hst _ _)
      | exact absurd ⟨rfl, rfl⟩ (hp _ _)
      | (rw [h]; simp; done)
      | (simp_all; done)
      | (rename_i hh _ _ _; cases hh; done)
      | (rename_i hh _ _ _ _; cases hh; done)
end Go.Am
end
