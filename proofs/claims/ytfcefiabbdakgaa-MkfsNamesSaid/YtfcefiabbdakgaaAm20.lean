/- The abstract machine, part 20: it is run. No program in sight. -/
import Derived.Test.YtfcefiabbdakgaaAm19
set_option linter.all false
namespace Go.Am
open Go.RowKit
variable {P : Program}

/-- Alike, as far as is seen at a look. -/
def same1 : Value → Value → Bool
  | .bool a, .bool b => a == b
  | .int k a, .int l b => decide (k = l) && decide (a = b)
  | .string a, .string b => decide (a = b)
  | .pointer none, .pointer none => true
  | .pointer (some a), .pointer (some b) => decide (a = b)
  | .slice none a b, .slice none c d => decide (a = c) && decide (b = d)
  | .slice (some x) a b, .slice (some y) c d => decide (x = y) && decide (a = c) && decide (b = d)
  | .map a, .map b => decide (a = b)
  | .nilFunc, .nilFunc => true
  | .nilIface, .nilIface => true
  | .func (.func f) xs ys, .func (.func g) us vs => decide (f = g) && xs.isEmpty && ys.isEmpty && us.isEmpty && vs.isEmpty
  | _, _ => false
theorem same1_eq {a b : Value} (h : same1 a b = true) : a = b := by
  unfold same1 at h
  split at h <;> simp_all
def sameVs : List Value → List Value → Bool
  | [], [] => true
  | a :: as, b :: bs => same1 a b && sameVs as bs
  | _, _ => false
theorem sameVs_eq : ∀ {a b : List Value}, sameVs a b = true → a = b
  | [], [], _ => rfl
  | a :: as, b :: bs, h => by
    simp only [sameVs, Bool.and_eq_true] at h
    rw [same1_eq h.1, sameVs_eq h.2]
  | [], _ :: _, h => by cases h
  | _ :: _, [], h => by cases h
def sameV : Value → Value → Bool
  | .agg a, .agg b => sameVs a.toList b.toList
  | .tuple a, .tuple b => sameVs a.toList b.toList
  | a, b => same1 a b
theorem sameV_eq {a b : Value} (h : sameV a b = true) : a = b := by
  unfold sameV at h
  split at h
  · have := sameVs_eq h
    rw [Array.toList_inj] at this
    rw [this]
  · have := sameVs_eq h
    rw [Array.toList_inj] at this
    rw [this]
  · exact same1_eq h
def sameO : Option Value → Value → Bool
  | some a, b => sameV a b
  | none, _ => false
theorem sameO_eq {a : Option Value} {b : Value} (h : sameO a b = true) : a = some b := by
  cases a with
  | none => cases h
  | some a => rw [sameV_eq (show sameV a b = true from h)]

abbrev Ans := Option (Value × Store)
def roundsO (F : (List Value → Store → Ans) → List Value → Store → Ans) : Nat → List Value → Store → Ans
  | 0, _, _ => none
  | n + 1, xs, σ => F (roundsO F n) xs σ
def RI (C : FuncId → List Value → Store → Ans) (n : Nat) : Interp Ans where
  fail := none
  call f args σ K := match C f args σ with | some (v, σ') => K v σ' | none => none
  loop F xs σ := roundsO F n xs σ
  check x v r := bif sameO x v then r else none

/-- Functions whose answer is given. -/
abbrev Given := FuncId → Option (List Value → Store → Ans)
def pcall (P : Program) (T : Given) : Nat → FuncId → List Value → Store → Ans
  | 0, _, _, _ => none
  | n + 1, f, args, σ =>
    match T f with
    | some g => g args σ
    | none =>
      match P.funcs[f]? with
      | some fn => bif okFn P fn then bodyG (RI (pcall P T n) 100000) P fn args σ (fun v σ' => some (v, σ')) else none
      | none => none

section
variable {C : FuncId → List Value → Store → Ans} (hC : ∀ f args σ v σ', C f args σ = some (v, σ') → Sim P f args σ v σ') {n : Nat} {res : Value × Store}
include hC
theorem doAct_run {x : Option Action} {σ : Store} {K : Value → Store → Ans} {K' : Value → Store → Prop} (hk : ∀ v s, K v s = some res → K' v s) (h : doAct (RI C n) x σ K = some res) : doAct (PI P) x σ K' := by
  cases x with
  | none => cases h
  | some x =>
    cases x with
    | val v => exact hk _ _ h
    | rd f =>
      simp only [doAct] at h ⊢
      split at h
      · exact hk _ _ h
      · cases h
    | new o mk => exact hk _ _ h
    | eff f =>
      simp only [doAct] at h ⊢
      split at h
      · exact hk _ _ h
      · cases h
    | call f args =>
      simp only [doAct, RI] at h
      split at h
      · rename_i v σ' hv
        exact ⟨v, σ', hC _ _ _ _ _ hv, hk _ _ h⟩
      · cases h
theorem seqOps_run {ops : Array Oper} : ∀ {l : List Oper} {K : List Value → Store → Ans} {K' : List Value → Store → Prop} {a : List Value} {σ : Store}, (∀ a s, K a s = some res → K' a s) → seqOps (RI C n) P ops l K a σ = some res → seqOps (PI P) P ops l K' a σ
  | [], _, _, _, _, hk, h => hk _ _ h
  | o :: rest, K, K', a, σ, hk, h => by
    unfold seqOps at h ⊢
    simp only at h ⊢
    split at h
    · exact doAct_run hC (fun v s hh => seqOps_run hk hh) h
    · exact seqOps_run hk h
    · cases h
omit hC in
theorem recheck_run {k : Nat} {s : Store} : ∀ {fl : List (Nat × ((Nat → Option SObj) → Option Value) × Value)} {r : Ans} {r' : Prop}, recheck (RI C n) k s fl r = some res → (r = some res → r') → recheck (PI P) k s fl r'
  | [], _, _, h, hr => hr h
  | (hi, f, v) :: fl, r, r', h, hr => by
    unfold recheck at h ⊢
    cases hb : Nat.ble k hi <;> rw [hb] at h <;> simp only [cond_true, cond_false] at h ⊢
    · exact recheck_run h hr
    · simp only [RI] at h
      cases hs : sameO (f s.get) v <;> rw [hs] at h <;> simp only [cond_true, cond_false] at h
      · cases h
      · exact ⟨sameO_eq hs, recheck_run h hr⟩
omit hC in
theorem checkAll_run {f : (Nat → Option SObj) → Option Value} {v : Value} : ∀ {ss : List Store} {r : Ans} {r' : Prop}, checkAll (RI C n) f v ss r = some res → (r = some res → r') → checkAll (PI P) f v ss r'
  | [], _, _, h, hr => hr h
  | s :: ss, r, r', h, hr => by
    simp only [checkAll, RI] at h ⊢
    cases hs : sameO (f s.get) v <;> rw [hs] at h <;> simp only [cond_true, cond_false] at h
    · cases h
    · exact ⟨sameO_eq hs, checkAll_run h hr⟩
theorem drawOps_run {ops : Array Oper} {b : Array Nat} : ∀ {l : List Nat} {K : List Value → Store → Ans} {K' : List Value → Store → Prop} {a : List Value} {past : List Store} {cur : Store} {fl : List (Nat × ((Nat → Option SObj) → Option Value) × Value)}, (∀ a s, K a s = some res → K' a s) → drawOps (RI C n) P ops b l K a past cur fl = some res → drawOps (PI P) P ops b l K' a past cur fl
  | [], _, _, _, _, _, _, hk, h => hk _ _ h
  | i :: rest, K, K', a, past, cur, fl, hk, h => by
    unfold drawOps at h ⊢
    cases ho : ops[i]? with
    | none => rw [ho] at h; cases h
    | some o =>
      rw [ho] at h
      simp only at h ⊢
      cases he : isEff o.op <;> rw [he] at h <;> simp only [cond_true, cond_false] at h ⊢
      · split at h
        · cases h
        · exact drawOps_run hk h
        · split at h
          · exact drawOps_run hk h
          · exact drawOps_run hk h
          · split at h
            · cases h
            · exact checkAll_run h (drawOps_run hk)
          · cases h
      · split at h
        · exact doAct_run hC (fun v s hh => recheck_run hh (drawOps_run hk)) h
        · exact recheck_run h (drawOps_run hk)
        · cases h
theorem codeG_run : ∀ {c : Code} {D : List Nat} {K : Out → List Value → Store → Ans} {K' : Out → List Value → Store → Prop} {a : List Value} {σ : Store}, (∀ e a s, K e a s = some res → K' e a s) → codeG (RI C n) P c D K a σ = some res → codeG (PI P) P c D K' a σ := by
  intro c
  induction c with
  | skip => intro D K K' a σ hk h; exact hk _ _ _ h
  | label l => intro D K K' a σ hk h; exact hk _ _ _ h
  | region id ops d =>
    intro D K K' a σ hk h
    cases d with
    | false => exact seqOps_run hC (fun a s hh => hk _ _ _ hh) h
    | true => exact drawOps_run hC (fun a s hh => hk _ _ _ hh) h
  | seq x y ihx ihy =>
    intro D K K' a σ hk h
    refine ihx (fun e a s hh => ?_) h
    cases e with
    | normal => exact ihy hk hh
    | _ => exact hk _ _ _ hh
  | cond c x y ihx ihy =>
    intro D K K' a σ hk h
    unfold codeG at h ⊢
    split at h
    · exact ihx hk h
    · exact ihy hk h
    · cases h
  | block id c ih =>
    intro D K K' a σ hk h
    refine ih (fun e a s hh => ?_) h
    cases e with
    | exit j =>
      simp only at hh ⊢
      cases hb : j == id <;> rw [hb] at hh <;> simp only [cond_true, cond_false] at hh ⊢ <;> exact hk _ _ _ hh
    | _ => exact hk _ _ _ hh
  | loop c ih =>
    intro D K K' a σ hk h
    refine codeG_loop.2 ⟨n, ?_⟩
    have key : ∀ (F : (List Value → Store → Ans) → List Value → Store → Ans) (F' : (List Value → Store → Prop) → List Value → Store → Prop),
        (∀ N N', (∀ xs s, N xs s = some res → N' xs s) → ∀ xs s, F N xs s = some res → F' N' xs s) → ∀ n xs s, roundsO F n xs s = some res → rounds F' n xs s := by
      intro F F' hF n
      induction n with
      | zero => intro xs s h; cases h
      | succ n ihn => intro xs s h; exact hF _ _ ihn xs s h
    refine key _ _ (fun N N' hN xs s hh => ?_) n _ _ h
    unfold loopF
    refine ih (fun e a s h1 => ?_) hh
    cases e with
    | normal => exact hN _ _ h1
    | _ => exact hk _ _ _ h1
  | exit id => intro D K K' a σ hk h; exact hk _ _ _ h
  | ret => intro D K K' a σ hk h; exact hk _ _ _ h
  | _ => intros; rename_i h; cases h
theorem bodyG_run {fn : Func} {args : List Value} {σ : Store} {K : Value → Store → Ans} {K' : Value → Store → Prop} (hk : ∀ v s, K v s = some res → K' v s) (h : bodyG (RI C n) P fn args σ K = some res) : bodyG (PI P) P fn args σ K' := by
  unfold bodyG at h ⊢
  split at h
  · cases h
  · refine codeG_run hC (fun e a s hh => ?_) h
    cases e with
    | exit j => cases hh
    | _ =>
      simp only at hh ⊢
      split at hh
      · exact hk _ _ hh
      · cases hh
end
theorem pcall_sim {T : Given} (hT : ∀ f g, T f = some g → ∀ args σ v σ', g args σ = some (v, σ') → Sim P f args σ v σ') : ∀ n f args σ v σ', pcall P T n f args σ = some (v, σ') → Sim P f args σ v σ'
  | 0, _, _, _, _, _, h => by cases h
  | n + 1, f, args, σ, v, σ', h => by
    unfold pcall at h
    split at h
    · rename_i g hg; exact hT f g hg args σ v σ' h
    · split at h
      · rename_i fn hf
        cases hok : okFn P fn <;> rw [hok] at h <;> simp only [cond_true, cond_false] at h
        · cases h
        · have := sim_of_body hf hok (bodyG_run (K' := fun v2 σ2 => (v2, σ2) = (v, σ')) (pcall_sim hT n) (fun v2 s2 hh => by injection hh) h)
          obtain ⟨r, σ2, h1, h2⟩ := this
          cases h2
          exact h1
      · cases h
end Go.Am
