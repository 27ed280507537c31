/- The abstract machine, part 11: regions, code, calls, at whatever answers (propositions; a run). No program in sight. -/
import Derived.Test.YtfcefiabbdakgaaAm10
import Derived.LoopN
set_option linter.all false
namespace Go.Am
open Go.RowKit

/-! ## frames -/
def aget (a : List Value) (t : Nat) : Value := a.getD t junk
def aev (a : List Value) : Operand → Value
  | .tmp t => aget a t
  | .const v => v
  | .func f => .func (.func f) #[] #[]
  | .global _ => junk
def aput (a : List Value) (dst : Option Nat) (v : Value) : List Value :=
  match dst with
  | some d => a.set d v
  | none => a
/-- Is an operation carried out? -/
def guardA (ops : Array Oper) (a : List Value) (o : Oper) : Option Bool :=
  match o.guard with
  | none => some true
  | some (j, want) =>
    match (ops[j]?).bind (·.dst) with
    | some t => (match aget a t with | .bool b => some (b == want) | .chan (some _) => some false | _ => none)
    | none => none

structure Interp (R : Type) where
  fail : R
  call : FuncId → List Value → Store → (Value → Store → R) → R
  loop : ((List Value → Store → R) → List Value → Store → R) → List Value → Store → R
  check : Option Value → Value → R → R

section
variable {R : Type} (I : Interp R) (P : Program)

def doAct (x : Option Action) (σ : Store) (K : Value → Store → R) : R :=
  match x with
  | none => I.fail
  | some (.val v) => K v σ
  | some (.rd f) => (match f σ.get with | some v => K v σ | none => I.fail)
  | some (.new o mk) => K (mk σ.next) (σ.push o)
  | some (.eff f) => (match f σ with | some (v, σ') => K v σ' | none => I.fail)
  | some (.call f args) => I.call f args σ K

/-- The operations of a region one behind the other. -/
def seqOps (ops : Array Oper) : List Oper → (List Value → Store → R) → List Value → Store → R
  | [], K, a, σ => K a σ
  | o :: rest, K, a, σ =>
    (fun (K1 : Value → Store → R) =>
      match guardA ops a o with
      | some true => doAct I (action P o (aev a)) σ K1
      | some false => K1 gone σ
      | none => I.fail) fun v σ' => seqOps ops rest K (aput a o.dst v) σ'

/-! ### a region that draws its order -/
/-- Does an operation write, or call? -/
def isEff : Op → Bool
  | .store .. | .mapUpdate .. | .mapEntry .. | .entryStore .. => true
  | .convert src dst _ => Nat.beq src dst
  | .call c => (match c.callee with | .builtin b => (match b with | .append | .copy | .clear | .delete => true | _ => false) | _ => true)
  | _ => false
/-- The order in which the machine goes: what a writing operation hangs on, then it; at last the rest. -/
def canonGo (anc : Nat → Nat → Bool) (n : Nat) : List Nat → List Nat → List Nat
  | [], acc => acc ++ (List.range n).filter fun i => !acc.contains i
  | e :: es, acc => canonGo anc n es (acc ++ ((List.range n).filter fun i => !acc.contains i && anc e i) ++ [e])
def effs (ops : Array Oper) : List Nat := (List.range ops.size).filter fun i => isEff (ops.getD i default).op
def canon (ops : Array Oper) (b : Array Nat) : List Nat := canonGo (fun j i => (b.getD j 0).testBit i) ops.size (effs ops) []
/-- How many writing operations stand ahead of an operation; how many may. -/
def lowOf (ops : Array Oper) (b : Array Nat) (i : Nat) : Nat := ((effs ops).filter fun e => (b.getD i 0).testBit e).length
def highOf (ops : Array Oper) (b : Array Nat) (i : Nat) : Nat := ((effs ops).filter fun e => !(b.getD e 0).testBit i).length

def checkAll (f : (Nat → Option SObj) → Option Value) (v : Value) : List Store → R → R
  | [], r => r
  | s :: ss, r => I.check (f s.get) v (checkAll f v ss r)
def recheck (k : Nat) (s : Store) : List (Nat × ((Nat → Option SObj) → Option Value) × Value) → R → R
  | [], r => r
  | (hi, f, v) :: fl, r => bif Nat.ble k hi then I.check (f s.get) v (recheck k s fl r) else recheck k s fl r

/-- past: the stores behind each writing operation, the first one ahead of all; cur: the last one with what is new since. -/
def drawOps (ops : Array Oper) (b : Array Nat) : List Nat → (List Value → Store → R) → List Value → List Store → Store → List (Nat × ((Nat → Option SObj) → Option Value) × Value) → R
  | [], K, a, _, cur, _ => K a cur
  | i :: rest, K, a, past, cur, fl =>
    match ops[i]? with
    | none => I.fail
    | some o =>
      bif isEff o.op then
        (fun (K1 : Value → Store → R) =>
          match guardA ops a o with
          | some true => doAct I (action P o (aev a)) cur K1
          | some false => K1 gone cur
          | none => I.fail) fun v s => recheck I past.length s fl (drawOps ops b rest K (aput a o.dst v) (past ++ [s]) s fl)
      else
        match guardA ops a o with
        | none => I.fail
        | some false => drawOps ops b rest K (aput a o.dst gone) past cur fl
        | some true =>
          match action P o (aev a) with
          | some (.val v) => drawOps ops b rest K (aput a o.dst v) past cur fl
          | some (.new ob mk) => drawOps ops b rest K (aput a o.dst (mk cur.next)) past (cur.push ob) fl
          | some (.rd f) =>
            match f (past.getLastD cur).get with
            | none => I.fail
            | some v =>
              checkAll I f v ((past.drop (lowOf ops b i)).dropLast)
                (drawOps ops b rest K (aput a o.dst v) past cur (bif Nat.blt (highOf ops b i + 1) past.length || Nat.beq (highOf ops b i + 1) past.length then fl else (highOf ops b i, f, v) :: fl))
          | _ => I.fail

/-! ### code -/
inductive Out where
  | normal
  | exit (id : Nat)
  | ret

/-- The slots that code writes. -/
def defsC : Code → List Nat
  | .region _ ops _ => ops.toList.filterMap (·.dst)
  | .seq x y => defsC x ++ defsC y
  | .cond _ x y => defsC x ++ defsC y
  | .block _ c => defsC c
  | .loop c => defsC c
  | .scope c => defsC c
  | _ => []
def setAll (a : List Value) : List Nat → List Value → List Value
  | [], _ => a
  | t :: ts, vs => setAll (a.set t (vs.headD junk)) ts vs.tail
/-- The slots that a loop's round hands on: those that it writes and that were written before. -/
def carried (D : List Nat) (c : Code) : List Nat := ((defsC c).filter fun t => D.contains t).eraseDups
def forget (a : List Value) : List Nat → List Value
  | [] => a
  | t :: ts => forget (a.set t junk) ts

def codeG : Code → List Nat → (Out → List Value → Store → R) → List Value → Store → R
  | .skip, _, K, a, σ => K .normal a σ
  | .label _, _, K, a, σ => K .normal a σ
  | .region _ ops false, _, K, a, σ => seqOps I P ops ops.toList (fun a σ => K .normal a σ) a σ
  | .region _ ops true, _, K, a, σ => (fun b => drawOps I P ops b (canon ops b) (fun a σ => K .normal a σ) a [σ] σ []) (CheckFast.beforeF ops)
  | .seq x y, D, K, a, σ => codeG x D (fun e a σ => match e with | .normal => codeG y (defsC x ++ D) K a σ | e => K e a σ) a σ
  | .cond c x y, D, K, a, σ =>
    match aev a c with
    | .bool true => codeG x D K a σ
    | .bool false => codeG y D K a σ
    | _ => I.fail
  | .block id c, D, K, a, σ => codeG c D (fun e a σ => match e with | .exit j => (bif j == id then K .normal a σ else K (.exit j) a σ) | e => K e a σ) a σ
  | .loop c, D, K, a, σ =>
    (fun L => I.loop (fun next xs σ => codeG c D (fun e a σ => match e with | .normal => next (L.map (aget a)) σ | e => K e a σ) (setAll (forget a (defsC c)) L xs) σ) (L.map (aget a)) σ) (carried D c)
  | .exit id, _, K, a, σ => K (.exit id) a σ
  | .ret, _, K, a, σ => K .ret a σ
  | _, _, _, _, _ => I.fail

def resV (a : List Value) (σ : Store) : ResultVar → Option Value
  | .tmp t => some (aget a t)
  | .cell t ty => (match tAgg P ty, tSize P ty with | some b, some n => loadV b n (aget a t) σ.get | _, _ => none)
def resVs (a : List Value) (σ : Store) : List ResultVar → Option (List Value)
  | [] => some []
  | r :: rs => (match resV P a σ r, resVs a σ rs with | some v, some vs => some (v :: vs) | _, _ => none)
def resOne : List Value → Value
  | [v] => v
  | vs => .tuple vs.toArray
def bodyG (fn : Func) (args : List Value) (σ : Store) (K : Value → Store → R) : R :=
  match fn.body with
  | none => I.fail
  | some c => codeG I P c (List.range args.length) (fun e a σ => match e with
      | .exit _ => I.fail
      | _ => (match resVs P a σ fn.results.toList with | some vs => K (resOne vs) σ | none => I.fail)) (args ++ List.replicate (fn.ntmps - args.length) junk) σ
end

/-! ## what a call of the model does -/
def Sim (P : Program) (f : FuncId) (args : List Value) (σ : Store) (r : Value) (σ' : Store) : Prop :=
  σ.next ≤ σ'.next ∧ ∀ M w cargs, Rel M σ w → VRs M args cargs → Calls P f cargs w fun e w' => ∃ M' v, e = .returned v ∧ VR M' false r v ∧ Rel M' σ' w' ∧ Step σ M w σ' M' w'
/-- A call comes to something that is so. -/
def Does (P : Program) (f : FuncId) (args : List Value) (σ : Store) (Q : Value → Store → Prop) : Prop := ∃ r σ', Sim P f args σ r σ' ∧ Q r σ'
theorem Does.mono {P : Program} {f : FuncId} {args : List Value} {σ : Store} {Q Q' : Value → Store → Prop} (h : Does P f args σ Q) (hq : ∀ r σ', Q r σ' → Q' r σ') : Does P f args σ Q' :=
  let ⟨r, σ', a, b⟩ := h; ⟨r, σ', a, hq r σ' b⟩
def rounds (F : (List Value → Store → Prop) → List Value → Store → Prop) : Nat → List Value → Store → Prop
  | 0, _, _ => False
  | n + 1, xs, σ => F (rounds F n) xs σ
/-- Propositions as answers. -/
def PI (P : Program) : Interp Prop where
  fail := False
  call := Does P
  loop F xs σ := ∃ n, rounds F n xs σ
  check x v r := x = some v ∧ r

/-- A frame of the model shows a frame. -/
structure ActR (ds : List Deferred) (M : Places) (act : List Value) (a : Act) : Prop where
  vals : ∀ (t : Nat) (v : Value), act[t]? = some v → ∃ v', a.tmps[t]? = some v' ∧ VR M false v v'
  none_ : a.defers = ds
variable {ds : List Deferred}
theorem ActR.mono {M N : Places} (hm : M.le N) {act : List Value} {a : Act} (h : ActR ds M act a) : ActR ds N act a :=
  ⟨fun t v hv => by obtain ⟨v', h1, h2⟩ := h.vals t v hv; exact ⟨v', h1, h2.mono hm⟩, h.none_⟩
theorem ActR.get {M : Places} {act : List Value} {a : Act} (h : ActR ds M act a) (t : Nat) : VR M false (aget act t) (a.tmps.getD t undef) := by
  unfold aget
  rw [List.getD_eq_getElem?_getD]
  cases ht : act[t]? with
  | none => exact .junk _
  | some v =>
    obtain ⟨v', h1, h2⟩ := h.vals t v ht
    simp [h1]
    exact h2
theorem ActR.ev {M : Places} {act : List Value} {a : Act} (h : ActR ds M act a) {x : Operand} (hx : okOperand x = true) : VR M false (aev act x) (a.eval x) := by
  cases x with
  | tmp t => exact h.get t
  | const v => exact VR.of_closed hx
  | global g => exact .junk _
  | func f => exact .cell _ _ (.func f _ _ _ _ rfl rfl (fun i v v' hv => by simp at hv) (fun i v v' hv => by simp at hv))
theorem ActR.put {M : Places} {act : List Value} {a : Act} (h : ActR ds M act a) (dst : Option Nat) {v v' : Value} (hv : VR M false v v') : ActR ds M (aput act dst v) (a.put dst v') := by
  cases dst with
  | none => exact h
  | some d =>
    refine ⟨fun t u hu => ?_, h.none_⟩
    simp only [aput, List.getElem?_set] at hu
    simp only [Act.put, Array.getElem?_setIfInBounds]
    by_cases e : d = t
    · subst e
      simp only [if_true] at hu ⊢
      split at hu
      · rename_i hd
        simp only [Option.some.injEq] at hu
        subst hu
        obtain ⟨x, h1, _⟩ := h.vals d act[d] (List.getElem?_eq_getElem hd)
        have := (Array.getElem?_eq_some_iff.1 h1).1
        exact ⟨v', by rw [if_pos this], hv⟩
      · cases hu
    · rw [if_neg e] at hu ⊢
      exact h.vals t u hu
theorem ActR.guard {M : Places} {ops : Array Oper} {act : List Value} {a : Act} (h : ActR ds M act a) {o : Oper} {b : Bool} (hg : guardA ops act o = some b) : Region.wanted o (yielded ops a.tmps) = b := by
  unfold guardA at hg
  unfold Region.wanted
  cases hgo : o.guard with
  | none => rw [hgo] at hg; simpa using hg
  | some jw =>
    obtain ⟨j, want⟩ := jw
    rw [hgo] at hg
    simp only at hg ⊢
    unfold yielded
    cases hd : (ops[j]?).bind (·.dst) with
    | none => rw [hd] at hg; cases hg
    | some t =>
      rw [hd] at hg
      simp only [Option.bind_some] at hg ⊢
      split at hg
      · rename_i x hx
        have hget := h.get t
        rw [hx] at hget
        have hb := hget.bool_
        cases ht : a.tmps[t]? with
        | none => simp [ht, undef] at hb
        | some v =>
          simp [ht] at hb
          subst hb
          simp only [Option.some.injEq] at hg
          subst hg
          cases x <;> cases want <;> rfl
      · rename_i x hx
        have hget := h.get t
        rw [hx] at hget
        simp only [Option.some.injEq] at hg
        subst hg
        have hu := hget.chan_
        cases ht : a.tmps[t]? with
        | none => cases want <;> rfl
        | some v =>
          simp [ht] at hu
          subst hu
          cases want <;> rfl
      · cases hg
end Go.Am
