import Derived.Test.YthojojlgmaoecaaGreatAm10
import Derived.LoopN
section
/- The abstract machine, part 11: regions, code, calls, at whatever answers (propositions; a run). No program in sight. -/
set_option linter.all false
namespace Go.Am
open Go.RowKit

/-! ## frames -/
def aget (a : List Value) (t : Nat) : Value := a.getD t junk
def aev (a : List Value) : Operand → Value
  | .tmp t => aget a t
  | .const v => v
  | .func f => .func (.func f) #[] #[]
  | .global _ => junk
def aput (a : List Value) (dst : Option Nat) (v : Value) : List Value :=
  match dst with
  | some d => a.set d v
  | none => a
/-- Is an operation carried out? -/
def guardA (ops : Array Oper) (a : List Value) (o : Oper) : Option Bool :=
  match o.guard with
  | none => some true
  | some (j, want) =>
    match (ops[j]?).bind (·.dst) with
    | some t => (match aget a t with | .bool b => some (b == want) | .chan (some _) => some false | _ => none)
    | none => none

structure Interp (R : Type) where
  fail : R
  call : FuncId → List Value → Store → (Value → Store → R) → R
  loop : ((List Value → Store → R) → List Value → Store → R) → List Value → Store → R
  check : Option Value → Value → R → R
  all : List (Value × Store) → (Value → Store → R) → R

section
variable {R : Type} (I : Interp R) (P : Program)

def doAct (x : Option Action) (σ : Store) (K : Value → Store → R) : R :=
  match x with
  | none => I.fail
  | some (.val v) => K v σ
  | some (.rd f) => (match f σ.get with | some v => K v σ | none => I.fail)
  | some (.new o mk) => K (mk σ.next) (σ.push o)
  | some (.eff f) => (match f σ with | some (v, σ') => K v σ' | none => I.fail)
  | some (.call f args) => I.call f args σ K
  | some (.pick f) => (match f σ with | some l => I.all l K | none => I.fail)

/-- The operations of a region one behind the other. -/
def seqOps (ops : Array Oper) : List Oper → (List Value → Store → R) → List Value → Store → R
  | [], K, a, σ => K a σ
  | o :: rest, K, a, σ =>
    (fun (K1 : Value → Store → R) =>
      match guardA ops a o with
      | some true => doAct I (action P o (aev a)) σ K1
      | some false => K1 gone σ
      | none => I.fail) fun v σ' => seqOps ops rest K (aput a o.dst v) σ'

/-! ### a region that draws its order -/
/-- Does an operation write, or call? -/
def isEff : Op → Bool
  | .store .. | .mapUpdate .. | .mapEntry .. | .entryStore .. => true
  | .convert src dst _ => Nat.beq src dst
  | .call c => (match c.callee with | .builtin b => (match b with | .append | .copy | .clear | .delete => true | _ => false) | _ => true)
  | _ => false
/-- The order in which the machine goes: what a writing operation hangs on, then it; at last the rest. -/
def canonGo (anc : Nat → Nat → Bool) (n : Nat) : List Nat → List Nat → List Nat
  | [], acc => acc ++ (List.range n).filter fun i => !acc.contains i
  | e :: es, acc => canonGo anc n es (acc ++ ((List.range n).filter fun i => !acc.contains i && anc e i) ++ [e])
def effs (ops : Array Oper) : List Nat := (List.range ops.size).filter fun i => isEff (ops.getD i default).op
def canon (ops : Array Oper) (b : Array Nat) : List Nat := canonGo (fun j i => (b.getD j 0).testBit i) ops.size (effs ops) []
/-- How many writing operations stand ahead of an operation; how many may. -/
def lowOf (ops : Array Oper) (b : Array Nat) (i : Nat) : Nat := ((effs ops).filter fun e => (b.getD i 0).testBit e).length
def highOf (ops : Array Oper) (b : Array Nat) (i : Nat) : Nat := ((effs ops).filter fun e => !(b.getD e 0).testBit i).length

def checkAll (f : (Nat → Option SObj) → Option Value) (v : Value) : List Store → R → R
  | [], r => r
  | s :: ss, r => I.check (f s.get) v (checkAll f v ss r)
def recheck (k : Nat) (s : Store) : List (Nat × ((Nat → Option SObj) → Option Value) × Value) → R → R
  | [], r => r
  | (hi, f, v) :: fl, r => bif Nat.ble k hi then I.check (f s.get) v (recheck k s fl r) else recheck k s fl r

/-- past: the stores behind each writing operation, the first one ahead of all; cur: the last one with what is new since. -/
def drawOps (ops : Array Oper) (b : Array Nat) : List Nat → (List Value → Store → R) → List Value → List Store → Store → List (Nat × ((Nat → Option SObj) → Option Value) × Value) → R
  | [], K, a, _, cur, _ => K a cur
  | i :: rest, K, a, past, cur, fl =>
    match ops[i]? with
    | none => I.fail
    | some o =>
      bif isEff o.op then
        (fun (K1 : Value → Store → R) =>
          match guardA ops a o with
          | some true => doAct I (action P o (aev a)) cur K1
          | some false => K1 gone cur
          | none => I.fail) fun v s => recheck I past.length s fl (drawOps ops b rest K (aput a o.dst v) (past ++ [s]) s fl)
      else
        match guardA ops a o with
        | none => I.fail
        | some false => drawOps ops b rest K (aput a o.dst gone) past cur fl
        | some true =>
          match action P o (aev a) with
          | some (.val v) => drawOps ops b rest K (aput a o.dst v) past cur fl
          | some (.new ob mk) => drawOps ops b rest K (aput a o.dst (mk cur.next)) past (cur.push ob) fl
          | some (.rd f) =>
            match f (past.getLastD cur).get with
            | none => I.fail
            | some v =>
              checkAll I f v ((past.drop (lowOf ops b i)).dropLast)
                (drawOps ops b rest K (aput a o.dst v) past cur (bif Nat.blt (highOf ops b i + 1) past.length || Nat.beq (highOf ops b i + 1) past.length then fl else (highOf ops b i, f, v) :: fl))
          | _ => I.fail

/-! ### code -/
inductive Out where
  | normal
  | exit (id : Nat)
  | ret

/-- The slots that code writes. -/
def defsC : Code → List Nat
  | .region _ ops _ => ops.toList.filterMap (·.dst)
  | .seq x y => defsC x ++ defsC y
  | .cond _ x y => defsC x ++ defsC y
  | .block _ c => defsC c
  | .loop c => defsC c
  | .scope c => defsC c
  | _ => []
def setAll (a : List Value) : List Nat → List Value → List Value
  | [], _ => a
  | t :: ts, vs => setAll (a.set t (vs.headD junk)) ts vs.tail
def forget (a : List Value) : List Nat → List Value
  | [] => a
  | t :: ts => forget (a.set t junk) ts

def resV (a : List Value) (σ : Store) : ResultVar → Option Value
  | .tmp t => some (aget a t)
  | .cell t ty => (match tAgg P ty, tSize P ty with | some b, some n => loadV b n (aget a t) σ.get | _, _ => none)
def resVs (a : List Value) (σ : Store) : List ResultVar → Option (List Value)
  | [] => some []
  | r :: rs => (match resV P a σ r, resVs a σ rs with | some v, some vs => some (v :: vs) | _, _ => none)
def resOne : List Value → Value
  | [v] => v
  | vs => .tuple vs.toArray
end

/-! ## what a call of the model does -/
def Sim (P : Program) (f : FuncId) (args : List Value) (σ : Store) (r : Value) (σ' : Store) : Prop :=
  σ.next ≤ σ'.next ∧ ∀ M w cargs, Rel M σ w → VRs M args cargs → Calls P f cargs w fun e w' => ∃ M' v, e = .returned v ∧ VR M' false r v ∧ Rel M' σ' w' ∧ Step σ M w σ' M' w'
/-- A call comes to something that is so. -/
def Does (P : Program) (f : FuncId) (args : List Value) (σ : Store) (Q : Value → Store → Prop) : Prop := ∃ r σ', Sim P f args σ r σ' ∧ Q r σ'
theorem Does.mono {P : Program} {f : FuncId} {args : List Value} {σ : Store} {Q Q' : Value → Store → Prop} (h : Does P f args σ Q) (hq : ∀ r σ', Q r σ' → Q' r σ') : Does P f args σ Q' :=
  let ⟨r, σ', a, b⟩ := h; ⟨r, σ', a, hq r σ' b⟩
def rounds (F : (List Value → Store → Prop) → List Value → Store → Prop) : Nat → List Value → Store → Prop
  | 0, _, _ => False
  | n + 1, xs, σ => F (rounds F n) xs σ
/-- Propositions as answers. -/
def PI (P : Program) : Interp Prop where
  fail := False
  call := Does P
  loop F xs σ := ∃ n, rounds F n xs σ
  check x v r := x = some v ∧ r
  all l K := ∀ v s, (v, s) ∈ l → K v s

/-- A frame of the model shows a frame. -/
structure ActR (ds : List Deferred) (M : Places) (act : List Value) (a : Act) : Prop where
  vals : ∀ (t : Nat) (v : Value), act[t]? = some v → ∃ v', a.tmps[t]? = some v' ∧ VR M false v v'
  none_ : a.defers = ds
variable {ds : List Deferred}
theorem ActR.mono {M N : Places} (hm : M.le N) {act : List Value} {a : Act} (h : ActR ds M act a) : ActR ds N act a :=
  ⟨fun t v hv => by obtain ⟨v', h1, h2⟩ := h.vals t v hv; exact ⟨v', h1, h2.mono hm⟩, h.none_⟩
theorem ActR.get {M : Places} {act : List Value} {a : Act} (h : ActR ds M act a) (t : Nat) : VR M false (aget act t) (a.tmps.getD t undef) := by
  unfold aget
  rw [List.getD_eq_getElem?_getD]
  cases ht : act[t]? with
  | none => exact .junk _
  | some v =>
    obtain ⟨v', h1, h2⟩ := h.vals t v ht
    simp [h1]
    exact h2
theorem ActR.ev {M : Places} {act : List Value} {a : Act} (h : ActR ds M act a) {x : Operand} (hx : okOperand x = true) : VR M false (aev act x) (a.eval x) := by
  cases x with
  | tmp t => exact h.get t
  | const v => exact VR.of_closed hx
  | global g => exact .junk _
  | func f => exact .cell _ _ (.func f _ _ _ _ rfl rfl (fun i v v' hv => by simp at hv) (fun i v v' hv => by simp at hv))
theorem ActR.put {M : Places} {act : List Value} {a : Act} (h : ActR ds M act a) (dst : Option Nat) {v v' : Value} (hv : VR M false v v') : ActR ds M (aput act dst v) (a.put dst v') := by
  cases dst with
  | none => exact h
  | some d =>
    refine ⟨fun t u hu => ?_, h.none_⟩
    simp only [aput, List.getElem?_set] at hu
    simp only [Act.put, Array.getElem?_setIfInBounds]
    by_cases e : d = t
    · subst e
      simp only [if_true] at hu ⊢
      split at hu
      · rename_i hd
        simp only [Option.some.injEq] at hu
        subst hu
        obtain ⟨x, h1, _⟩ := h.vals d act[d] (List.getElem?_eq_getElem hd)
        have := (Array.getElem?_eq_some_iff.1 h1).1
        exact ⟨v', by rw [if_pos this], hv⟩
      · cases hu
    · rw [if_neg e] at hu ⊢
      exact h.vals t u hu
theorem ActR.guard {M : Places} {ops : Array Oper} {act : List Value} {a : Act} (h : ActR ds M act a) {o : Oper} {b : Bool} (hg : guardA ops act o = some b) : Region.wanted o (yielded ops a.tmps) = b := by
  unfold guardA at hg
  unfold Region.wanted
  cases hgo : o.guard with
  | none => rw [hgo] at hg; simpa using hg
  | some jw =>
    obtain ⟨j, want⟩ := jw
    rw [hgo] at hg
    simp only at hg ⊢
    unfold yielded
    cases hd : (ops[j]?).bind (·.dst) with
    | none => rw [hd] at hg; cases hg
    | some t =>
      rw [hd] at hg
      simp only [Option.bind_some] at hg ⊢
      split at hg
      · rename_i x hx
        have hget := h.get t
        rw [hx] at hget
        have hb := hget.bool_
        cases ht : a.tmps[t]? with
        | none => simp [ht, undef] at hb
        | some v =>
          simp [ht] at hb
          subst hb
          simp only [Option.some.injEq] at hg
          subst hg
          cases x <;> cases want <;> rfl
      · rename_i x hx
        have hget := h.get t
        rw [hx] at hget
        simp only [Option.some.injEq] at hg
        subst hg
        have hu := hget.chan_
        cases ht : a.tmps[t]? with
        | none => cases want <;> rfl
        | some v =>
          simp [ht] at hu
          subst hu
          cases want <;> rfl
      · cases hg
end Go.Am
end
section
/- The abstract machine, part 12: a region in the order of its text is as the model has it. No program in sight. -/
set_option linter.all false
namespace Go.Am
open Go.RowKit
variable {P : Program} {M : Places} {σ : Store} {w : World} {ds : List Deferred}

theorem doAct_sound0 {o : Oper} {act : List Value} {a : Act} {K1 : Value → Store → Prop} {K : Act → World → Prop} {Q : Exit → Act → World → Prop} (hok : okOp P o = true) (hops : ∀ x ∈ o.op.operands.toList, VR M false (aev act x) (a.eval x)) (hr : Rel M σ w) (h : doAct (PI P) (action P o (aev act)) σ K1)
    (hk : ∀ v v' σ' M' w', K1 v σ' → VR M' false v v' → Rel M' σ' w' → Step σ M w σ' M' w' → K (a.put o.dst v') w') : o.wp P a w K Q := by
  cases hA : action P o (aev act) with
  | none => rw [hA] at h; exact h.elim
  | some A =>
    rw [hA] at h
    have hs := op_sound hok hops hA
    unfold Oper.wp
    cases A with
    | val v =>
      obtain ⟨v', h1, h2⟩ := hs
      rw [h2]
      exact hk v v' σ M w h h1 hr (Step.refl _ _ _)
    | rd f =>
      simp only [doAct] at h
      split at h
      · rename_i v hv
        obtain ⟨v', h1, h2⟩ := hs σ w v hr hv
        rw [h2]
        exact hk v v' σ M w h h1 hr (Step.refl _ _ _)
      · exact h.elim
    | new ob mk =>
      obtain ⟨v', l, w', x, h1, h2, h3, h4, h5, h6, h7, h8⟩ := hs.2 w
      obtain ⟨a1, a2⟩ := hr.push hs.1 h2 h3 h4 h6 h7 h8
      rw [h1]
      exact hk (mk σ.next) v' _ _ w' h (h5 _ _ (Places.upd_same _ _ _)) a1 a2
    | eff f =>
      simp only [doAct] at h
      split at h
      · rename_i v σ' hv
        obtain ⟨M', n', w', v', h1, h2, h3, h4, h5⟩ := hs σ w v σ' hr hv
        rw [h1]
        rcases h2 with rfl | ⟨rfl, rfl⟩
        · exact hk v v' σ' M' w' h h3 h4 h5
        · exact hk v undef σ' M' w' h h3 h4 h5
      · exact h.elim
    | pick f =>
      simp only [doAct] at h
      split at h
      · rename_i l hl
        obtain ⟨v, σ', M', w', v', h0, h1, h2, h3, h4⟩ := hs σ w l hr hl
        rw [h1]
        exact hk v v' σ' M' w' (h v σ' h0) h2 h3 h4
      · exact h.elim
    | call f args =>
      obtain ⟨cargs, h1, h2⟩ := hs
      obtain ⟨r, σ', h3, h4⟩ := h
      rw [h2]
      refine Calls.mono (h3.2 M w cargs hr h1) ?_
      rintro e w' ⟨M', v, rfl, h5, h6, h7⟩
      exact hk r v σ' M' w' h4 h5 h6 h7

theorem okOp_operand {o : Oper} (hok : okOp P o = true) {x : Operand} (hx : x ∈ o.op.operands.toList) : okOperand x = true := by
  unfold okOp at hok
  simp only [Bool.and_eq_true, List.all_eq_true] at hok
  exact hok.1 x hx
theorem doAct_sound {o : Oper} {act : List Value} {a : Act} {K1 : Value → Store → Prop} {K : Act → World → Prop} {Q : Exit → Act → World → Prop} (hok : okOp P o = true) (hact : ActR ds M act a) (hr : Rel M σ w) (h : doAct (PI P) (action P o (aev act)) σ K1)
    (hk : ∀ v v' σ' M' w', K1 v σ' → VR M' false v v' → Rel M' σ' w' → Step σ M w σ' M' w' → K (a.put o.dst v') w') : o.wp P a w K Q :=
  doAct_sound0 hok (fun _ hx => hact.ev (okOp_operand hok hx)) hr h hk

theorem seqOps_sound {ops : Array Oper} {Q : Exit → Act → World → Prop} (hok : ∀ o ∈ ops.toList, okOp P o = true) : ∀ (n k : Nat) (K : List Value → Store → Prop) (act : List Value) (σ : Store) (M : Places) (w : World) (a : Act), k + n = ops.size →
    ActR ds M act a → Rel M σ w → seqOps (PI P) P ops (ops.toList.drop k) K act σ →
    (∀ act' σ' M' w' a', K act' σ' → ActR ds M' act' a' → Rel M' σ' w' → Step σ M w σ' M' w' → Q .normal a' w') → wpOps P ops Q (List.range' k n) a w
  | 0, k, K, act, σ, M, w, a, hn, hact, hr, h, hq => by
    rw [List.drop_eq_nil_of_le (by simp; omega)] at h
    exact hq act σ M w a h hact hr (Step.refl _ _ _)
  | n + 1, k, K, act, σ, M, w, a, hn, hact, hr, h, hq => by
    have hk : k < ops.toList.length := by simp; omega
    rw [List.drop_eq_getElem_cons hk] at h
    obtain ⟨o, ho⟩ : ∃ o, o = ops.toList[k] := ⟨_, rfl⟩
    rw [← ho] at h
    have hok' : okOp P o = true := hok o (by rw [ho]; exact List.getElem_mem hk)
    have hget : ops[k]? = some o := by rw [ho]; simp
    rw [List.range'_succ]
    unfold wpOps
    rw [hget]
    simp only
    unfold seqOps at h
    simp only at h
    cases hg : guardA ops act o with
    | none => rw [hg] at h; exact h.elim
    | some b =>
      rw [hg] at h
      have hw := hact.guard hg
      cases b with
      | true =>
        rw [if_pos hw]
        refine .inl (doAct_sound hok' hact hr h fun v v' σ' M' w' h1 h2 h3 h4 => ?_)
        exact seqOps_sound hok n (k + 1) K (aput act o.dst v) σ' M' w' (a.put o.dst v') (by omega) ((hact.mono h4.le).put o.dst h2) h3 h1 fun act' σ2 M2 w2 a2 k1 k2 k3 k4 => hq act' σ2 M2 w2 a2 k1 k2 k3 (h4.trans k4)
      | false =>
        rw [if_neg (by rw [hw]; simp)]
        exact seqOps_sound hok n (k + 1) K (aput act o.dst gone) σ M w (a.put o.dst undef) (by omega) (hact.put o.dst .gone) hr h hq
theorem seq_sound {id : Nat} {ops : Array Oper} {K : List Value → Store → Prop} {Q : Exit → Act → World → Prop} (hok : ∀ o ∈ ops.toList, okOp P o = true) {act : List Value} {a : Act} (hact : ActR ds M act a) (hr : Rel M σ w) (h : seqOps (PI P) P ops ops.toList K act σ)
    (hq : ∀ act' σ' M' w' a', K act' σ' → ActR ds M' act' a' → Rel M' σ' w' → Step σ M w σ' M' w' → Q .normal a' w') : (Code.region id ops false).wp P Q a w := by
  refine wp_region ?_
  rw [List.range_eq_range']
  exact seqOps_sound hok ops.size 0 K act σ M w a (by omega) hact hr (by simpa using h) hq
end Go.Am
end
section
/- The abstract machine, part 13: what a region that draws its order comes to in the machine's order. No program in sight. -/
set_option linter.all false
namespace Go.Am
open Go.RowKit
variable {P : Program} {M : Places} {σ : Store} {w : World}

theorem Store.le_put (σ : Store) (i : Nat) (o : Option SObj) : σ.next ≤ (σ.put i o).next := by
  rw [Store.next_put]; split <;> omega
theorem Store.le_push (σ : Store) (o : SObj) : σ.next ≤ (σ.push o).next := by simp
theorem Store.le_put_push (σ : Store) (i : Nat) (x : Option SObj) (o : SObj) : σ.next ≤ ((σ.put i x).push o).next := by
  have := Store.le_put σ i x
  simp; omega

theorem storeV_mono {n : Nat} {x v u : Value} {σ' : Store} (h : storeV n x v σ = some (u, σ')) : σ.next ≤ σ'.next := by
  unfold storeV at h
  simp only [Bool.cond_eq_ite] at h
  repeat' split at h
  all_goals first
    | (cases h; done)
    | (cases h; first | exact Nat.le_refl _ | exact Store.le_put _ _ _)
theorem mapUpdateV0_mono {t : TypeId} {x k v u : Value} {σ' : Store} (h : mapUpdateV0 P t x k v σ = some (u, σ')) : σ.next ≤ σ'.next := by
  unfold mapUpdateV0 at h
  repeat' split at h
  all_goals first
    | (cases h; done)
    | (cases h; first | exact Nat.le_refl _ | exact Store.le_put _ _ _)
theorem mapUpdateV_mono {t : TypeId} {x k v u : Value} {σ' : Store} (h : mapUpdateV P t x k v σ = some (u, σ')) : σ.next ≤ σ'.next := by
  unfold mapUpdateV at h
  split at h
  · rename_i r h0
    cases h
    exact mapUpdateV0_mono h0
  · unfold mapUpdateD at h
    split at h
    case h_2 => cases h
    rename_i kt et r h0 hu
    split at h
    case h_2 => cases h
    rename_i es ck hg
    cases hd : (deepT P kt && (eqV P kt k k).isSome) <;> rw [hd] at h <;> simp only [cond_true, cond_false] at h
    · cases h
    · split at h
      · cases h; exact Store.le_put _ _ _
      · cases h
theorem mapEntryV_mono {t : TypeId} {x k u : Value} {σ' : Store} (h : mapEntryV P t x k σ = some (u, σ')) : σ.next ≤ σ'.next := by
  unfold mapEntryV at h
  repeat' split at h
  all_goals first
    | (cases h; done)
    | (cases h; first | exact Nat.le_refl _ | exact Store.le_put _ _ _)
theorem entryStoreV_mono {x s v u : Value} {σ' : Store} (h : entryStoreV x s v σ = some (u, σ')) : σ.next ≤ σ'.next := by
  unfold entryStoreV at h
  repeat' split at h
  all_goals first
    | (cases h; done)
    | (cases h; first | exact Nat.le_refl _ | exact Store.le_put _ _ _)
theorem deleteV_mono {t : TypeId} {x k u : Value} {σ' : Store} (h : deleteV P t x k σ = some (u, σ')) : σ.next ≤ σ'.next := by
  unfold deleteV at h
  repeat' split at h
  all_goals first
    | (cases h; done)
    | (cases h; first | exact Nat.le_refl _ | exact Store.le_put _ _ _)
theorem clearV_mono {x u : Value} {σ' : Store} (h : clearV x σ = some (u, σ')) : σ.next ≤ σ'.next := by
  unfold clearV at h
  repeat' split at h
  all_goals first
    | (cases h; done)
    | (cases h; first | exact Nat.le_refl _ | exact Store.le_put _ _ _)
theorem copyV_mono {sz : Nat} {d x u : Value} {σ' : Store} (h : copyV sz d x σ = some (u, σ')) : σ.next ≤ σ'.next := by
  unfold copyV at h
  simp only [Bool.cond_eq_ite] at h
  repeat' split at h
  all_goals first
    | (cases h; done)
    | (cases h; first | exact Nat.le_refl _ | exact Store.le_put _ _ _)
theorem appendV_mono {sz by_ : Nat} {s x u : Value} {σ' : Store} (h : appendV sz by_ s x σ = some (u, σ')) : σ.next ≤ σ'.next := by
  unfold appendV at h
  simp only [Bool.cond_eq_ite] at h
  repeat' split at h
  all_goals first
    | (cases h; done)
    | (cases h; first | exact Nat.le_refl _ | exact Store.le_put _ _ _ | exact Store.le_push _ _ | exact Store.le_put_push _ _ _ _)
theorem handV_mono {x u : Value} {σ' : Store} (h : handV x σ = some (u, σ')) : σ.next ≤ σ'.next := by
  unfold handV at h
  simp only [Bool.cond_eq_ite] at h
  repeat' split at h
  all_goals first
    | (cases h; done)
    | (cases h; exact Store.le_put_push _ _ _ _)
theorem builtinA_mono {b : Builtin} {ts : List TypeId} {args : List Value} {f : Store → Option (Value × Store)} (h : builtinA P b ts args = some (.eff f)) {v : Value} {σ' : Store} (hf : f σ = some (v, σ')) : σ.next ≤ σ'.next := by
  have nov : ∀ x : Option Value, ofVal x ≠ some (.eff f) := fun x => by cases x <;> simp [ofVal]
  unfold builtinA at h
  simp only [Bool.cond_eq_ite] at h
  repeat' split at h
  all_goals first
    | (cases h; done)
    | (exact absurd h (nov _))
    | (cases h; exact appendV_mono hf)
    | (cases h; exact copyV_mono hf)
    | (cases h; exact clearV_mono hf)
    | (cases h; exact deleteV_mono hf)
theorem binA_noeff {op : BinOp} {t : TypeId} {x y : Value} {f : Store → Option (Value × Store)} : binA P op t x y ≠ some (.eff f) := by
  intro h
  have nov : ∀ x : Option Value, ofVal x ≠ some (.eff f) := fun x => by cases x <;> simp [ofVal]
  unfold binA at h
  simp only [Bool.cond_eq_ite] at h
  repeat' split at h
  all_goals first
    | (cases h; done)
    | (exact absurd h (nov _))
    | (cases hq : eqV P t x y <;> rw [hq] at h <;> cases h)
theorem rangeV_mono {t : TypeId} {x u : Value} {σ' : Store} (h : rangeV P t x σ = some (u, σ')) : σ.next ≤ σ'.next := by
  unfold rangeV at h
  repeat' split at h
  all_goals first
    | (cases h; done)
    | (cases h; exact Store.le_push _ _)
theorem builtinA_nopick {b : Builtin} {ts : List TypeId} {args : List Value} {f : Store → Option (List (Value × Store))} (h : builtinA P b ts args = some (.pick f)) : False := by
  have nov : ∀ x : Option Value, ofVal x ≠ some (.pick f) := fun x => by cases x <;> simp [ofVal]
  unfold builtinA at h
  simp only [Bool.cond_eq_ite] at h
  repeat' split at h
  all_goals first
    | (cases h; done)
    | (exact absurd h (nov _))
theorem binA_nopick {op : BinOp} {t : TypeId} {x y : Value} {f : Store → Option (List (Value × Store))} : binA P op t x y ≠ some (.pick f) := by
  intro h
  have nov : ∀ x : Option Value, ofVal x ≠ some (.pick f) := fun x => by cases x <;> simp [ofVal]
  unfold binA at h
  simp only [Bool.cond_eq_ite] at h
  repeat' split at h
  all_goals first
    | (cases h; done)
    | (exact absurd h (nov _))
    | (cases hq : eqV P t x y <;> rw [hq] at h <;> cases h)
def isNext : Op → Bool
  | .next .. => true
  | _ => false
/-- Only an iterator's next one is one of several. -/
theorem pick_next {o : Oper} {e : Operand → Value} {f : Store → Option (List (Value × Store))} (h : action P o e = some (.pick f)) : isNext o.op = true := by
  have nov : ∀ x : Option Value, ofVal x ≠ some (.pick f) := fun x => by cases x <;> simp [ofVal]
  unfold action at h
  simp only [Bool.cond_eq_ite] at h
  split at h
  all_goals first
    | (cases h; done)
    | (exact absurd h (nov _))
    | (exact absurd h binA_nopick)
    | (rename_i hop; simp only [isNext, hop]; done)
    | skip
  all_goals (repeat' split at h)
  all_goals first
    | (cases h; done)
    | (exact absurd h (nov _))
    | (exact (builtinA_nopick h).elim)
theorem eff_nopick {o : Oper} {e : Operand → Value} (he : isEff o.op = true) (f : Store → Option (List (Value × Store))) : action P o e ≠ some (.pick f) := fun h => by
  have := pick_next h
  unfold isNext at this
  split at this
  · rename_i hop; rw [hop] at he; cases he
  · cases this
theorem nextL_mono {x v : Value} {l : List (Value × Store)} {s : Store} (h : nextL x σ = some l) (hm : (v, s) ∈ l) : σ.next ≤ s.next := by
  unfold nextL at h
  simp only [Bool.cond_eq_ite] at h
  repeat' split at h
  all_goals first
    | (cases h; done)
    | (cases h; rw [List.mem_singleton] at hm; cases hm; exact Nat.le_refl _)
    | (cases h
       obtain ⟨e, _, he⟩ := List.mem_map.1 hm
       cases he
       exact Store.le_put _ _ _)
theorem action_pick_mono {o : Oper} {e : Operand → Value} {f : Store → Option (List (Value × Store))} (h : action P o e = some (.pick f)) {l : List (Value × Store)} (hf : f σ = some l) {v : Value} {s : Store} (hm : (v, s) ∈ l) : σ.next ≤ s.next := by
  have hn := pick_next h
  unfold isNext at hn
  split at hn
  · rename_i x b hop
    unfold action at h
    rw [hop] at h
    cases b with
    | true => cases h
    | false => cases h; exact nextL_mono hf hm
  · cases hn
theorem eff_notnext {o : Oper} (he : isEff o.op = true) : isNext o.op = false := by
  cases hop : o.op <;> first | rfl | (rw [hop] at he; cases he)
theorem action_mono {o : Oper} {e : Operand → Value} {f : Store → Option (Value × Store)} (h : action P o e = some (.eff f)) {v : Value} {σ' : Store} (hf : f σ = some (v, σ')) : σ.next ≤ σ'.next := by
  have nov : ∀ x : Option Value, ofVal x ≠ some (.eff f) := fun x => by cases x <;> simp [ofVal]
  unfold action at h
  simp only [Bool.cond_eq_ite] at h
  split at h
  all_goals first
    | (cases h; done)
    | (exact absurd h (nov _))
    | (exact absurd h binA_noeff)
    | (cases h; exact mapUpdateV_mono hf)
    | (cases h; exact mapEntryV_mono hf)
    | (cases h; exact entryStoreV_mono hf)
    | (cases h; exact rangeV_mono hf)
    | (split at h <;> first | (cases h; done) | (cases h; exact storeV_mono hf))
    | skip
  all_goals (repeat' split at h)
  all_goals first
    | (cases h; done)
    | (exact absurd h (nov _))
    | (exact builtinA_mono h hf)
    | (cases h; exact handV_mono hf)

theorem builtinA_own {b : Builtin} {ts : List TypeId} {args : List Value} {ob : SObj} {mk : Nat → Value} (h : builtinA P b ts args = some (.new ob mk)) : ob.own = true := by
  have nov : ∀ x : Option Value, ofVal x ≠ some (.new ob mk) := fun x => by cases x <;> simp [ofVal]
  unfold builtinA at h
  simp only [Bool.cond_eq_ite] at h
  repeat' split at h
  all_goals first
    | (cases h; done)
    | (exact absurd h (nov _))
theorem binA_nonew {op : BinOp} {t : TypeId} {x y : Value} {ob : SObj} {mk : Nat → Value} : binA P op t x y ≠ some (.new ob mk) := by
  intro h
  have nov : ∀ x : Option Value, ofVal x ≠ some (.new ob mk) := fun x => by cases x <;> simp [ofVal]
  unfold binA at h
  simp only [Bool.cond_eq_ite] at h
  repeat' split at h
  all_goals first
    | (cases h; done)
    | (exact absurd h (nov _))
    | (cases hq : eqV P t x y <;> rw [hq] at h <;> cases h)
theorem action_own {o : Oper} {e : Operand → Value} {ob : SObj} {mk : Nat → Value} (h : action P o e = some (.new ob mk)) : ob.own = true := by
  have nov : ∀ x : Option Value, ofVal x ≠ some (.new ob mk) := fun x => by cases x <;> simp [ofVal]
  unfold action at h
  simp only [Bool.cond_eq_ite] at h
  split at h
  all_goals first
    | (cases h; done)
    | (exact absurd h (nov _))
    | (exact absurd h binA_nonew)
    | (cases h; rfl)
    | skip
  all_goals (repeat' split at h)
  all_goals first
    | (cases h; done)
    | (exact absurd h (nov _))
    | (cases h; rfl)
    | (exact builtinA_own h)

/-! ## what one action comes to -/
def Res (P : Program) (x : Option Action) (σ : Store) (v : Value) (σ' : Store) : Prop :=
  match x with
  | none => False
  | some (.val u) => v = u ∧ σ' = σ
  | some (.rd f) => f σ.get = some v ∧ σ' = σ
  | some (.new o mk) => v = mk σ.next ∧ σ' = σ.push o
  | some (.eff f) => f σ = some (v, σ')
  | some (.call f args) => Sim P f args σ v σ'
  | some (.pick _) => False
theorem res_of_doAct {x : Option Action} {K : Value → Store → Prop} (hp : ∀ f, x ≠ some (.pick f)) (h : doAct (PI P) x σ K) : ∃ v σ', Res P x σ v σ' ∧ K v σ' := by
  cases x with
  | none => exact h.elim
  | some x =>
    cases x with
    | val v => exact ⟨v, σ, ⟨rfl, rfl⟩, h⟩
    | rd f =>
      simp only [doAct] at h
      split at h
      · rename_i v hv; exact ⟨v, σ, ⟨hv, rfl⟩, h⟩
      · exact h.elim
    | new o mk => exact ⟨_, _, ⟨rfl, rfl⟩, h⟩
    | eff f =>
      simp only [doAct] at h
      split at h
      · rename_i v σ' hv; exact ⟨v, σ', hv, h⟩
      · exact h.elim
    | call f args => exact h
    | pick f => exact absurd rfl (hp f)
theorem doAct_of_res {x : Option Action} {v : Value} {σ' : Store} (h : Res P x σ v σ') : doAct (PI P) x σ fun v2 σ2 => v2 = v ∧ σ2 = σ' := by
  cases x with
  | none => exact h.elim
  | some x =>
    cases x with
    | val u => obtain ⟨rfl, rfl⟩ := h; exact ⟨rfl, rfl⟩
    | rd f => obtain ⟨h1, rfl⟩ := h; simp only [doAct, h1, and_self]
    | new o mk => obtain ⟨rfl, rfl⟩ := h; exact ⟨rfl, rfl⟩
    | eff f => simp only [Res] at h; simp only [doAct, h, and_self]
    | call f args => exact ⟨v, σ', h, rfl, rfl⟩
    | pick f => exact h.elim
theorem Res.mono {o : Oper} {e : Operand → Value} {v : Value} {σ' : Store} (h : Res P (action P o e) σ v σ') : σ.next ≤ σ'.next := by
  cases hA : action P o e with
  | none => rw [hA] at h; exact h.elim
  | some x =>
    rw [hA] at h
    cases x with
    | val u => rw [h.2]; exact Nat.le_refl _
    | rd f => rw [h.2]; exact Nat.le_refl _
    | new o mk => rw [h.2]; exact Store.le_push _ _
    | eff f => exact action_mono hA h
    | call f args => exact h.1
    | pick f => exact h.elim

/-! ## what the machine's order comes to -/
section
variable (P) (ops : Array Oper) (b : Array Nat) (L : List Nat)
def effAt (i : Nat) : Bool := match ops[i]? with | some o => isEff o.op | none => false
/-- How many of the first ones write. -/
def effCount (p : Nat) : Nat := ((L.take p).filter fun i => effAt ops i).length
/-- One step: A: the values; acts: the frames; C: the stores; S: those behind each writing operation. -/
def StepOk (A : Nat → Value) (acts : Nat → List Value) (C S : Nat → Store) (q : Nat) : Prop :=
  ∃ i o, L[q]? = some i ∧ ops[i]? = some o ∧ acts (q + 1) = aput (acts q) o.dst (A q) ∧
    ((isEff o.op = true ∧ S (effCount ops L q + 1) = C (q + 1) ∧
      ((guardA ops (acts q) o = some false ∧ A q = gone ∧ C (q + 1) = C q) ∨ (guardA ops (acts q) o = some true ∧ Res P (action P o (aev (acts q))) (C q) (A q) (C (q + 1))))) ∨
     (isEff o.op = false ∧
      ((guardA ops (acts q) o = some false ∧ A q = gone ∧ C (q + 1) = C q) ∨
       (guardA ops (acts q) o = some true ∧ ∃ x, action P o (aev (acts q)) = some x ∧
        ((∃ v, x = .val v ∧ A q = v ∧ C (q + 1) = C q) ∨ (∃ ob mk, x = .new ob mk ∧ A q = mk (C q).next ∧ C (q + 1) = (C q).push ob) ∨
         (∃ f, x = .rd f ∧ C (q + 1) = C q ∧ ∀ j, lowOf ops b i ≤ j → j ≤ highOf ops b i → j ≤ effCount ops L L.length → lowOf ops b i ≤ effCount ops L q → f (S j).get = some (A q)))))))
end
theorem effCount_succ {ops : Array Oper} {L : List Nat} {p i : Nat} (h : L[p]? = some i) : effCount ops L (p + 1) = effCount ops L p + if effAt ops i then 1 else 0 := by
  unfold effCount
  rw [List.take_add_one, h]
  simp only [Option.toList_some, List.filter_append, List.length_append]
  congr 1
  cases he : effAt ops i <;> simp [he]
theorem effCount_mono {ops : Array Oper} {L : List Nat} {p q : Nat} (h : p ≤ q) : effCount ops L p ≤ effCount ops L q := by
  unfold effCount
  have : (L.take p) = (L.take q).take p := by rw [List.take_take, Nat.min_eq_left h]
  rw [this]
  exact ((List.take_sublist p (L.take q)).filter _).length_le
theorem recheck_spec {k : Nat} {s : Store} : ∀ {fl : List (Nat × ((Nat → Option SObj) → Option Value) × Value)} {r : Prop}, recheck (PI P) k s fl r → r ∧ ∀ x ∈ fl, k ≤ x.1 → x.2.1 s.get = some x.2.2
  | [], r, h => ⟨h, fun x hx => by simp at hx⟩
  | (hi, f, v) :: fl, r, h => by
    unfold recheck at h
    cases hb : Nat.ble k hi <;> rw [hb] at h <;> simp only [cond_true, cond_false] at h
    · obtain ⟨h1, h2⟩ := recheck_spec h
      refine ⟨h1, fun x hx hk => ?_⟩
      rcases List.mem_cons.1 hx with rfl | hx
      · rw [Nat.ble_eq_true_of_le hk] at hb; cases hb
      · exact h2 x hx hk
    · obtain ⟨h0, h⟩ := h
      obtain ⟨h1, h2⟩ := recheck_spec h
      refine ⟨h1, fun x hx hk => ?_⟩
      rcases List.mem_cons.1 hx with rfl | hx
      · exact h0
      · exact h2 x hx hk
theorem checkAll_spec {f : (Nat → Option SObj) → Option Value} {v : Value} : ∀ {ss : List Store} {r : Prop}, checkAll (PI P) f v ss r → r ∧ ∀ s ∈ ss, f s.get = some v
  | [], r, h => ⟨h, fun s hs => by simp at hs⟩
  | s :: ss, r, h => by
    obtain ⟨h0, h⟩ := h
    obtain ⟨h1, h2⟩ := checkAll_spec h
    exact ⟨h1, fun x hx => by
      rcases List.mem_cons.1 hx with rfl | hx
      · exact h0
      · exact h2 x hx⟩

theorem extract {ops : Array Oper} {b : Array Nat} {L : List Nat} {K : List Value → Store → Prop} : ∀ (rest done : List Nat) (act : List Value) (past : List Store) (cur : Store) (fl : List (Nat × ((Nat → Option SObj) → Option Value) × Value)),
    L = done ++ rest → past.length = effCount ops L done.length + 1 → drawOps (PI P) P ops b rest K act past cur fl →
    ∃ (A : Nat → Value) (acts : Nat → List Value) (C S : Nat → Store), acts done.length = act ∧ C done.length = cur ∧ (∀ (j : Nat) (s : Store), past[j]? = some s → S j = s) ∧ K (acts L.length) (C L.length) ∧
      (∀ q, done.length ≤ q → q < L.length → StepOk P ops b L A acts C S q) ∧ (∀ x ∈ fl, ∀ j, effCount ops L done.length < j → j ≤ x.1 → j ≤ effCount ops L L.length → x.2.1 (S j).get = some x.2.2)
  | [], done, act, past, cur, fl, hL, hp, h => by
    simp only [List.append_nil] at hL
    subst hL
    exact ⟨fun _ => junk, fun _ => act, fun _ => cur, fun j => past.getD j cur, rfl, rfl, fun j s hs => by simp [hs], h, fun q h1 h2 => by omega, fun x _ j h1 _ h3 => by omega⟩
  | i :: rest, done, act, past, cur, fl, hL, hp, h => by
    have hLi : L[done.length]? = some i := by rw [hL]; simp
    have hlen : done.length < L.length := (List.getElem?_eq_some_iff.1 hLi).1
    unfold drawOps at h
    cases ho : ops[i]? with
    | none => rw [ho] at h; exact h.elim
    | some o =>
      rw [ho] at h
      simp only at h
      have heff : effAt ops i = isEff o.op := by simp [effAt, ho]
      have hL2 : L = (done ++ [i]) ++ rest := by rw [hL]; simp
      have hd2 : (done ++ [i]).length = done.length + 1 := by simp
      have hcount := effCount_succ (ops := ops) hLi
      rw [heff] at hcount
      -- put a step ahead
      have build : ∀ (v : Value) (past' : List Store) (cur' : Store) (fl' : List (Nat × ((Nat → Option SObj) → Option Value) × Value)), (∀ (j : Nat) (s : Store), past[j]? = some s → past'[j]? = some s) →
          (∃ (A : Nat → Value) (acts : Nat → List Value) (C S : Nat → Store), acts (done.length + 1) = aput act o.dst v ∧ C (done.length + 1) = cur' ∧ (∀ (j : Nat) (s : Store), past'[j]? = some s → S j = s) ∧ K (acts L.length) (C L.length) ∧
            (∀ q, done.length + 1 ≤ q → q < L.length → StepOk P ops b L A acts C S q) ∧ (∀ x ∈ fl', ∀ j, effCount ops L (done.length + 1) < j → j ≤ x.1 → j ≤ effCount ops L L.length → x.2.1 (S j).get = some x.2.2) ∧
            (∀ x ∈ fl, ∀ j, effCount ops L done.length < j → j ≤ x.1 → j ≤ effCount ops L L.length → x.2.1 (S j).get = some x.2.2) ∧
            ∀ (A' : Nat → Value) (acts' : Nat → List Value) (C' : Nat → Store), acts' done.length = act → acts' (done.length + 1) = aput act o.dst v → C' done.length = cur → C' (done.length + 1) = cur' → A' done.length = v → StepOk P ops b L A' acts' C' S done.length) →
          ∃ (A : Nat → Value) (acts : Nat → List Value) (C S : Nat → Store), acts done.length = act ∧ C done.length = cur ∧ (∀ (j : Nat) (s : Store), past[j]? = some s → S j = s) ∧ K (acts L.length) (C L.length) ∧
            (∀ q, done.length ≤ q → q < L.length → StepOk P ops b L A acts C S q) ∧ (∀ x ∈ fl, ∀ j, effCount ops L done.length < j → j ≤ x.1 → j ≤ effCount ops L L.length → x.2.1 (S j).get = some x.2.2) := by
        intro v past' cur' fl' hpp ⟨A, acts, C, S, h1, h2, h3, h4, h5, h6, h7, h8⟩
        refine ⟨fun q => if q = done.length then v else A q, fun q => if q = done.length then act else acts q, fun q => if q = done.length then cur else C q, S, by simp, by simp, fun j s hs => h3 j s (hpp j s hs), ?_, fun q hq1 hq2 => ?_, h7⟩
        · simp only [Nat.ne_of_gt hlen, if_false]
          exact h4
        · by_cases e : q = done.length
          · subst e
            exact h8 _ _ _ (by simp) (by simp [h1]) (by simp) (by simp [h2]) (by simp)
          · obtain ⟨i2, o2, g1, g2, g3, g4⟩ := h5 q (by omega) hq2
            have e2 : q + 1 ≠ done.length := by omega
            refine ⟨i2, o2, g1, g2, ?_, ?_⟩
            · simp only [e, e2, if_false]; exact g3
            · simp only [e, e2, if_false]; exact g4
      cases he : isEff o.op with
      | true =>
        rw [he] at h
        simp only [cond_true] at h
        rw [he] at hcount
        simp only [if_true] at hcount
        have main : ∀ v s, ((guardA ops act o = some false ∧ v = gone ∧ s = cur) ∨ (guardA ops act o = some true ∧ Res P (action P o (aev act)) cur v s)) →
            recheck (PI P) past.length s fl (drawOps (PI P) P ops b rest K (aput act o.dst v) (past ++ [s]) s fl) →
            ∃ (A : Nat → Value) (acts : Nat → List Value) (C S : Nat → Store), acts done.length = act ∧ C done.length = cur ∧ (∀ (j : Nat) (s : Store), past[j]? = some s → S j = s) ∧ K (acts L.length) (C L.length) ∧
            (∀ q, done.length ≤ q → q < L.length → StepOk P ops b L A acts C S q) ∧ (∀ x ∈ fl, ∀ j, effCount ops L done.length < j → j ≤ x.1 → j ≤ effCount ops L L.length → x.2.1 (S j).get = some x.2.2) := by
          intro v s hcase hre
          obtain ⟨hd, hfl⟩ := recheck_spec hre
          obtain ⟨A, acts, C, S, h1, h2, h3, h4, h5, h6⟩ := extract rest (done ++ [i]) (aput act o.dst v) (past ++ [s]) s fl hL2 (by rw [hd2, hcount]; simp [hp]) hd
          rw [hd2] at h1 h2 h5 h6
          have hS : S (effCount ops L done.length + 1) = s := h3 _ s (by rw [← hp]; simp)
          refine build v (past ++ [s]) s fl (fun j s' hs => by rw [List.getElem?_append_left (List.getElem?_eq_some_iff.1 hs).1]; exact hs) ⟨A, acts, C, S, h1, h2, h3, h4, h5, h6, ?_, ?_⟩
          · intro x hx j hj1 hj2 hj3
            by_cases e : j = effCount ops L done.length + 1
            · subst e
              rw [hS]
              exact hfl x hx (by rw [hp]; exact hj2)
            · exact h6 x hx j (by rw [hcount]; omega) hj2 hj3
          · intro A' acts' C' k1 k2 k3 k4 k5
            refine ⟨i, o, hLi, ho, by rw [k1, k2, k5], .inl ⟨he, by rw [hS, k4], ?_⟩⟩
            rw [k1, k3, k4, k5]
            exact hcase
        cases hg : guardA ops act o with
        | none => rw [hg] at h; exact h.elim
        | some bb =>
          rw [hg] at h
          cases bb with
          | false => exact main gone cur (.inl ⟨hg, rfl, rfl⟩) h
          | true =>
            obtain ⟨v, s, hres, hre⟩ := res_of_doAct (eff_nopick he) h
            exact main v s (.inr ⟨hg, hres⟩) hre
      | false =>
        rw [he] at h
        simp only [cond_false] at h
        rw [he] at hcount
        simp only [Bool.false_eq_true, if_false, Nat.add_zero] at hcount
        have main : ∀ v cur' fl', (∀ x ∈ fl, x ∈ fl') → drawOps (PI P) P ops b rest K (aput act o.dst v) past cur' fl' →
            (∀ (S : Nat → Store), (∀ (j : Nat) (s : Store), past[j]? = some s → S j = s) → (∀ x ∈ fl', ∀ j, effCount ops L done.length < j → j ≤ x.1 → j ≤ effCount ops L L.length → x.2.1 (S j).get = some x.2.2) →
              ∀ (A' : Nat → Value) (acts' : Nat → List Value) (C' : Nat → Store), acts' done.length = act → acts' (done.length + 1) = aput act o.dst v → C' done.length = cur → C' (done.length + 1) = cur' → A' done.length = v → StepOk P ops b L A' acts' C' S done.length) →
            ∃ (A : Nat → Value) (acts : Nat → List Value) (C S : Nat → Store), acts done.length = act ∧ C done.length = cur ∧ (∀ (j : Nat) (s : Store), past[j]? = some s → S j = s) ∧ K (acts L.length) (C L.length) ∧
            (∀ q, done.length ≤ q → q < L.length → StepOk P ops b L A acts C S q) ∧ (∀ x ∈ fl, ∀ j, effCount ops L done.length < j → j ≤ x.1 → j ≤ effCount ops L L.length → x.2.1 (S j).get = some x.2.2) := by
          intro v cur' fl' hsub hd hstep
          obtain ⟨A, acts, C, S, h1, h2, h3, h4, h5, h6⟩ := extract rest (done ++ [i]) (aput act o.dst v) past cur' fl' hL2 (by rw [hd2, hcount]; exact hp) hd
          rw [hd2] at h1 h2 h5 h6
          rw [hcount] at h6
          exact build v past cur' fl' (fun j s' hs => hs) ⟨A, acts, C, S, h1, h2, h3, h4, h5, by rw [hcount]; exact h6, fun x hx => h6 x (hsub x hx), hstep S h3 h6⟩
        cases hg : guardA ops act o with
        | none => rw [hg] at h; exact h.elim
        | some bb =>
          rw [hg] at h
          cases bb with
          | false =>
            refine main gone cur fl (fun _ hx => hx) h fun S _ _ A' acts' C' k1 k2 k3 k4 k5 => ⟨i, o, hLi, ho, by rw [k1, k2, k5], .inr ⟨he, .inl ?_⟩⟩
            rw [k1, k3, k4, k5]
            exact ⟨hg, rfl, rfl⟩
          | true =>
            simp only at h
            cases hA : action P o (aev act) with
            | none => rw [hA] at h; exact h.elim
            | some x =>
              rw [hA] at h
              cases x with
              | val v =>
                refine main v cur fl (fun _ hx => hx) h fun S _ _ A' acts' C' k1 k2 k3 k4 k5 => ⟨i, o, hLi, ho, by rw [k1, k2, k5], .inr ⟨he, .inr ?_⟩⟩
                rw [k1, k3, k4, k5]
                exact ⟨hg, _, hA, .inl ⟨v, rfl, rfl, rfl⟩⟩
              | new ob mk =>
                refine main (mk cur.next) (cur.push ob) fl (fun _ hx => hx) h fun S _ _ A' acts' C' k1 k2 k3 k4 k5 => ⟨i, o, hLi, ho, by rw [k1, k2, k5], .inr ⟨he, .inr ?_⟩⟩
                rw [k1, k3, k4, k5]
                exact ⟨hg, _, hA, .inr (.inl ⟨ob, mk, rfl, rfl, rfl⟩)⟩
              | rd f =>
                simp only at h
                cases hf : f (past.getLastD cur).get with
                | none => rw [hf] at h; exact h.elim
                | some v =>
                  rw [hf] at h
                  obtain ⟨hd, hck⟩ := checkAll_spec h
                  have hlast : ∀ S : Nat → Store, (∀ (j : Nat) (s : Store), past[j]? = some s → S j = s) → S (effCount ops L done.length) = past.getLastD cur := fun S hS => by
                    refine hS _ _ ?_
                    rw [List.getLastD_eq_getLast?, List.getLast?_eq_getElem?, hp]
                    have : effCount ops L done.length < past.length := by omega
                    simp [List.getElem?_eq_getElem this]
                  refine main v cur _ ?_ hd fun S hS hflS A' acts' C' k1 k2 k3 k4 k5 => ⟨i, o, hLi, ho, by rw [k1, k2, k5], .inr ⟨he, .inr ?_⟩⟩
                  · intro x hx
                    cases (Nat.blt (highOf ops b i + 1) past.length || Nat.beq (highOf ops b i + 1) past.length)
                    · exact List.mem_cons_of_mem _ hx
                    · exact hx
                  · rw [k1, k3, k4, k5]
                    refine ⟨hg, _, hA, .inr (.inr ⟨f, rfl, rfl, fun j hj1 hj2 hj3 hj4 => ?_⟩)⟩
                    rcases Nat.lt_trichotomy j (effCount ops L done.length) with hlt | heq | hgt
                    · have hjl : j < past.length := by omega
                      have hSj := hS j past[j] (List.getElem?_eq_getElem hjl)
                      rw [hSj]
                      refine hck _ ?_
                      rw [List.mem_iff_getElem?]
                      refine ⟨j - lowOf ops b i, ?_⟩
                      rw [List.getElem?_dropLast, if_pos (by rw [List.length_drop, hp]; omega), List.getElem?_drop, show lowOf ops b i + (j - lowOf ops b i) = j from by omega]
                      exact List.getElem?_eq_getElem hjl
                    · subst heq
                      rw [hlast S hS]
                      exact hf
                    · have hbb : (Nat.blt (highOf ops b i + 1) past.length || Nat.beq (highOf ops b i + 1) past.length) = false := by
                        rw [hp]
                        simp only [Bool.or_eq_false_iff]
                        constructor
                        · cases hq : Nat.blt (highOf ops b i + 1) (effCount ops L done.length + 1) with
                          | false => rfl
                          | true =>
                            have h9 : highOf ops b i + 1 + 1 ≤ effCount ops L done.length + 1 := Nat.le_of_ble_eq_true hq
                            omega
                        · cases hq : Nat.beq (highOf ops b i + 1) (effCount ops L done.length + 1) with
                          | false => rfl
                          | true => have := Nat.eq_of_beq_eq_true hq; omega
                      rw [hbb] at hflS
                      exact hflS (highOf ops b i, f, v) List.mem_cons_self j hgt hj2 hj3
              | eff f => exact h.elim
              | call f args => exact h.elim
              | pick f => exact h.elim
end Go.Am
end
section
/- The abstract machine, part 14: a region that draws its order, in whatever order, comes to what the machine's order comes to. No program in sight. -/
set_option linter.all false
namespace Go.Am
open Go.RowKit

/-! ## edges -/
inductive Anc (ops : Array Oper) : Nat → Nat → Prop
  | edge {j : Nat} {o : Oper} {e : Edge} (hj : ops[j]? = some o) (he : e ∈ o.after) (hb : Region.binds .any e = true) : Anc ops e.on j
  | far {i j : Nat} {o : Oper} {e : Edge} (hj : ops[j]? = some o) (he : e ∈ o.after) (hb : Region.binds .any e = true) (ha : Anc ops i e.on) : Anc ops i j
def Closed (ops : Array Oper) (listed : Array Bool) : Prop := ∀ k o, listed.getD k false = true → ops[k]? = some o → ∀ e ∈ o.after, Region.binds .any e = true → listed.getD e.on false = true
theorem Anc.of_listed {ops : Array Oper} {listed : Array Bool} (hc : Closed ops listed) {i j : Nat} (h : Anc ops i j) : listed.getD j false = true → listed.getD i false = true := by
  induction h with
  | edge hj he hb => exact fun hl => hc _ _ hl hj _ he hb
  | far hj he hb _ ih => exact fun hl => ih (hc _ _ hl hj _ he hb)
theorem Anc.of_ready {ops : Array Oper} {listed : Array Bool} (hc : Closed ops listed) {i j : Nat} {oj : Oper} (h : Anc ops i j) (hoj : ops[j]? = some oj) (hall : ∀ e ∈ oj.after, Region.binds .any e = true → listed.getD e.on false = true) : listed.getD i false = true := by
  cases h with
  | edge hj he hb => rw [hoj] at hj; cases hj; exact hall _ he hb
  | far hj he hb ha => rw [hoj] at hj; cases hj; exact ha.of_listed hc (hall _ he hb)
theorem before_anc {ops : Array Oper} (j i : Nat) (h : ((Region.before ops).getD j 0).testBit i = true) : Anc ops i j := by
  have gen : ∀ (l : List Oper) (A : Array Nat), (∀ k, l[k]? = ops[A.size + k]?) → (∀ j i, (A.getD j 0).testBit i = true → Anc ops i j) →
      ∀ j i, ((l.foldl (fun acc o => acc.push (o.after.foldl (fun s e => if Region.binds .any e then s ||| 2 ^ e.on ||| acc.getD e.on 0 else s) 0)) A).getD j 0).testBit i = true → Anc ops i j := by
    intro l
    induction l with
    | nil => intro A _ hA j i hh; exact hA j i hh
    | cons o l ih =>
      intro A hl hA j i hh
      rw [List.foldl_cons] at hh
      have h0 : ops[A.size]? = some o := by simpa using (hl 0).symm
      refine ih _ (fun k => ?_) (fun j i hb => ?_) j i hh
      · have := hl (k + 1)
        simp only [List.getElem?_cons_succ] at this
        rw [this, Array.size_push]
        congr 1
        omega
      · by_cases hj : j = A.size
        · subst hj
          simp only [Array.getD_eq_getD_getElem?, Array.getElem?_push_size, Option.getD_some] at hb
          have fold : ∀ (es : List Edge) (s : Nat), (∀ e ∈ es, e ∈ o.after) → (∀ i, s.testBit i = true → Anc ops i A.size) →
              ∀ i, (es.foldl (fun s e => if Region.binds .any e then s ||| 2 ^ e.on ||| A.getD e.on 0 else s) s).testBit i = true → Anc ops i A.size := by
            intro es
            induction es with
            | nil => intro s _ hs i hi; exact hs i hi
            | cons e es ihe =>
              intro s hes hs i hi
              rw [List.foldl_cons] at hi
              refine ihe _ (fun e' he' => hes e' (List.mem_cons_of_mem _ he')) (fun i hi => ?_) i hi
              split at hi
              · rename_i hbind
                simp only [Nat.testBit_or, Bool.or_eq_true, Nat.testBit_two_pow, decide_eq_true_eq] at hi
                rcases hi with (hi | hi) | hi
                · exact hs i hi
                · subst hi; exact .edge h0 (hes e List.mem_cons_self) hbind
                · exact .far h0 (hes e List.mem_cons_self) hbind (hA _ _ hi)
              · exact hs i hi
          rw [← Array.foldl_toList] at hb
          exact fold o.after.toList 0 (fun e he => by simpa using he) (fun i hi => by simp at hi) i (by simpa [Array.getD_eq_getD_getElem?] using hb)
        · refine hA j i ?_
          rcases Nat.lt_or_ge j A.size with hlt | hge
          · simpa [Array.getElem?_push, Nat.ne_of_lt hlt] using hb
          · have : A.size < j := Nat.lt_of_le_of_ne hge (Ne.symm hj)
            simp [Array.getElem?_push, hj, Array.getElem?_eq_none hge] at hb
  have h1 : Region.before ops = ops.toList.foldl (fun acc o => acc.push (o.after.foldl (fun s e => if Region.binds .any e then s ||| 2 ^ e.on ||| acc.getD e.on 0 else s) 0)) #[] := by
    unfold Region.before
    rw [← Array.foldl_toList]
  rw [h1] at h
  exact gen ops.toList #[] (by simp) (by simp) j i h

/-! ## what is asked of a region's text -/
def topoB (ops : Array Oper) (b : Array Nat) : List Nat → List Nat → Bool
  | _, [] => true
  | done, i :: rest =>
    (match ops[i]? with
    | some o => o.after.toList.all (fun e => !Region.binds .any e || done.contains e.on) && (!isEff o.op || done.all fun j => (b.getD i 0).testBit j) && !done.contains i
    | none => false) && topoB ops b (i :: done) rest
def apartB (ops : Array Oper) (b : Array Nat) : List (Oper × Nat) → List (Oper × Nat) → Bool
  | [], _ => true
  | (oj, j) :: rest, done => (done.all fun (oi, i) => (b.getD j 0).testBit i || oi.apart ops oj) && apartB ops b rest ((oj, j) :: done)
def okDraw (P : Program) (ops : Array Oper) : Bool :=
  P.follows .mixedOrders && ops.toList.all (okOp P) && apartB ops (CheckFast.beforeF ops) ops.toList.zipIdx [] &&
  topoB ops (CheckFast.beforeF ops) [] (canon ops (CheckFast.beforeF ops)) && (List.range ops.size).all fun i => (canon ops (CheckFast.beforeF ops)).contains i

structure Good (ops : Array Oper) (b : Array Nat) (L : List Nat) : Prop where
  bound : ∀ (q i : Nat), L[q]? = some i → i < ops.size
  all : ∀ i, i < ops.size → ∃ q : Nat, L[q]? = some i
  nodup : ∀ (q q' : Nat) (i : Nat), L[q]? = some i → L[q']? = some i → q = q'
  topo : ∀ (q i : Nat) (o : Oper), L[q]? = some i → ops[i]? = some o → ∀ e ∈ o.after, Region.binds .any e = true → ∃ q', q' < q ∧ L[q']? = some e.on
  pre : ∀ (q i : Nat) (o : Oper), L[q]? = some i → ops[i]? = some o → isEff o.op = true → ∀ q' j, q' < q → L[q']? = some j → (b.getD i 0).testBit j = true
  apart : ∀ (i j : Nat) (oi oj : Oper), i < j → ops[i]? = some oi → ops[j]? = some oj → (b.getD j 0).testBit i = true ∨ oi.apart ops oj = true
  anc : ∀ j i, (b.getD j 0).testBit i = true → Anc ops i j

theorem topoB_spec {ops : Array Oper} {b : Array Nat} : ∀ (rest done : List Nat) (L : List Nat), L = done.reverse ++ rest → topoB ops b done rest = true →
    ∀ (q i : Nat), done.length ≤ q → L[q]? = some i → ∃ o, ops[i]? = some o ∧ (∀ e ∈ o.after, Region.binds .any e = true → ∃ q', q' < q ∧ L[q']? = some e.on) ∧ (isEff o.op = true → ∀ q' j, q' < q → L[q']? = some j → (b.getD i 0).testBit j = true) ∧ ∀ q', q' < q → L[q']? ≠ some i
  | [], done, L, hL, _, q, i, hq, hi => by
    have : L.length = done.length := by rw [hL]; simp
    have := (List.getElem?_eq_some_iff.1 hi).1
    omega
  | x :: rest, done, L, hL, h, q, i, hq, hi => by
    simp only [topoB, Bool.and_eq_true] at h
    have hmem : ∀ j, j ∈ done → ∃ q', q' < done.length ∧ L[q']? = some j := fun j hj => by
      have : j ∈ done.reverse := by simpa using hj
      obtain ⟨q', hq', e⟩ := List.getElem_of_mem this
      refine ⟨q', by simpa using hq', ?_⟩
      rw [hL, List.getElem?_append_left hq', ← e]
      exact List.getElem?_eq_getElem hq'
    have hmem' : ∀ q' j, q' < done.length → L[q']? = some j → j ∈ done := fun q' j hq' hj => by
      rw [hL, List.getElem?_append_left (by simpa using hq')] at hj
      have := List.mem_of_getElem? hj
      simpa using this
    rcases Nat.lt_or_ge done.length q with hlt | hge
    · exact topoB_spec rest (x :: done) L (by rw [hL]; simp) h.2 q i (by simp; omega) hi
    · have hqe : q = done.length := by omega
      subst hqe
      have hx : i = x := by
        rw [hL, List.getElem?_append_right (by simp)] at hi
        simpa using hi.symm
      subst hx
      have h1 := h.1
      split at h1
      · rename_i o ho
        simp only [Bool.and_eq_true, List.all_eq_true, Bool.or_eq_true, Bool.not_eq_true'] at h1
        obtain ⟨⟨h2, h3⟩, h4⟩ := h1
        refine ⟨o, ho, fun e he hb => ?_, fun he q' j hq' hj => ?_, fun q' hq' hj => ?_⟩
        · rcases h2 e (by simpa using he) with h5 | h5
          · rw [hb] at h5; cases h5
          · exact hmem _ (by simpa using h5)
        · rcases h3 with h5 | h5
          · rw [he] at h5; cases h5
          · exact h5 j (hmem' q' j hq' hj)
        · have := hmem' q' i hq' hj
          simp only [List.contains_eq_mem, decide_eq_false_iff_not] at h4
          exact h4 this
      · cases h1
theorem apartB_spec {ops : Array Oper} {b : Array Nat} : ∀ (l done : List (Oper × Nat)), apartB ops b l done = true →
    (∀ x ∈ done, ∀ y ∈ l, (b.getD y.2 0).testBit x.2 = true ∨ x.1.apart ops y.1 = true) ∧ l.Pairwise fun x y => (b.getD y.2 0).testBit x.2 = true ∨ x.1.apart ops y.1 = true
  | [], done, _ => ⟨fun x _ y hy => by simp at hy, List.Pairwise.nil⟩
  | (oj, j) :: rest, done, h => by
    simp only [apartB, Bool.and_eq_true, List.all_eq_true, Bool.or_eq_true] at h
    obtain ⟨h1, h2⟩ := h
    obtain ⟨h3, h4⟩ := apartB_spec rest ((oj, j) :: done) h2
    refine ⟨fun x hx y hy => ?_, List.Pairwise.cons (fun y hy => h3 (oj, j) List.mem_cons_self y hy) h4⟩
    rcases List.mem_cons.1 hy with rfl | hy
    · exact h1 x hx
    · exact h3 x (List.mem_cons_of_mem _ hx) y hy
theorem good_of_ok {P : Program} {ops : Array Oper} (h : okDraw P ops = true) : P.follows .mixedOrders = true ∧ (∀ o ∈ ops.toList, okOp P o = true) ∧ Good ops (CheckFast.beforeF ops) (canon ops (CheckFast.beforeF ops)) := by
  simp only [okDraw, Bool.and_eq_true, List.all_eq_true] at h
  obtain ⟨⟨⟨⟨h1, h2⟩, h3⟩, h4⟩, h5⟩ := h
  have ht := topoB_spec (canon ops (CheckFast.beforeF ops)) [] (canon ops (CheckFast.beforeF ops)) (by simp) h4
  refine ⟨h1, h2, ⟨fun q i hq => ?_, fun i hi => ?_, fun q q' i hq hq' => ?_, fun q i o hq ho e he hb => ?_, fun q i o hq ho he q' j hq' hj => ?_, fun i j oi oj hij hi hj => ?_, fun j i hb => ?_⟩⟩
  · obtain ⟨o, h6, _⟩ := ht q i (by simp) hq
    exact (Array.getElem?_eq_some_iff.1 h6).1
  · have := h5 i (List.mem_range.2 hi)
    simp only [List.contains_eq_mem, decide_eq_true_eq] at this
    obtain ⟨q, hq, e⟩ := List.getElem_of_mem this
    exact ⟨q, by rw [← e]; exact List.getElem?_eq_getElem hq⟩
  · rcases Nat.lt_trichotomy q q' with h6 | h6 | h6
    · obtain ⟨o, _, _, _, h7⟩ := ht q' i (by simp) hq'
      exact absurd hq (h7 q h6)
    · exact h6
    · obtain ⟨o, _, _, _, h7⟩ := ht q i (by simp) hq
      exact absurd hq' (h7 q' h6)
  · obtain ⟨o', h6, h7, _, _⟩ := ht q i (by simp) hq
    rw [ho] at h6; cases h6
    exact h7 e he hb
  · obtain ⟨o', h6, _, h7, _⟩ := ht q i (by simp) hq
    rw [ho] at h6; cases h6
    exact h7 he q' j hq' hj
  · have hp := (apartB_spec _ _ h3).2
    rw [List.pairwise_iff_getElem] at hp
    have hsz : ops.toList.zipIdx.length = ops.size := by simp
    have hi' := (Array.getElem?_eq_some_iff.1 hi)
    have hj' := (Array.getElem?_eq_some_iff.1 hj)
    obtain ⟨hi1, hi2⟩ := hi'
    obtain ⟨hj1, hj2⟩ := hj'
    have := hp i j (by omega) (by omega) hij
    simp only [List.getElem_zipIdx, Array.getElem_toList, Nat.zero_add, hi2, hj2] at this
    exact this
  · rw [CheckFast.beforeF_eq] at hb
    exact before_anc j i hb
theorem Good.anc_pos {ops : Array Oper} {b : Array Nat} {L : List Nat} (g : Good ops b L) {i j : Nat} (h : Anc ops i j) : ∀ q : Nat, L[q]? = some j → ∃ q', q' < q ∧ L[q']? = some i := by
  induction h with
  | edge hj he hb => exact fun q hq => g.topo q _ _ hq hj _ he hb
  | far hj he hb _ ih =>
    intro q hq
    obtain ⟨q1, h1, h2⟩ := g.topo q _ _ hq hj _ he hb
    obtain ⟨q2, h3, h4⟩ := ih q1 h2
    exact ⟨q2, by omega, h4⟩
/-- Who writes a slot that another one names is ordered with it. -/
theorem Good.ordered {ops : Array Oper} {b : Array Nat} {L : List Nat} (g : Good ops b L) {i j : Nat} {oi oj : Oper} (hij : i ≠ j) (hi : ops[i]? = some oi) (hj : ops[j]? = some oj) {t : Nat} (ht : oi.dst = some t) (hn : t ∈ oj.looksAt ops ∨ oj.dst = some t) : Anc ops i j ∨ Anc ops j i := by
  rcases Nat.lt_or_gt_of_ne hij with h | h
  · rcases g.apart i j oi oj h hi hj with h1 | h1
    · exact .inl (g.anc j i h1)
    · obtain ⟨a1, a2, _⟩ := Oper.apart_spec h1
      rcases hn with hn | hn
      · exact absurd hn (a1 t ht)
      · exact absurd hn (a2 t ht)
  · rcases g.apart j i oj oi h hj hi with h1 | h1
    · exact .inr (g.anc i j h1)
    · obtain ⟨_, a2, a3⟩ := Oper.apart_spec h1
      rcases hn with hn | hn
      · exact absurd hn (a3 t ht)
      · exact absurd ht (a2 t hn)
end Go.Am
end
section
/- The abstract machine, part 15: a region that draws its order, continued. No program in sight. -/
set_option linter.all false
namespace Go.Am
open Go.RowKit
variable {P : Program} {ds : List Deferred}

/-- Something that lies there already becomes an id's. -/
theorem Rel.absorb {σ : Store} {M : Places} {w : World} (h : Rel M σ w) {o : SObj} {l : Loc} (hs : Shows M w l o) (hn : ∀ i x l', σ.get i = some x → M i = some l' → l'.block ≠ l.block) : Rel (M.upd σ.next l) (σ.push o) w := by
  have hle : M.le (M.upd σ.next l) := Places.le_upd l (h.dom _ (Nat.le_refl _))
  refine ⟨fun i o' hi => ?_, fun i j a b li lj hi hj ha hne hli hlj => ?_, fun i hi => ?_⟩
  · by_cases e : i = σ.next
    · subst e
      rw [Store.get_push_same] at hi; cases hi
      exact ⟨l, Places.upd_same _ _ _, hs.mono hle⟩
    · rw [Store.get_push, if_neg e] at hi
      obtain ⟨l', hl', hs'⟩ := h.shows i o' hi
      exact ⟨l', by rw [Places.upd_ne l e]; exact hl', hs'.mono hle⟩
  · by_cases ei : i = σ.next
    · subst ei
      rw [Places.upd_same] at hli; cases hli
      have ej : j ≠ σ.next := fun e => hne e.symm
      rw [Store.get_push, if_neg ej] at hj
      rw [Places.upd_ne l ej] at hlj
      exact fun e => hn j b lj hj hlj e.symm
    · rw [Store.get_push, if_neg ei] at hi
      rw [Places.upd_ne l ei] at hli
      by_cases ej : j = σ.next
      · subst ej
        rw [Places.upd_same] at hlj; cases hlj
        exact hn i a li hi hli
      · rw [Store.get_push, if_neg ej] at hj
        rw [Places.upd_ne l ej] at hlj
        exact h.apart i j a b li lj hi hj ha hne hli hlj
  · rw [Store.next_push] at hi
    rw [Places.upd_ne l (by omega)]
    exact h.dom i (by omega)

/-- Places below a bound. -/
def below (N : Places) (k : Nat) : Places := fun i => if i < k then N i else none
theorem below_le (N : Places) {k k' : Nat} (h : k ≤ k') : (below N k).le (below N k') := fun i l hi => by
  unfold below at hi ⊢
  split at hi
  · rw [if_pos (by omega)]; exact hi
  · cases hi
theorem below_mono {N N' : Places} (h : N.le N') (k : Nat) : (below N k).le (below N' k) := fun i l hi => by
  unfold below at hi ⊢
  split at hi
  · rename_i hk; rw [if_pos hk]; exact h i l hi
  · cases hi
theorem below_none (N : Places) {k i : Nat} (h : k ≤ i) : below N k i = none := if_neg (by omega)
theorem below_eq {N : Places} {k i : Nat} (h : i < k) : below N k i = N i := if_pos h
theorem below_succ {N : Places} {k : Nat} {l : Loc} (h : N k = some l) : below N (k + 1) = (below N k).upd k l := by
  funext i
  unfold below Places.upd
  by_cases e : i = k
  · subst e; simp [h]
  · by_cases hk : i < k
    · have : i < k + 1 := by omega
      simp [e, hk, this]
    · have : ¬ i < k + 1 := by omega
      simp [e, hk, this]
/-- A store that names more ids. -/
def Store.more (σ : Store) (k : Nat) (h : σ.next ≤ k) : Store := ⟨σ.get, k, fun i hi => σ.fresh i (by omega)⟩
theorem Rel.more {σ : Store} {M : Places} {w : World} (h : Rel M σ w) {k : Nat} (hk : σ.next ≤ k) {N : Places} (hN : M.le N) (hs : ∀ i o, σ.get i = some o → ∃ l, M i = some l ∧ N i = some l) (hd : ∀ i, k ≤ i → N i = none) : Rel N (σ.more k hk) w :=
  ⟨fun i o hi => by
    obtain ⟨l, hl, hsh⟩ := h.shows i o hi
    exact ⟨l, hN _ _ hl, hsh.mono hN⟩, fun i j a b li lj hi hj ha hne hli hlj => by
    obtain ⟨l, h1, h2⟩ := hs i a hi
    obtain ⟨l', h3, h4⟩ := hs j b hj
    rw [h2] at hli; cases hli
    rw [h4] at hlj; cases hlj
    exact h.apart i j a b _ _ hi hj ha hne h1 h3, hd⟩

section
variable (P) (ops : Array Oper) (b : Array Nat) (L : List Nat) (A : Nat → Value) (acts : Nat → List Value) (C S : Nat → Store)
/-- A step that makes something new. -/
def NewAt (q : Nat) (ob : SObj) : Prop := ∃ i o mk, L[q]? = some i ∧ ops[i]? = some o ∧ isEff o.op = false ∧ guardA ops (acts q) o = some true ∧ action P o (aev (acts q)) = some (.new ob mk)
def Done (listed : Array Bool) (q : Nat) : Prop := ∃ i, L[q]? = some i ∧ listed.getD i false = true
/-- Who writes a slot. -/
def Writes (q t : Nat) : Prop := ∃ i o, L[q]? = some i ∧ ops[i]? = some o ∧ o.dst = some t
/-- What a slot holds. -/
def Holds (N : Places) (listed : Array Bool) (t : Nat) (v' : Value) : Prop :=
  (∃ q, Done L listed q ∧ Writes ops L q t ∧ (∀ q', Done L listed q' → Writes ops L q' t → q' ≤ q) ∧ VR (below N (C (q + 1)).next) false (A q) v') ∨
  ((∀ q, Done L listed q → ¬ Writes ops L q t) ∧ VR (below N (C 0).next) false (aget (acts 0) t) v')

structure Inv (ds : List Deferred) (w0 : World) (M0 : Places) (listed : Array Bool) (a : Act) (w : World) (p : Nat) (M N : Places) : Prop where
  pn : p ≤ L.length
  base : C p = S (effCount ops L p)
  low : ∀ q, q < p → Done L listed q
  high : ∀ q i, p ≤ q → Done L listed q → L[q]? = some i → effAt ops i = false
  rel : Rel M (C p) w
  ext : ∀ id, id < (C p).next → N id = M id
  flo : ∀ q ob, p ≤ q → Done L listed q → NewAt P ops L acts q ob → ∃ l, N (C q).next = some l ∧ Shows (below N (C q).next) w l ob ∧ w0.heap.size ≤ l.block ∧ ∀ i x l', (C p).get i = some x → M i = some l' → l'.block ≠ l.block
  apart : ∀ q q' ob ob' l l', p ≤ q → p ≤ q' → q ≠ q' → Done L listed q → Done L listed q' → NewAt P ops L acts q ob → NewAt P ops L acts q' ob' → N (C q).next = some l → N (C q').next = some l' → l.block ≠ l'.block
  dom : ∀ id, (C p).next ≤ id → N id ≠ none → ∃ q ob, p ≤ q ∧ Done L listed q ∧ NewAt P ops L acts q ob ∧ id = (C q).next
  tmp : ∀ t, t < (acts 0).length → ∃ v', a.tmps[t]? = some v' ∧ Holds ops L A acts C N listed t v'
  defers : a.defers = ds
  step : Step (C 0) M0 w0 (C p) M w
end

section
variable {ops : Array Oper} {b : Array Nat} {L : List Nat} {A : Nat → Value} {acts : Nat → List Value} {C S : Nat → Store}
variable (hg : Good ops b L) (hst : ∀ q, q < L.length → StepOk P ops b L A acts C S q)
include hst
theorem acts_len : ∀ q, q ≤ L.length → (acts q).length = (acts 0).length := by
  intro q
  induction q with
  | zero => intro _; rfl
  | succ q ih =>
    intro hq
    obtain ⟨i, o, _, _, h, _⟩ := hst q (by omega)
    rw [h]
    unfold aput
    cases o.dst with
    | none => exact ih (by omega)
    | some d => simp; exact ih (by omega)
theorem next_succ (q : Nat) (hq : q < L.length) : (C q).next ≤ (C (q + 1)).next := by
  obtain ⟨i, o, _, _, _, h⟩ := hst q hq
  rcases h with ⟨_, _, ⟨_, _, h⟩ | ⟨_, h⟩⟩ | ⟨_, ⟨_, _, h⟩ | ⟨_, x, _, ⟨v, _, _, h⟩ | ⟨ob, mk, _, _, h⟩ | ⟨f, _, h, _⟩⟩⟩
  · rw [h]; exact Nat.le_refl _
  · exact Res.mono h
  · rw [h]; exact Nat.le_refl _
  · rw [h]; exact Nat.le_refl _
  · rw [h]; exact Store.le_push _ _
  · rw [h]; exact Nat.le_refl _
theorem next_le {q q' : Nat} (h : q ≤ q') (hq' : q' ≤ L.length) : (C q).next ≤ (C q').next := by
  induction q' with
  | zero => have : q = 0 := by omega
            subst this; exact Nat.le_refl _
  | succ q' ih =>
    rcases Nat.lt_or_ge q (q' + 1) with h0 | h0
    · exact Nat.le_trans (ih (by omega) (by omega)) (next_succ hst q' (by omega))
    · have : q = q' + 1 := by omega
      subst this; exact Nat.le_refl _
theorem new_next {q : Nat} {ob : SObj} (hq : q < L.length) (h : NewAt P ops L acts q ob) : C (q + 1) = (C q).push ob := by
  obtain ⟨i, o, mk, h1, h2, h3, h4, h5⟩ := h
  obtain ⟨i', o', g1, g2, _, g⟩ := hst q hq
  rw [h1] at g1; cases g1
  rw [h2] at g2; cases g2
  rcases g with ⟨g, _⟩ | ⟨_, ⟨g, _⟩ | ⟨_, x, gx, g⟩⟩
  · rw [h3] at g; cases g
  · rw [h4] at g; cases g
  · rw [h5] at gx; cases gx
    rcases g with ⟨v, g, _⟩ | ⟨ob', mk', g, _, g'⟩ | ⟨f, g, _⟩
    · cases g
    · cases g; exact g'
    · cases g
omit hst in
theorem new_own {q : Nat} {ob : SObj} (h : NewAt P ops L acts q ob) : ob.own = true := by
  obtain ⟨i, o, mk, _, _, _, _, h⟩ := h
  exact action_own h
theorem quiet_next {q i : Nat} (hq : q < L.length) (hi : L[q]? = some i) (he : effAt ops i = false) : C (q + 1) = C q ∨ ∃ ob, NewAt P ops L acts q ob ∧ C (q + 1) = (C q).push ob := by
  obtain ⟨i', o, g1, g2, _, g⟩ := hst q hq
  rw [hi] at g1; cases g1
  have hef : isEff o.op = false := by simpa [effAt, g2] using he
  rcases g with ⟨g, _⟩ | ⟨_, ⟨_, _, g⟩ | ⟨hgd, x, gx, g⟩⟩
  · rw [hef] at g; cases g
  · exact .inl g
  · rcases g with ⟨v, _, _, g⟩ | ⟨ob, mk, rfl, _, g⟩ | ⟨f, _, g, _⟩
    · exact .inl g
    · exact .inr ⟨ob, ⟨i, o, mk, hi, g2, hef, hgd, gx⟩, g⟩
    · exact .inl g
/-- What a slot holds in the machine's order. -/
theorem last_writer {t : Nat} (ht : t < (acts 0).length) : ∀ p, p ≤ L.length →
    (∃ q, q < p ∧ Writes ops L q t ∧ aget (acts p) t = A q ∧ ∀ q', q' < p → Writes ops L q' t → q' ≤ q) ∨ ((∀ q, q < p → ¬ Writes ops L q t) ∧ aget (acts p) t = aget (acts 0) t) := by
  intro p
  induction p with
  | zero => intro _; exact .inr ⟨fun q hq => by omega, rfl⟩
  | succ p ih =>
    intro hp
    obtain ⟨i, o, g1, g2, g3, _⟩ := hst p (by omega)
    have hlen := acts_len hst p (by omega)
    by_cases hw : o.dst = some t
    · refine .inl ⟨p, by omega, ⟨i, o, g1, g2, hw⟩, ?_, fun q' h1 h2 => by omega⟩
      rw [g3, hw]
      simp [aput, aget, hlen, ht]
    · have hne : aget (acts (p + 1)) t = aget (acts p) t := by
        rw [g3]
        unfold aput
        cases hd : o.dst with
        | none => rfl
        | some d =>
          have : d ≠ t := fun e => hw (by rw [hd, e])
          simp [aget, List.getElem?_set_ne this]
      have hnw : ¬ Writes ops L p t := by
        rintro ⟨i', o', k1, k2, k3⟩
        rw [g1] at k1; cases k1
        rw [g2] at k2; cases k2
        exact hw k3
      rcases ih (by omega) with ⟨q, h1, h2, h3, h4⟩ | ⟨h1, h2⟩
      · refine .inl ⟨q, by omega, h2, by rw [hne, h3], fun q' k1 k2 => ?_⟩
        by_cases e : q' = p
        · subst e; exact absurd k2 hnw
        · exact h4 q' (by omega) k2
      · refine .inr ⟨fun q hq => ?_, by rw [hne, h2]⟩
        by_cases e : q = p
        · subst e; exact hnw
        · exact h1 q (by omega)
/-- What has been made ahead is taken in. -/
theorem Inv.absorb {w0 : World} {M0 : Places} {listed : Array Bool} {a : Act} {w : World} {p : Nat} {M N : Places} (h : Inv P ops L A acts C S ds w0 M0 listed a w p M N) : ∀ r, p ≤ r → r ≤ L.length → (∀ q, q < r → Done L listed q) → (∀ q i, p ≤ q → q < r → L[q]? = some i → effAt ops i = false) →
    Rel (below N (C r).next) (C r) w ∧ Step (C 0) M0 w0 (C r) (below N (C r).next) w ∧
    (∀ i x l, (C r).get i = some x → below N (C r).next i = some l → ((C p).get i = some x ∧ M i = some l) ∨ ∃ q ob, p ≤ q ∧ q < r ∧ Done L listed q ∧ NewAt P ops L acts q ob ∧ N (C q).next = some l) := by
  intro r
  induction r with
  | zero =>
    intro hp _ _ _
    have : p = 0 := by omega
    subst this
    have e : below N (C 0).next = M := by
      funext i
      unfold below
      split
      · rename_i hi; exact h.ext i hi
      · rename_i hi; exact (h.rel.dom i (by omega)).symm
    rw [e]
    exact ⟨h.rel, h.step, fun i x l hi hl => .inl ⟨hi, hl⟩⟩
  | succ r ih =>
    intro hp hr hd he
    by_cases hpr : p = r + 1
    · subst hpr
      have e : below N (C (r + 1)).next = M := by
        funext i
        unfold below
        split
        · rename_i hi; exact h.ext i hi
        · rename_i hi; exact (h.rel.dom i (by omega)).symm
      rw [e]
      exact ⟨h.rel, h.step, fun i x l hi hl => .inl ⟨hi, hl⟩⟩
    · obtain ⟨ih1, ih2, ih3⟩ := ih (by omega) (by omega) (fun q hq => hd q (by omega)) (fun q i hq1 hq2 => he q i hq1 (by omega))
      have hrl : r < L.length := by omega
      have hLr : L[r]? = some L[r] := List.getElem?_eq_getElem hrl
      rcases quiet_next hst hrl hLr (he r _ (by omega) (by omega) hLr) with hc | ⟨ob, hnew, hc⟩
      · rw [hc]
        exact ⟨ih1, ih2, fun i x l hi hl => by
          rcases ih3 i x l hi hl with h1 | ⟨q, ob, h1, h2, h3, h4, h5⟩
          · exact .inl h1
          · exact .inr ⟨q, ob, h1, by omega, h3, h4, h5⟩⟩
      · obtain ⟨l, f1, f2, f3, f4⟩ := h.flo r ob (by omega) (hd r (by omega)) hnew
        have hb : below N (C (r + 1)).next = (below N (C r).next).upd (C r).next l := by
          rw [hc, Store.next_push]; exact below_succ f1
        have hdis : ∀ i x l', (C r).get i = some x → below N (C r).next i = some l' → l'.block ≠ l.block := fun i x l' hi hl' => by
          rcases ih3 i x l' hi hl' with ⟨h1, h2⟩ | ⟨q, ob', h1, h2, h3, h4, h5⟩
          · exact f4 i x l' h1 h2
          · exact h.apart q r ob' ob l' l h1 (by omega) (by omega) h3 (hd r (by omega)) h4 hnew h5 f1
        have hrel := ih1.absorb f2 hdis
        rw [hb, hc]
        have hle : (below N (C r).next).le ((below N (C r).next).upd (C r).next l) := Places.le_upd l (below_none N (Nat.le_refl _))
        refine ⟨hrel, ⟨?_, Places.le_trans ih2.le hle, ih2.size, ih2.frame, fun bk hbk ho => ?_, fun i c hi => ?_, ih2.os, ih2.tape, ih2.output⟩, fun i x l' hi hl' => ?_⟩
        · have := ih2.next; simp; omega
        · obtain ⟨i, x, l', hi, hx, hl', rfl⟩ := ho
          by_cases e : i = (C r).next
          · subst e
            rw [Places.upd_same] at hl'; cases hl'
            omega
          · rw [Store.get_push, if_neg e] at hi
            rw [Places.upd_ne l e] at hl'
            exact ih2.owned _ hbk ⟨i, x, l', hi, hx, hl', rfl⟩
        · by_cases e : i = (C r).next
          · subst e
            rw [Store.get_push_same] at hi
            injection hi with hi
            have := new_own (P := P) hnew
            rw [hi] at this; cases this
          · rw [Store.get_push, if_neg e] at hi
            exact ih2.lent i c hi
        · by_cases e : i = (C r).next
          · subst e
            rw [Places.upd_same] at hl'; cases hl'
            exact .inr ⟨r, ob, by omega, by omega, hd r (by omega), hnew, f1⟩
          · rw [Store.get_push, if_neg e] at hi
            rw [Places.upd_ne l e] at hl'
            rcases ih3 i x l' hi hl' with h1 | ⟨q, ob, h1, h2, h3, h4, h5⟩
            · exact .inl h1
            · exact .inr ⟨q, ob, h1, by omega, h3, h4, h5⟩

include hg
/-- What an operation that is ready looks at. -/
theorem Inv.looks {w0 : World} {M0 : Places} {listed : Array Bool} {a : Act} {w : World} {p : Nat} {M N : Places} (h : Inv P ops L A acts C S ds w0 M0 listed a w p M N) (hc : Closed ops listed) {j q0 : Nat} {o : Oper} (hq0 : L[q0]? = some j) (ho : ops[j]? = some o)
    (hun : listed.getD j true = false) (hall : ∀ e ∈ o.after, Region.binds .any e = true → listed.getD e.on false = true) {t : Nat} (ht : t ∈ o.looksAt ops) (htl : t < (acts 0).length) : ∃ v', a.tmps[t]? = some v' ∧ VR (below N (C q0).next) false (aget (acts q0) t) v' := by
  have hql : q0 < L.length := (List.getElem?_eq_some_iff.1 hq0).1
  have hunf : listed.getD j false = false := by
    cases hx : listed[j]? with
    | none => simp [hx]
    | some v => simp [hx] at hun ⊢; exact hun
  -- who writes it, and is done, stands ahead; who stands ahead is done
  have key : ∀ q, Writes ops L q t → (Done L listed q → q < q0) ∧ (q < q0 → Done L listed q) := by
    rintro q ⟨i, oi, h1, h2, h3⟩
    by_cases e : i = j
    · subst e
      have : q = q0 := hg.nodup q q0 i h1 hq0
      subst this
      refine ⟨?_, fun hlt => by omega⟩
      rintro ⟨i', k1, k2⟩
      rw [h1] at k1; cases k1
      rw [hunf] at k2; cases k2
    · rcases hg.ordered e h2 ho h3 (.inl ht) with ha | ha
      · obtain ⟨q', k1, k2⟩ := hg.anc_pos ha q0 hq0
        have : q' = q := hg.nodup q' q i k2 h1
        subst this
        exact ⟨fun _ => k1, fun _ => ⟨i, h1, ha.of_ready hc ho hall⟩⟩
      · obtain ⟨q', k1, k2⟩ := hg.anc_pos ha q h1
        have : q' = q0 := hg.nodup q' q0 j k2 hq0
        subst this
        refine ⟨?_, fun hlt => by omega⟩
        rintro ⟨i', k3, k4⟩
        rw [h1] at k3; cases k3
        have := ha.of_listed hc k4
        rw [hunf] at this; cases this
  obtain ⟨v', hv', hh⟩ := h.tmp t htl
  refine ⟨v', hv', ?_⟩
  rcases hh with ⟨q, d1, d2, d3, d4⟩ | ⟨d1, d2⟩
  · have hlt := (key q d2).1 d1
    rcases last_writer hst htl q0 (by omega) with ⟨q', e1, e2, e3, e4⟩ | ⟨e1, _⟩
    · have h1 := e4 q hlt d2
      have h2 := d3 q' ((key q' e2).2 e1) e2
      have : q' = q := by omega
      subst this
      rw [e3]
      exact d4.mono (below_le N (next_le hst (by omega) (by omega)))
    · exact absurd d2 (e1 q hlt)
  · rcases last_writer hst htl q0 (by omega) with ⟨q', e1, e2, _, _⟩ | ⟨_, e2⟩
    · exact absurd e2 (d1 q' ((key q' e2).2 e1))
    · rw [e2]
      exact d2.mono (below_le N (next_le hst (by omega) (by omega)))
/-- The slots behind an operation. -/
theorem Inv.put {w0 : World} {M0 : Places} {listed : Array Bool} {a : Act} {w : World} {p : Nat} {M N N' : Places} (h : Inv P ops L A acts C S ds w0 M0 listed a w p M N) (hc : Closed ops listed) (hN : N.le N') {j q0 : Nat} {o : Oper} (hq0 : L[q0]? = some j) (ho : ops[j]? = some o)
    (hun : listed.getD j true = false) (hall : ∀ e ∈ o.after, Region.binds .any e = true → listed.getD e.on false = true) {v' : Value} (hv : VR (below N' (C (q0 + 1)).next) false (A q0) v') :
    ∀ t, t < (acts 0).length → ∃ u, (a.put o.dst v').tmps[t]? = some u ∧ Holds ops L A acts C N' (listed.setIfInBounds j true) t u := by
  intro t ht
  obtain ⟨u, hu, hh⟩ := h.tmp t ht
  have hjs : j < listed.size := by
    rcases Nat.lt_or_ge j listed.size with h0 | h0
    · exact h0
    · simp [Array.getElem?_eq_none h0] at hun
  have hunf : listed.getD j false = false := by
    simp [Array.getElem?_eq_getElem hjs] at hun ⊢; exact hun
  have hdone : ∀ q, Done L (listed.setIfInBounds j true) q ↔ q = q0 ∨ Done L listed q := fun q => by
    constructor
    · rintro ⟨i, h1, h2⟩
      by_cases e : j = i
      · subst e; exact .inl (hg.nodup q q0 _ h1 hq0)
      · rw [getD_set_ne false e] at h2
        exact .inr ⟨i, h1, h2⟩
    · rintro (rfl | ⟨i, h1, h2⟩)
      · exact ⟨j, hq0, by simp [hjs]⟩
      · exact ⟨i, h1, getD_set_true h2⟩
  by_cases hw : o.dst = some t
  · have hat : a.tmps[t]? ≠ none := by rw [hu]; simp
    have hts : t < a.tmps.size := by
      rcases Nat.lt_or_ge t a.tmps.size with h0 | h0
      · exact h0
      · exact absurd (Array.getElem?_eq_none h0) hat
    refine ⟨v', by simp [Act.put, hw, hts], .inl ⟨q0, (hdone q0).2 (.inl rfl), ⟨j, o, hq0, ho, hw⟩, fun q' h1 h2 => ?_, hv⟩⟩
    rcases (hdone q').1 h1 with rfl | h1
    · exact Nat.le_refl _
    · obtain ⟨i, oi, k1, k2, k3⟩ := h2
      by_cases e : i = j
      · subst e
        rw [hg.nodup q' q0 i k1 hq0]
        exact Nat.le_refl _
      · rcases hg.ordered e k2 ho k3 (.inr hw) with ha | ha
        · obtain ⟨q2, m1, m2⟩ := hg.anc_pos ha q0 hq0
          have : q2 = q' := hg.nodup q2 q' i m2 k1
          omega
        · obtain ⟨i', m1, m2⟩ := h1
          rw [k1] at m1; cases m1
          have := ha.of_listed hc m2
          rw [hunf] at this; cases this
  · have hne : (a.put o.dst v').tmps[t]? = a.tmps[t]? := by
      cases hd : o.dst with
      | none => rfl
      | some d =>
        have : d ≠ t := fun e => hw (by rw [hd, e])
        simp [Act.put, Array.getElem?_setIfInBounds_ne this]
    have hnw : ¬ Writes ops L q0 t := by
      rintro ⟨i', o', k1, k2, k3⟩
      rw [hq0] at k1; cases k1
      rw [ho] at k2; cases k2
      exact hw k3
    refine ⟨u, by rw [hne]; exact hu, ?_⟩
    rcases hh with ⟨q, d1, d2, d3, d4⟩ | ⟨d1, d2⟩
    · refine .inl ⟨q, (hdone q).2 (.inr d1), d2, fun q' h1 h2 => ?_, d4.mono (below_mono hN _)⟩
      rcases (hdone q').1 h1 with rfl | h1
      · exact absurd h2 hnw
      · exact d3 q' h1 h2
    · refine .inr ⟨fun q h1 => ?_, d2.mono (below_mono hN _)⟩
      rcases (hdone q).1 h1 with rfl | h1
      · exact hnw
      · exact d1 q h1
end
end Go.Am
end
section
/- The abstract machine, part 16: one operation of a region that draws its order. No program in sight. -/
set_option linter.all false
namespace Go.Am
open Go.RowKit
variable {P : Program} {ds : List Deferred}

theorem put_defers {a : Act} {d : Option Tmp} {v : Value} {ds : List Deferred} (h : a.defers = ds) : (a.put d v).defers = ds := by
  cases d <;> exact h
theorem length_le_of_nodup : ∀ (l l' : List Nat), l.Nodup → (∀ x ∈ l, x ∈ l') → l.length ≤ l'.length
  | [], l', _, _ => Nat.zero_le _
  | x :: l, l', hn, hs => by
    rw [List.nodup_cons] at hn
    have hx := hs x List.mem_cons_self
    have h1 := length_le_of_nodup l (l'.erase x) hn.2 fun y hy => by
      have hne : y ≠ x := fun e => hn.1 (e ▸ hy)
      exact (List.mem_erase_of_ne hne).2 (hs y (List.mem_cons_of_mem _ hy))
    rw [List.length_erase_of_mem hx] at h1
    have : 0 < l'.length := List.length_pos_of_mem hx
    simp only [List.length_cons]
    omega

theorem Rel.pushed {σ : Store} {M : Places} {w w' : World} {x : Obj} (h : Rel M σ w) (hw : w'.heap = w.heap.push x) : Rel M σ w' :=
  ⟨fun i o hi => by
    obtain ⟨l, hl, hs⟩ := h.shows i o hi
    refine ⟨l, hl, hs.same ?_⟩
    have := hs.lt
    rw [hw, Array.getElem?_push, if_neg (by omega)], h.apart, h.dom⟩
theorem Step.pushed {σ σ' : Store} {M M' : Places} {w0 w w' : World} {x : Obj} (h : Step σ M w0 σ' M' w) (hw : w'.heap = w.heap.push x) (h1 : w'.os = w.os) (h2 : w'.tape = w.tape) (h3 : w'.output = w.output) : Step σ M w0 σ' M' w' where
  next := h.next
  le := h.le
  size := by have := h.size; rw [hw]; simp; omega
  frame b hb hn := by
    have := h.size
    rw [← h.frame b hb hn, hw, Array.getElem?_push, if_neg (by omega)]
  owned := h.owned
  lent := h.lent
  os := h1.trans h.os
  tape := h2.trans h.tape
  output := h3.trans h.output

section
variable {ops : Array Oper} {b : Array Nat} {L : List Nat} {A : Nat → Value} {acts : Nat → List Value} {C S : Nat → Store}
variable (hst : ∀ q, q < L.length → StepOk P ops b L A acts C S q)
include hst
/-- New ids differ. -/
theorem new_ne {q q' : Nat} {ob ob' : SObj} (hq : q < L.length) (hq' : q' < L.length) (h : NewAt P ops L acts q ob) (h' : NewAt P ops L acts q' ob') (hne : q ≠ q') : (C q).next ≠ (C q').next := by
  have key : ∀ {q q' : Nat} {ob : SObj}, q < L.length → q' < L.length → NewAt P ops L acts q ob → q < q' → (C q).next < (C q').next := fun {q q' ob} hq hq' h hlt => by
    have h1 := new_next hst hq h
    have h2 := next_le hst (q := q + 1) (q' := q') (by omega) (by omega)
    rw [h1, Store.next_push] at h2
    omega
  rcases Nat.lt_or_gt_of_ne hne with h0 | h0
  · have := key hq hq' h h0; omega
  · have := key hq' hq h' h0; omega
theorem new_lt {q q' : Nat} {ob : SObj} (hq : q < L.length) (hq' : q' ≤ L.length) (h : NewAt P ops L acts q ob) (hlt : q < q') : (C q).next < (C q').next := by
  have h1 := new_next hst hq h
  have h2 := next_le hst (q := q + 1) (q' := q') (by omega) (by omega)
  rw [h1, Store.next_push] at h2
  omega
omit hst in
theorem Done.lt {listed : Array Bool} {q : Nat} (h : Done L listed q) : q < L.length := by
  obtain ⟨i, hi, _⟩ := h
  exact (List.getElem?_eq_some_iff.1 hi).1
omit hst in
theorem NewAt.is {q j : Nat} {o : Oper} {ob : SObj} (h : NewAt P ops L acts q ob) (hq : L[q]? = some j) (ho : ops[j]? = some o) : isEff o.op = false ∧ guardA ops (acts q) o = some true ∧ ∃ mk, action P o (aev (acts q)) = some (.new ob mk) := by
  obtain ⟨i, o', mk, h1, h2, h3, h4, h5⟩ := h
  rw [hq] at h1; cases h1
  rw [ho] at h2; cases h2
  exact ⟨h3, h4, mk, h5⟩

variable (hg : Good ops b L) {w0 : World} {M0 : Places} {listed : Array Bool} {a : Act} {w : World} {p : Nat} {M N : Places} (h : Inv P ops L A acts C S ds w0 M0 listed a w p M N) (hc : Closed ops listed)
variable {j q0 : Nat} {o : Oper} (hq0 : L[q0]? = some j) (ho : ops[j]? = some o) (hun : listed.getD j true = false) (hall : ∀ e ∈ o.after, Region.binds .any e = true → listed.getD e.on false = true)
include hg h hc hq0 ho hun hall
/-- The operands. -/
theorem Inv.ops_ (hok : okOp P o = true) {x : Operand} (hx : x ∈ o.op.operands.toList) : VR (below N (C q0).next) false (aev (acts q0) x) (a.eval x) := by
  have hql : q0 < L.length := (List.getElem?_eq_some_iff.1 hq0).1
  have hoo := okOp_operand hok hx
  cases x with
  | tmp t =>
    show VR _ false (aget (acts q0) t) (a.tmps.getD t undef)
    by_cases htl : t < (acts 0).length
    · have ht : t ∈ o.looksAt ops := by
        unfold Oper.looksAt
        rw [List.mem_append]
        exact .inl (List.mem_filterMap.2 ⟨.tmp t, hx, rfl⟩)
      obtain ⟨v', h1, h2⟩ := h.looks hg hst hc hq0 ho hun hall ht htl
      simp [h1]
      exact h2
    · have : aget (acts q0) t = junk := by
        unfold aget
        rw [List.getD_eq_getElem?_getD, List.getElem?_eq_none (by rw [acts_len hst q0 (by omega)]; exact Nat.not_lt.1 htl)]
        rfl
      rw [this]
      exact .junk _
  | const v => exact VR.of_closed hoo
  | global g => exact .junk _
  | func f => exact .cell _ _ (.func f _ _ _ _ rfl rfl (fun i v v' hv => by simp at hv) (fun i v v' hv => by simp at hv))
/-- The guard. -/
theorem Inv.guard {bb : Bool} (hgd : guardA ops (acts q0) o = some bb) : Region.wanted o (yielded ops a.tmps) = bb := by
  have hql : q0 < L.length := (List.getElem?_eq_some_iff.1 hq0).1
  unfold guardA at hgd
  unfold Region.wanted
  cases hgo : o.guard with
  | none => rw [hgo] at hgd; simpa using hgd
  | some jw =>
    obtain ⟨i, want⟩ := jw
    rw [hgo] at hgd
    simp only at hgd ⊢
    unfold yielded
    cases hd : (ops[i]?).bind (·.dst) with
    | none => rw [hd] at hgd; cases hgd
    | some t =>
      rw [hd] at hgd
      simp only [Option.bind_some] at hgd ⊢
      split at hgd
      · rename_i x hx
        have htl : t < (acts 0).length := by
          rcases Nat.lt_or_ge t (acts 0).length with h0 | h0
          · exact h0
          · unfold aget at hx
            rw [List.getD_eq_getElem?_getD, List.getElem?_eq_none (by rw [acts_len hst q0 (by omega)]; omega)] at hx
            cases hx
        have ht : t ∈ o.looksAt ops := by
          unfold Oper.looksAt
          rw [List.mem_append]
          exact .inr (by rw [hgo]; simp [hd])
        obtain ⟨v', h1, h2⟩ := h.looks hg hst hc hq0 ho hun hall ht htl
        rw [hx] at h2
        have := h2.bool_
        subst this
        rw [h1]
        simp only [Option.some.injEq] at hgd
        subst hgd
        cases x <;> cases want <;> rfl
      · rename_i x hx
        have htl : t < (acts 0).length := by
          rcases Nat.lt_or_ge t (acts 0).length with h0 | h0
          · exact h0
          · unfold aget at hx
            rw [List.getD_eq_getElem?_getD, List.getElem?_eq_none (by rw [acts_len hst q0 (by omega)]; omega)] at hx
            cases hx
        have ht : t ∈ o.looksAt ops := by
          unfold Oper.looksAt
          rw [List.mem_append]
          exact .inr (by rw [hgo]; simp [hd])
        obtain ⟨v', h1, h2⟩ := h.looks hg hst hc hq0 ho hun hall ht htl
        rw [hx] at h2
        have := h2.chan_
        subst this
        rw [h1]
        simp only [Option.some.injEq] at hgd
        subst hgd
        cases want <;> rfl
      · cases hgd
theorem Inv.unlisted : listed.getD j false = false ∧ ¬ Done L listed q0 ∧ p ≤ q0 ∧ j < listed.size := by
  have hjs : j < listed.size := by
    rcases Nat.lt_or_ge j listed.size with h0 | h0
    · exact h0
    · simp [Array.getElem?_eq_none h0] at hun
  have hunf : listed.getD j false = false := by
    simp [Array.getElem?_eq_getElem hjs] at hun ⊢; exact hun
  have hnd : ¬ Done L listed q0 := by
    rintro ⟨i, h1, h2⟩
    rw [hq0] at h1; cases h1
    rw [hunf] at h2; cases h2
  refine ⟨hunf, hnd, ?_, hjs⟩
  rcases Nat.lt_or_ge q0 p with h0 | h0
  · exact absurd (h.low q0 h0) hnd
  · exact h0
theorem Inv.done_iff (q : Nat) : Done L (listed.setIfInBounds j true) q ↔ q = q0 ∨ Done L listed q := by
  obtain ⟨_, _, _, hjs⟩ := h.unlisted hst hg hc hq0 ho hun hall
  constructor
  · rintro ⟨i, h1, h2⟩
    by_cases e : j = i
    · subst e; exact .inl (hg.nodup q q0 _ h1 hq0)
    · rw [getD_set_ne false e] at h2
      exact .inr ⟨i, h1, h2⟩
  · rintro (rfl | ⟨i, h1, h2⟩)
    · exact ⟨j, hq0, by simp [hjs]⟩
    · exact ⟨i, h1, getD_set_true h2⟩
/-- An operation that writes has all before it behind it. -/
theorem Inv.all_done (he : isEff o.op = true) : ∀ q, q < q0 → Done L listed q := fun q hq => by
  have hql : q0 < L.length := (List.getElem?_eq_some_iff.1 hq0).1
  have hLq : L[q]? = some L[q] := List.getElem?_eq_getElem (by omega)
  have := hg.pre q0 j o hq0 ho he q _ hq hLq
  exact ⟨_, hLq, (hg.anc _ _ this).of_ready hc ho hall⟩
/-- Behind an operation that writes. -/
theorem Inv.ran (he : isEff o.op = true) {v' : Value} {M' : Places} {w' : World} (hv : VR M' false (A q0) v') (hr : Rel M' (C (q0 + 1)) w') (hs : Step (C q0) (below N (C q0).next) w (C (q0 + 1)) M' w') :
    ∃ p' M'' N', Inv P ops L A acts C S ds w0 M0 (listed.setIfInBounds j true) (a.put o.dst v') w' p' M'' N' := by
  have hql : q0 < L.length := (List.getElem?_eq_some_iff.1 hq0).1
  obtain ⟨hunf, hnd, hpq, hjs⟩ := h.unlisted hst hg hc hq0 ho hun hall
  have hdone := h.done_iff hst hg hc hq0 ho hun hall
  have had := h.all_done hst hg hc hq0 ho hun hall he
  have heff : effAt ops j = true := by simp [effAt, ho, he]
  obtain ⟨b1, b2, b3⟩ := h.absorb hst q0 hpq (by omega) had fun q i h1 h2 hi => h.high q i h1 (had q h2) hi
  have hbase : C (q0 + 1) = S (effCount ops L (q0 + 1)) := by
    rw [effCount_succ hq0, heff]
    obtain ⟨i', o', g1, g2, _, g⟩ := hst q0 hql
    rw [hq0] at g1; cases g1
    rw [ho] at g2; cases g2
    rcases g with ⟨_, g, _⟩ | ⟨g, _⟩
    · exact g.symm
    · rw [he] at g; cases g
  have hnew0 : ∀ ob, ¬ NewAt P ops L acts q0 ob := fun ob hn => by
    have := (hn.is hq0 ho).1
    rw [he] at this; cases this
  -- the floats behind
  have hfl : ∀ id, (C q0).next ≤ id → N id ≠ none → ∃ q ob, q0 + 1 ≤ q ∧ Done L listed q ∧ NewAt P ops L acts q ob ∧ id = (C q).next := fun id hid hn => by
    obtain ⟨q, ob, h1, h2, h3, h4⟩ := h.dom id (Nat.le_trans (next_le hst hpq (by omega)) hid) hn
    refine ⟨q, ob, ?_, h2, h3, h4⟩
    rcases Nat.lt_or_ge q q0 with h5 | h5
    · have := new_lt hst h2.lt (by omega) h3 h5
      omega
    · have : q ≠ q0 := fun e => hnew0 ob (e ▸ h3)
      omega
  let N' : Places := fun id => if id < (C (q0 + 1)).next then M' id else N id
  have hN' : ∀ id, (C (q0 + 1)).next ≤ id → N' id = N id := fun id hid => if_neg (by omega)
  have hNlt : ∀ id, id < (C (q0 + 1)).next → N' id = M' id := fun id hid => if_pos hid
  have hle : N.le N' := fun id l hid => by
    by_cases h1 : id < (C (q0 + 1)).next
    · rw [hNlt id h1]
      by_cases h2 : id < (C q0).next
      · exact hs.le id l (by rw [below_eq h2]; exact hid)
      · obtain ⟨q, ob, h3, h4, h5, h6⟩ := hfl id (by omega) (by rw [hid]; simp)
        have := next_le hst (q := q0 + 1) (q' := q) h3 (Nat.le_of_lt h4.lt)
        omega
    · rw [hN' id (by omega)]; exact hid
  have hM' : M'.le (below N' (C (q0 + 1)).next) := fun i l hi => by
    rcases Nat.lt_or_ge i (C (q0 + 1)).next with h1 | h1
    · rw [below_eq h1, hNlt i h1]; exact hi
    · rw [hr.dom i h1] at hi; cases hi
  have hge : ∀ q, q0 + 1 ≤ q → Done L listed q → (C (q0 + 1)).next ≤ (C q).next := fun q hq hd => next_le hst hq (Nat.le_of_lt hd.lt)
  have hdn : ∀ q, q0 + 1 ≤ q → Done L (listed.setIfInBounds j true) q → Done L listed q := fun q hq hd => ((hdone q).1 hd).resolve_left (by omega)
  refine ⟨q0 + 1, M', N', ⟨by omega, hbase, fun q hq => (hdone q).2 ?_, fun q i hq hd hi => h.high q i (by omega) (hdn q hq hd) hi, hr, fun id hid => hNlt id hid, fun q ob hq hd hn => ?_, fun q q' ob ob' l l' hq hq' hne hd hd' hn hn' hl hl' => ?_, fun id hid hn => ?_, h.put hg hst hc hle hq0 ho hun hall (hv.mono hM'), (put_defers h.defers), b2.trans hs⟩⟩
  · by_cases e : q = q0
    · exact .inl e
    · exact .inr (had q (by omega))
  · have hd := hdn q hq hd
    obtain ⟨l, f1, f2, f3, f4⟩ := h.flo q ob (by omega) hd hn
    have hdis : ∀ i x l', (C q0).get i = some x → below N (C q0).next i = some l' → l'.block ≠ l.block := fun i x l' hi hl' => by
      rcases b3 i x l' hi hl' with ⟨h1, h2⟩ | ⟨q1, ob', h1, h2, h3, h4, h5⟩
      · exact f4 i x l' h1 h2
      · exact h.apart q1 q ob' ob l' l h1 (by omega) (by omega) h3 hd h4 hn h5 f1
    have hno : ¬ Owned (C q0) (below N (C q0).next) l.block := by
      rintro ⟨i, x, l', h1, _, h2, h3⟩
      exact hdis i x l' h1 h2 h3
    refine ⟨l, by rw [hN' _ (hge q hq hd)]; exact f1, (f2.same (hs.frame _ f2.lt hno)).mono (below_mono hle _), f3, fun i x l' hi hl' e => ?_⟩
    cases hx : x.own with
    | true => exact hno (hs.owned _ f2.lt ⟨i, x, l', hi, hx, hl', e⟩)
    | false =>
      cases x with
      | lent c =>
        have hi' := hs.lent i c hi
        obtain ⟨l2, k1, _⟩ := b1.shows i _ hi'
        have := hs.le i l2 k1
        rw [hl'] at this; cases this
        exact hdis i _ l' hi' k1 e
      | _ => cases hx
  · have hd := hdn q hq hd
    have hd' := hdn q' hq' hd'
    rw [hN' _ (hge q hq hd)] at hl
    rw [hN' _ (hge q' hq' hd')] at hl'
    exact h.apart q q' ob ob' l l' (by omega) (by omega) hne hd hd' hn hn' hl hl'
  · rw [hN' id hid] at hn
    obtain ⟨q, ob, h1, h2, h3, h4⟩ := hfl id (Nat.le_trans (next_succ hst q0 hql) hid) hn
    exact ⟨q, ob, h1, (hdone q).2 (.inr h2), h3, h4⟩
/-- Behind an operation that makes nothing and writes nothing. -/
theorem Inv.quiet (he : isEff o.op = false) (hn0 : ∀ ob, ¬ NewAt P ops L acts q0 ob) {v' : Value} (hv : VR (below N (C q0).next) false (A q0) v') :
    Inv P ops L A acts C S ds w0 M0 (listed.setIfInBounds j true) (a.put o.dst v') w p M N := by
  have hql : q0 < L.length := (List.getElem?_eq_some_iff.1 hq0).1
  obtain ⟨hunf, hnd, hpq, hjs⟩ := h.unlisted hst hg hc hq0 ho hun hall
  have hdone := h.done_iff hst hg hc hq0 ho hun hall
  have hnew : ∀ q ob, NewAt P ops L acts q ob → Done L (listed.setIfInBounds j true) q → Done L listed q := fun q ob hn hd => ((hdone q).1 hd).resolve_left fun e => hn0 ob (e ▸ hn)
  refine ⟨h.pn, h.base, fun q hq => (hdone q).2 (.inr (h.low q hq)), fun q i hq hd hi => ?_, h.rel, h.ext, fun q ob hq hd hn => h.flo q ob hq (hnew q ob hn hd) hn, fun q q' ob ob' l l' hq hq' hne hd hd' hn hn' => h.apart q q' ob ob' l l' hq hq' hne (hnew q ob hn hd) (hnew q' ob' hn' hd') hn hn', fun id hid hn => ?_,
    h.put hg hst hc (Places.le_refl N) hq0 ho hun hall (hv.mono (below_le N (next_succ hst q0 hql))), (put_defers h.defers), h.step⟩
  · rcases (hdone q).1 hd with rfl | hd
    · rw [hq0] at hi; cases hi
      simp [effAt, ho, he]
    · exact h.high q i hq hd hi
  · obtain ⟨q, ob, h1, h2, h3, h4⟩ := h.dom id hid hn
    exact ⟨q, ob, h1, (hdone q).2 (.inr h2), h3, h4⟩
/-- Behind an operation that makes something. -/
theorem Inv.made {ob : SObj} (hn0 : NewAt P ops L acts q0 ob) {v' : Value} {l : Loc} {w' : World} {x : Obj} (hw : w'.heap = w.heap.push x) (hl : l.block = w.heap.size) (hs : Shows (below N (C q0).next) w' l ob)
    (hv : ∀ N i, N i = some l → i = (C q0).next → VR N false (A q0) v') (h1 : w'.os = w.os) (h2 : w'.tape = w.tape) (h3 : w'.output = w.output) :
    Inv P ops L A acts C S ds w0 M0 (listed.setIfInBounds j true) (a.put o.dst v') w' p M (N.upd (C q0).next l) := by
  have hql : q0 < L.length := (List.getElem?_eq_some_iff.1 hq0).1
  obtain ⟨hunf, hnd, hpq, hjs⟩ := h.unlisted hst hg hc hq0 ho hun hall
  have hdone := h.done_iff hst hg hc hq0 ho hun hall
  have hpn := next_le hst hpq (by omega)
  have hnx := new_next hst hql hn0
  have hnone : N (C q0).next = none := by
    cases hN : N (C q0).next with
    | none => rfl
    | some l' =>
      obtain ⟨q, ob', k1, k2, k3, k4⟩ := h.dom _ hpn (by rw [hN]; simp)
      exact absurd k4 (new_ne hst hql k2.lt hn0 k3 fun e => hnd (e ▸ k2))
  have hle : N.le (N.upd (C q0).next l) := Places.le_upd l hnone
  have hold : ∀ q ob', p ≤ q → Done L listed q → NewAt P ops L acts q ob' → q ≠ q0 ∧ (N.upd (C q0).next l) (C q).next = N (C q).next := fun q ob' _ hd hn => by
    have hne : q ≠ q0 := fun e => hnd (e ▸ hd)
    exact ⟨hne, Places.upd_ne l (new_ne hst hd.lt hql hn hn0 hne)⟩
  have hob : ∀ ob', NewAt P ops L acts q0 ob' → ob' = ob := fun ob' hn => by
    obtain ⟨_, _, mk, e1⟩ := hn.is hq0 ho
    obtain ⟨_, _, mk', e2⟩ := hn0.is hq0 ho
    rw [e1] at e2; cases e2; rfl
  have hblk : ∀ q ob' l', p ≤ q → Done L listed q → NewAt P ops L acts q ob' → N (C q).next = some l' → l'.block < w.heap.size := fun q ob' l' hq hd hn hl' => by
    obtain ⟨l2, f1, f2, _⟩ := h.flo q ob' hq hd hn
    rw [hl'] at f1; cases f1
    exact f2.lt
  refine ⟨h.pn, h.base, fun q hq => (hdone q).2 (.inr (h.low q hq)), fun q i hq hd hi => ?_, h.rel.pushed hw, fun id hid => ?_, fun q ob' hq hd hn => ?_, fun q q' o1 o2 l1 l2 hq hq' hne hd hd' hn hn' e1 e2 => ?_, fun id hid hn => ?_,
    h.put hg hst hc hle hq0 ho hun hall (hv _ _ (by rw [below_eq (by rw [hnx, Store.next_push]; omega)]; exact Places.upd_same _ _ _) rfl), (put_defers h.defers), h.step.pushed hw h1 h2 h3⟩
  · rcases (hdone q).1 hd with rfl | hd
    · rw [hq0] at hi; cases hi
      have := (hn0.is hq0 ho).1
      simp [effAt, ho, this]
    · exact h.high q i hq hd hi
  · rw [Places.upd_ne l (by omega)]
    exact h.ext id hid
  · rcases (hdone q).1 hd with rfl | hd
    · rw [hob ob' hn]
      refine ⟨l, Places.upd_same _ _ _, hs.mono (below_mono hle _), by have := h.step.size; omega, fun i y l' hi hl' => ?_⟩
      obtain ⟨l2, k1, k2⟩ := h.rel.shows i y hi
      rw [hl'] at k1; cases k1
      have := k2.lt
      omega
    · obtain ⟨l', f1, f2, f3, f4⟩ := h.flo q ob' hq hd hn
      obtain ⟨_, e⟩ := hold q ob' hq hd hn
      refine ⟨l', by rw [e]; exact f1, (f2.same ?_).mono (below_mono hle _), f3, f4⟩
      have := f2.lt
      rw [hw, Array.getElem?_push, if_neg (by omega)]
  · rcases (hdone q).1 hd with rfl | hd
    · rcases (hdone q').1 hd' with rfl | hd'
      · exact absurd rfl hne
      · rw [Places.upd_same] at e1; cases e1
        rw [(hold q' o2 hq' hd' hn').2] at e2
        have := hblk q' o2 l2 hq' hd' hn' e2
        omega
    · rw [(hold q o1 hq hd hn).2] at e1
      rcases (hdone q').1 hd' with rfl | hd'
      · rw [Places.upd_same] at e2; cases e2
        have := hblk q o1 l1 hq hd hn e1
        omega
      · rw [(hold q' o2 hq' hd' hn').2] at e2
        exact h.apart q q' o1 o2 l1 l2 hq hq' hne hd hd' hn hn' e1 e2
  · by_cases e : id = (C q0).next
    · exact ⟨q0, ob, hpq, (hdone q0).2 (.inl rfl), hn0, e⟩
    · rw [Places.upd_ne l e] at hn
      obtain ⟨q, ob', k1, k2, k3, k4⟩ := h.dom id hid hn
      exact ⟨q, ob', k1, (hdone q).2 (.inr k2), k3, k4⟩
/-- How many writing ones have been. -/
theorem Inv.counts : lowOf ops b j ≤ effCount ops L p ∧ effCount ops L p ≤ highOf ops b j := by
  obtain ⟨hunf, hnd, hpq, hjs⟩ := h.unlisted hst hg hc hq0 ho hun hall
  have heffs : ∀ e, e ∈ effs ops ↔ e < ops.size ∧ effAt ops e = true := fun e => by
    unfold effs effAt
    rw [List.mem_filter, List.mem_range]
    refine ⟨fun ⟨h1, h2⟩ => ⟨h1, ?_⟩, fun ⟨h1, h2⟩ => ⟨h1, ?_⟩⟩
    · simp [Array.getElem?_eq_getElem h1] at h2 ⊢; exact h2
    · simp [Array.getElem?_eq_getElem h1] at h2 ⊢; exact h2
  constructor
  · refine length_le_of_nodup _ _ ((List.nodup_range.filter _).filter _) fun e he => ?_
    rw [List.mem_filter] at he
    obtain ⟨he1, he2⟩ := he
    obtain ⟨hs, hef⟩ := (heffs e).1 he1
    have hl := (hg.anc _ _ he2).of_ready hc ho hall
    obtain ⟨q, hq⟩ := hg.all e hs
    rw [List.mem_filter]
    refine ⟨?_, hef⟩
    rcases Nat.lt_or_ge q p with h0 | h0
    · rw [List.mem_iff_getElem?]
      exact ⟨q, by rw [List.getElem?_take, if_pos h0]; exact hq⟩
    · have := h.high q e h0 ⟨e, hq, hl⟩ hq
      rw [hef] at this; cases this
  · refine length_le_of_nodup _ _ (List.Pairwise.filter _ (show (L.take p).Nodup from ?_)) fun e he => ?_
    · refine List.pairwise_iff_getElem.2 fun x y hx hy hxy he => ?_
      rw [List.length_take] at hx hy
      rw [List.getElem_take, List.getElem_take] at he
      have hyl : L[y]? = some L[y] := List.getElem?_eq_getElem (by omega)
      have hxl : L[x]? = some L[x] := List.getElem?_eq_getElem (by omega)
      rw [he] at hxl
      have := hg.nodup x y _ hxl hyl
      omega
    · rw [List.mem_filter] at he
      obtain ⟨he1, he2⟩ := he
      rw [List.mem_iff_getElem?] at he1
      obtain ⟨q, hq⟩ := he1
      rw [List.getElem?_take] at hq
      split at hq
      case isFalse => cases hq
      rename_i hqp
      have hes : e < ops.size := by
        unfold effAt at he2
        cases hx : ops[e]? with
        | none => rw [hx] at he2; cases he2
        | some _ => exact (Array.getElem?_eq_some_iff.1 hx).1
      rw [List.mem_filter]
      refine ⟨(heffs e).2 ⟨hes, he2⟩, ?_⟩
      cases hb : (b.getD e 0).testBit j with
      | false => rfl
      | true =>
        obtain ⟨i, k1, k2⟩ := h.low q hqp
        rw [hq] at k1; cases k1
        have := (hg.anc _ _ hb).of_listed hc k2
        rw [hunf] at this; cases this

/-- One operation. -/
theorem Inv.step_ (hok : okOp P o = true) {Q : Exit → Act → World → Prop} {K : Act → World → Prop} (hk : ∀ a' w' p' M' N', Inv P ops L A acts C S ds w0 M0 (listed.setIfInBounds j true) a' w' p' M' N' → K a' w') : wpOp P ops Q j K a w := by
  have hql : q0 < L.length := (List.getElem?_eq_some_iff.1 hq0).1
  obtain ⟨hunf, hnd, hpq, hjs⟩ := h.unlisted hst hg hc hq0 ho hun hall
  have hops : ∀ x ∈ o.op.operands.toList, VR (below N (C q0).next) false (aev (acts q0) x) (a.eval x) := fun x hx => h.ops_ hst hg hc hq0 ho hun hall hok hx
  unfold wpOp
  rw [ho]
  simp only
  obtain ⟨i', o', g1, g2, _, g⟩ := hst q0 hql
  rw [hq0] at g1; cases g1
  rw [ho] at g2; cases g2
  rcases g with ⟨he, _, g⟩ | ⟨he, g⟩
  · have had := h.all_done hst hg hc hq0 ho hun hall he
    obtain ⟨b1, b2, b3⟩ := h.absorb hst q0 hpq (by omega) had fun q i h1 h2 hi => h.high q i h1 (had q h2) hi
    rcases g with ⟨gd, gA, gC⟩ | ⟨gd, gR⟩
    · have hw := h.guard hst hg hc hq0 ho hun hall gd
      rw [if_neg (by rw [hw]; simp)]
      obtain ⟨p', M', N', h1⟩ := h.ran hst hg hc hq0 ho hun hall he (v' := undef) (M' := below N (C q0).next) (w' := w) (by rw [gA]; exact .gone) (by rw [gC]; exact b1) (by rw [gC]; exact Step.refl _ _ _)
      exact hk _ _ _ _ _ h1
    · have hw := h.guard hst hg hc hq0 ho hun hall gd
      rw [if_pos hw]
      refine .inl (doAct_sound0 hok hops b1 (doAct_of_res gR) fun v v' σ' M' w' hv h2 h3 h4 => ?_)
      obtain ⟨rfl, rfl⟩ := hv
      obtain ⟨p', M'', N', h5⟩ := h.ran hst hg hc hq0 ho hun hall he h2 h3 h4
      exact hk _ _ _ _ _ h5
  · rcases g with ⟨gd, gA, gC⟩ | ⟨gd, x, gx, g⟩
    · have hw := h.guard hst hg hc hq0 ho hun hall gd
      rw [if_neg (by rw [hw]; simp)]
      refine hk _ _ _ _ _ (h.quiet hst hg hc hq0 ho hun hall he (fun ob hn => ?_) (by rw [gA]; exact .gone))
      have := (hn.is hq0 ho).2.1
      rw [gd] at this; cases this
    · have hw := h.guard hst hg hc hq0 ho hun hall gd
      rw [if_pos hw]
      have hs := op_sound hok hops gx
      refine .inl ?_
      unfold Oper.wp
      rcases g with ⟨v, rfl, gA, gC⟩ | ⟨ob, mk, rfl, gA, gC⟩ | ⟨f, rfl, gC, gf⟩
      · obtain ⟨v', h1, h2⟩ := hs
        rw [h2]
        refine hk _ _ _ _ _ (h.quiet hst hg hc hq0 ho hun hall he (fun ob hn => ?_) (by rw [gA]; exact h1))
        obtain ⟨_, _, mk, e⟩ := hn.is hq0 ho
        rw [gx] at e; cases e
      · obtain ⟨v', l, w', y, h1, h2, h3, h4, h5, h6, h7, h8⟩ := hs.2 w
        rw [h1]
        refine hk _ _ _ _ _ (h.made hst hg hc hq0 ho hun hall ⟨j, o, mk, hq0, ho, he, gd, gx⟩ h2 h3 h4 (fun N i hi e => ?_) h6 h7 h8)
        rw [gA, ← e]
        exact h5 N i hi
      · obtain ⟨k1, k2⟩ := h.counts hst hg hc hq0 ho hun hall
        have k3 := effCount_mono (ops := ops) (L := L) hpq
        have k4 := effCount_mono (ops := ops) (L := L) (Nat.le_of_lt hql)
        have hf := gf (effCount ops L p) k1 k2 (by omega) (by omega)
        rw [← h.base] at hf
        have hext : ∀ i l, M i = some l → i < (C p).next := fun i l hi => by
          rcases Nat.lt_or_ge i (C p).next with h0 | h0
          · exact h0
          · rw [h.rel.dom i h0] at hi; cases hi
        have hnl := next_le hst hpq (Nat.le_of_lt hql)
        have hMl : M.le (below N (C q0).next) := fun i l hi => by
          have := hext i l hi
          rw [below_eq (by omega), h.ext i this]; exact hi
        have hrel := h.rel.more hnl hMl (fun i x hi => by
          obtain ⟨l, hl, _⟩ := h.rel.shows i x hi
          exact ⟨l, hl, hMl i l hl⟩) (fun i hi => below_none N hi)
        obtain ⟨v', h1, h2⟩ := hs _ w (A q0) hrel hf
        rw [h2]
        refine hk _ _ _ _ _ (h.quiet hst hg hc hq0 ho hun hall he (fun ob hn => ?_) h1)
        obtain ⟨_, _, mk, e⟩ := hn.is hq0 ho
        rw [gx] at e; cases e
end
end Go.Am
end
section
/- The abstract machine, part 17: a region that draws its order. No program in sight. -/
set_option linter.all false
namespace Go.Am
open Go.RowKit
variable {P : Program} {ds : List Deferred}

section
variable {ops : Array Oper} {b : Array Nat} {L : List Nat} {A : Nat → Value} {acts : Nat → List Value} {C S : Nat → Store}
theorem closed_set {listed : Array Bool} (hc : Closed ops listed) {j : Nat} {o : Oper} (ho : ops[j]? = some o) (hall : ∀ e ∈ o.after, Region.binds .any e = true → listed.getD e.on false = true) : Closed ops (listed.setIfInBounds j true) := by
  intro k o' hk ho' e he hb
  by_cases e1 : k = j
  · subst e1
    rw [ho] at ho'; cases ho'
    exact getD_set_true (hall e he hb)
  · rw [getD_set_ne false (Ne.symm e1)] at hk
    exact getD_set_true (hc k o' hk ho' e he hb)
theorem ready_of_unlisted (hg : Good ops b L) {listed : Array Bool} (hsz : listed.size = ops.size) : ∀ (q i : Nat), L[q]? = some i → i < ops.size → listed.getD i true = false → Region.ready .any ops listed ≠ [] := by
  intro q
  induction q using Nat.strongRecOn with
  | ind q ih =>
    intro i hq hi hun
    obtain ⟨o, ho⟩ : ∃ o, ops[i]? = some o := ⟨ops[i], Array.getElem?_eq_getElem hi⟩
    by_cases hall : ∀ e ∈ o.after, Region.binds .any e = true → listed.getD e.on false = true
    · intro h0
      have : i ∈ Region.ready .any ops listed := mem_ready.2 ⟨hun, o, ho, hall⟩
      rw [h0] at this; cases this
    · simp only [Classical.not_forall] at hall
      obtain ⟨e, he, hb, hne⟩ := hall
      obtain ⟨q', h1, h2⟩ := hg.topo q i o hq ho e he hb
      by_cases hs : e.on < ops.size
      · refine ih q' h1 e.on h2 hs ?_
        have : e.on < listed.size := by omega
        simp [Array.getElem?_eq_getElem this] at hne ⊢
        exact hne
      · exact absurd (hg.bound q' e.on h2) hs

variable (hst : ∀ q, q < L.length → StepOk P ops b L A acts C S q) (hg : Good ops b L) (hok : ∀ o ∈ ops.toList, okOp P o = true) {w0 : World} {M0 : Places} {Q : Exit → Act → World → Prop}
include hst hg hok
theorem wpAny_inv (hQ : ∀ listed a w p M N, (∀ q, q < L.length → Done L listed q) → Inv P ops L A acts C S ds w0 M0 listed a w p M N → Q .normal a w) : ∀ (n : Nat) (l : List Nat) (listed : Array Bool) (a : Act) (w : World) (p : Nat) (M N : Places),
    l.length = n → listed.size = ops.size → (∀ k, k < ops.size → (listed.getD k true = false ↔ k ∈ l)) → (∀ k ∈ l, k < ops.size) → l.Nodup → Closed ops listed → Inv P ops L A acts C S ds w0 M0 listed a w p M N → wpAny P .any ops Q n listed a w
  | 0, l, listed, a, w, p, M, N, hl, hsz, hun, hlt, hnd, hc, h => by
    cases l with
    | cons x xs => simp at hl
    | nil =>
      refine ⟨?_, hQ listed a w p M N (fun q hq => ?_) h⟩
      · cases hr : Region.ready .any ops listed with
        | nil => rfl
        | cons x xs =>
          have hx : x ∈ Region.ready .any ops listed := by rw [hr]; exact List.mem_cons_self
          obtain ⟨h0, o, hxo, _⟩ := mem_ready.1 hx
          have := (hun x (Array.getElem?_eq_some_iff.1 hxo).1).1 h0
          simp at this
      · have hLq : L[q]? = some L[q] := List.getElem?_eq_getElem hq
        obtain ⟨i, o, g1, g2, _⟩ := hst q hq
        have hi := (Array.getElem?_eq_some_iff.1 g2).1
        refine ⟨i, g1, ?_⟩
        have := hun i hi
        have hil : i < listed.size := by omega
        simp [Array.getElem?_eq_getElem hil] at this ⊢
        exact this
  | n + 1, l, listed, a, w, p, M, N, hl, hsz, hun, hlt, hnd, hc, h => by
    refine ⟨fun h0 => ?_, fun j hj => ?_⟩
    · exfalso
      cases l with
      | nil => simp at hl
      | cons x xs =>
        have hxl := hlt x List.mem_cons_self
        obtain ⟨q, hq⟩ := hg.all x hxl
        exact ready_of_unlisted hg hsz q x hq hxl ((hun x hxl).2 List.mem_cons_self) h0
    · obtain ⟨hju, oj, hoj, hall⟩ := mem_ready.1 hj
      have hjs : j < ops.size := (Array.getElem?_eq_some_iff.1 hoj).1
      obtain ⟨q0, hq0⟩ := hg.all j hjs
      have hjl : j ∈ l := (hun j hjs).1 hju
      refine h.step_ hst hg hc hq0 hoj hju hall (hok oj (by rw [← Array.mem_def]; exact Array.mem_of_getElem? hoj)) fun a' w' p' M' N' h' => ?_
      refine wpAny_inv hQ n (l.erase j) _ a' w' p' M' N' (by rw [List.length_erase_of_mem hjl]; omega) (by simpa using hsz) (fun k hk => ?_) (fun k hk => hlt k (List.mem_of_mem_erase hk)) (hnd.erase j) (closed_set hc hoj hall) h'
      by_cases hkj : k = j
      · subst hkj
        have hks : k < listed.size := by omega
        constructor
        · intro hf; simp [hks] at hf
        · intro hm; exact absurd hm (List.Nodup.not_mem_erase hnd)
      · rw [getD_set_ne true (Ne.symm hkj), hun k hk, List.mem_erase_of_ne hkj]
omit hok in
theorem Inv.final {listed : Array Bool} {a : Act} {w : World} {p : Nat} {M N : Places} (hd : ∀ q, q < L.length → Done L listed q) (h : Inv P ops L A acts C S ds w0 M0 listed a w p M N) :
    ∃ M', ActR ds M' (acts L.length) a ∧ Rel M' (C L.length) w ∧ Step (C 0) M0 w0 (C L.length) M' w := by
  obtain ⟨b1, b2, _⟩ := h.absorb hst L.length h.pn (Nat.le_refl _) hd fun q i h1 h2 hi => h.high q i h1 (hd q h2) hi
  refine ⟨_, ⟨fun t v hv => ?_, h.defers⟩, b1, b2⟩
  have ht : t < (acts 0).length := by
    have := (List.getElem?_eq_some_iff.1 hv).1
    rw [acts_len hst _ (Nat.le_refl _)] at this
    exact this
  have hget : aget (acts L.length) t = v := by simp [aget, hv]
  obtain ⟨v', h1, h2⟩ := h.tmp t ht
  refine ⟨v', h1, ?_⟩
  rw [← hget]
  rcases h2 with ⟨q, d1, d2, d3, d4⟩ | ⟨d1, d2⟩
  · rcases last_writer hst ht L.length (Nat.le_refl _) with ⟨q', e1, e2, e3, e4⟩ | ⟨e1, _⟩
    · have h3 := e4 q d1.lt d2
      have h4 := d3 q' (hd q' e1) e2
      have : q' = q := by omega
      subst this
      rw [e3]
      exact d4.mono (below_le N (next_le hst (by omega) (Nat.le_refl _)))
    · exact absurd d2 (e1 q d1.lt)
  · rcases last_writer hst ht L.length (Nat.le_refl _) with ⟨q', e1, e2, _, _⟩ | ⟨_, e2⟩
    · exact absurd e2 (d1 q' (hd q' e1))
    · rw [e2]
      exact d2.mono (below_le N (next_le hst (Nat.zero_le _) (Nat.le_refl _)))
end

theorem draw_sound {M : Places} {σ : Store} {w : World} {id : Nat} {ops : Array Oper} {K : List Value → Store → Prop} {Q : Exit → Act → World → Prop} (hok : okDraw P ops = true) {act : List Value} {a : Act} (hact : ActR ds M act a) (hr : Rel M σ w)
    (h : drawOps (PI P) P ops (CheckFast.beforeF ops) (canon ops (CheckFast.beforeF ops)) K act [σ] σ [])
    (hq : ∀ act' σ' M' w' a', K act' σ' → ActR ds M' act' a' → Rel M' σ' w' → Step σ M w σ' M' w' → Q .normal a' w') : (Code.region id ops true).wp P Q a w := by
  obtain ⟨h1, h2, hg⟩ := good_of_ok hok
  obtain ⟨A, acts, C, S, e1, e2, e3, e4, e5, _⟩ := extract (L := canon ops (CheckFast.beforeF ops)) (canon ops (CheckFast.beforeF ops)) [] act [σ] σ [] (by simp) (by simp [effCount]) h
  simp only [List.length_nil] at e1 e2 e5
  have hst := fun q hq => e5 q (Nat.zero_le _) hq
  refine wp_region_any h1 ?_
  have hr' : Rel M (C 0) { w with drawn := w.drawn + 1 } := by rw [e2]; exact hr.of_heap rfl
  have hbel : below M (C 0).next = M := by
    funext i
    unfold below
    split
    · rfl
    · rename_i hi; exact (hr'.dom i (by omega)).symm
  have hnd : ∀ q, ¬ Done (canon ops (CheckFast.beforeF ops)) (Array.replicate ops.size false) q := by
    rintro q ⟨i, _, hi⟩
    by_cases hs : i < ops.size
    · simp [hs] at hi
    · simp [hs] at hi
  refine wpAny_inv (ds := ds) hst hg h2 (w0 := { w with drawn := w.drawn + 1 }) (M0 := M) (Q := Q) (fun listed a' w' p M' N hd hinv => ?_) ops.size (List.range ops.size) _ a _ 0 M M (by simp) (by simp) (fun k hk => by simp [hk]) (fun k hk => List.mem_range.1 hk) List.nodup_range
    (fun k o hk => by
      exfalso
      by_cases hs : k < ops.size
      · simp [hs] at hk
      · simp [hs] at hk) ?_
  · obtain ⟨M2, k1, k2, k3⟩ := hinv.final hst hg hd
    rw [e2] at k3
    exact hq _ _ M2 w' a' e4 k1 k2 ((Step.of_heap (w := w) (w' := { w with drawn := w.drawn + 1 }) rfl rfl rfl rfl).trans k3)
  · refine ⟨Nat.zero_le _, ?_, fun q hq => absurd hq (Nat.not_lt_zero _), fun q i _ hd => absurd hd (hnd q), hr', fun _ _ => rfl, fun q ob _ hd => absurd hd (hnd q), fun q _ _ _ _ _ _ _ _ hd => absurd hd (hnd q), fun i hi hn => absurd (hr'.dom i hi) hn, fun t ht => ?_, hact.none_, Step.refl _ _ _⟩
    · rw [e2]
      exact (e3 _ σ (by simp [effCount])).symm
    · rw [e1] at ht
      obtain ⟨v', k1, k2⟩ := hact.vals t act[t] (List.getElem?_eq_getElem ht)
      refine ⟨v', k1, .inr ⟨fun q hd => absurd hd (hnd q), ?_⟩⟩
      rw [hbel, e1]
      simpa [aget, ht] using k2
end Go.Am
end
