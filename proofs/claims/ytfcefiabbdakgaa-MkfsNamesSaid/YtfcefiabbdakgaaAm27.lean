/- The abstract machine, part 27: regions of resolved operations. No program in sight. -/
import Derived.Test.YtfcefiabbdakgaaAm26
set_option linter.all false
namespace Go.Am
open Go.RowKit
variable {P : Program}

/-! ## how an operation goes on -/
def vop (x : Option Value) (σ : Store) (K : Value → Store → Prop) : Prop := match x with | some v => K v σ | none => False
def nop (x : Option (SObj × (Nat → Value))) (σ : Store) (K : Value → Store → Prop) : Prop := match x with | some (o, mk) => K (mk σ.next) (σ.push o) | none => False
def eop (x : Option (Value × Store)) (K : Value → Store → Prop) : Prop := match x with | some (v, s) => K v s | none => False
def cop (P : Program) (x : Option (FuncId × List Value)) (σ : Store) (K : Value → Store → Prop) : Prop := match x with | some (f, as) => Does P f as σ K | none => False
def gv (v : Value) (want : Bool) : Option Bool := match v with | .bool b => some (b == want) | .chan (some _) => some false | _ => none
def gop (v : Value) (want : Bool) (σ : Store) (A : (Value → Store → Prop) → Prop) (K : Value → Store → Prop) : Prop :=
  (match gv v want with
  | some true => A
  | some false => fun K => K gone σ
  | none => fun _ => False) K
/-- What was read is read again. -/
def kop (x : Option Value) (v : Value) (p : Prop) : Prop := x = some v ∧ p
def doH (P : Program) (h : ActH) (σ : Store) (K : Value → Store → Prop) : Prop :=
  match h with
  | .fail => False
  | .mv v => K v σ
  | .val x => vop x σ K
  | .rd f => vop (f σ.get) σ K
  | .new x => nop x σ K
  | .eff f => eop (f σ) K
  | .call x => cop P x σ K
theorem doH_sound {h : ActH} {x : Option Action} {σ : Store} {K : Value → Store → Prop} (hf : Fits h x) (hh : doH P h σ K) : doAct (PI P) x σ K := by
  cases h with
  | fail => exact hh.elim
  | mv v => rw [show x = _ from hf]; exact hh
  | val y =>
    simp only [doH, vop] at hh
    split at hh
    · rw [hf _ rfl]; exact hh
    · exact hh.elim
  | rd f =>
    simp only [doH, vop] at hh
    split at hh
    · rename_i v hv
      rcases hf with ⟨f', rfl, h2⟩ | h2
      · simp only [doAct, h2 _ _ hv]; exact hh
      · rw [h2] at hv; cases hv
    · exact hh.elim
  | new y =>
    simp only [doH, nop] at hh
    split at hh
    · rw [hf _ _ rfl]; exact hh
    · exact hh.elim
  | eff f =>
    simp only [doH, eop] at hh
    split at hh
    · rename_i v s hv
      rcases hf with ⟨f', rfl, h2⟩ | h2
      · simp only [doAct, h2 _ _ hv]; exact hh
      · rw [h2] at hv; cases hv
    · exact hh.elim
  | call y =>
    simp only [doH, cop] at hh
    split at hh
    · rw [hf _ _ rfl]; exact hh
    · exact hh.elim
theorem doH_mono {h : ActH} {σ : Store} {K K' : Value → Store → Prop} (hk : ∀ v s, K v s → K' v s) (hh : doH P h σ K) : doH P h σ K' := by
  cases h with
  | fail => exact hh
  | mv v => exact hk _ _ hh
  | val y => simp only [doH, vop] at hh ⊢; split at hh <;> first | exact hk _ _ hh | exact hh
  | rd f => simp only [doH, vop] at hh ⊢; split at hh <;> first | exact hk _ _ hh | exact hh
  | new y => simp only [doH, nop] at hh ⊢; split at hh <;> first | exact hk _ _ hh | exact hh
  | eff f => simp only [doH, eop] at hh ⊢; split at hh <;> first | exact hk _ _ hh | exact hh
  | call y => simp only [doH, cop] at hh ⊢; split at hh <;> first | exact Does.mono hh hk | exact hh
theorem doH_lin {h : ActH} {σ : Store} {K : Value → Store → Prop} (hh : doH P h σ K) : ∃ v σ', K v σ' ∧ doH P h σ fun v2 σ2 => v2 = v ∧ σ2 = σ' := by
  cases h with
  | fail => exact hh.elim
  | mv v => exact ⟨_, _, hh, rfl, rfl⟩
  | val y => simp only [doH, vop] at hh ⊢; split at hh <;> first | exact ⟨_, _, hh, rfl, rfl⟩ | exact hh.elim
  | rd f => simp only [doH, vop] at hh ⊢; split at hh <;> first | exact ⟨_, _, hh, rfl, rfl⟩ | exact hh.elim
  | new y => simp only [doH, nop] at hh ⊢; split at hh <;> first | exact ⟨_, _, hh, rfl, rfl⟩ | exact hh.elim
  | eff f => simp only [doH, eop] at hh ⊢; split at hh <;> first | exact ⟨_, _, hh, rfl, rfl⟩ | exact hh.elim
  | call y =>
    simp only [doH, cop] at hh ⊢
    split at hh
    · obtain ⟨r, σ', h1, h2⟩ := hh
      exact ⟨r, σ', h2, r, σ', h1, rfl, rfl⟩
    · exact hh.elim

/-! ## a region in the order of its text -/
def gslot (ops : Array Oper) (o : Oper) : Option (Option (Nat × Bool)) :=
  match o.guard with
  | none => some none
  | some (j, want) => match (ops[j]?).bind (·.dst) with | some t => some (some (t, want)) | none => none
theorem gop_eq {v : Value} {want : Bool} {σ : Store} {A : (Value → Store → Prop) → Prop} {K : Value → Store → Prop} : gop v want σ A K = match gv v want with
      | some true => A K
      | some false => K gone σ
      | none => False := by
  unfold gop
  cases gv v want with
  | none => rfl
  | some b => cases b <;> rfl
theorem gslot_none {ops : Array Oper} {a : List Value} {o : Oper} (h : gslot ops o = some none) : guardA ops a o = some true := by
  unfold gslot at h
  unfold guardA
  split at h
  · rename_i h0; rw [h0]
  · split at h <;> cases h
theorem gslot_some {ops : Array Oper} {a : List Value} {o : Oper} {t : Nat} {want : Bool} (h : gslot ops o = some (some (t, want))) : guardA ops a o = gv (aget a t) want := by
  unfold gslot at h
  unfold guardA
  split at h
  · cases h
  · rename_i j w h0
    rw [h0]
    simp only
    split at h
    · rename_i t' ht'
      simp only [Option.some.injEq, Prod.mk.injEq] at h
      obtain ⟨rfl, rfl⟩ := h
      rw [ht']
      rfl
    · cases h
/-- An operation, if it is wanted. -/
def oneE (P : Program) (ops : Array Oper) (e : Operand → Value) (g : Nat → Value) (o : Oper) (σ : Store) (K : Value → Store → Prop) : Prop :=
  match gslot ops o with
  | some none => doH P (actH P o e) σ K
  | some (some (t, want)) => gop (g t) want σ (fun K => doH P (actH P o e) σ K) K
  | none => False
def oneH (P : Program) (ops : Array Oper) (a : List Value) (o : Oper) (σ : Store) (K : Value → Store → Prop) : Prop := oneE P ops (aev a) (aget a) o σ K
theorem oneH_eq {ops : Array Oper} {a : List Value} {o : Oper} {σ : Store} {K : Value → Store → Prop} (h : oneH P ops a o σ K) : (guardA ops a o = some true ∧ doH P (actH P o (aev a)) σ K) ∨ (guardA ops a o = some false ∧ K gone σ) := by
  unfold oneH oneE at h
  split at h
  · rename_i hs; exact .inl ⟨gslot_none hs, h⟩
  · rename_i t want hs
    rw [gslot_some hs]
    rw [gop_eq] at h
    split at h
    · rename_i hv; exact .inl ⟨hv, h⟩
    · rename_i hv; exact .inr ⟨hv, h⟩
    · exact h.elim
  · exact h.elim
theorem oneH_true {ops : Array Oper} {a : List Value} {o : Oper} {σ : Store} {K K' : Value → Store → Prop} (h : oneH P ops a o σ K) (hg : guardA ops a o = some true) (h' : doH P (actH P o (aev a)) σ K') : oneH P ops a o σ K' := by
  unfold oneH oneE at h ⊢
  split at h
  · exact h'
  · rename_i hs
    rw [gslot_some hs] at hg
    rw [gop_eq, hg]
    exact h'
  · exact h.elim
theorem oneH_false {ops : Array Oper} {a : List Value} {o : Oper} {σ : Store} {K K' : Value → Store → Prop} (h : oneH P ops a o σ K) (hg : guardA ops a o = some false) (h' : K' gone σ) : oneH P ops a o σ K' := by
  unfold oneH oneE at h ⊢
  split at h
  · rename_i hs; rw [gslot_none hs] at hg; cases hg
  · rename_i hs
    rw [gslot_some hs] at hg
    rw [gop_eq, hg]
    exact h'
  · exact h.elim
theorem oneH_sound {ops : Array Oper} {a : List Value} {o : Oper} {σ : Store} {K : Value → Store → Prop} (h : oneH P ops a o σ K) : match guardA ops a o with
      | some true => doAct (PI P) (action P o (aev a)) σ K
      | some false => K gone σ
      | none => False := by
  rcases oneH_eq h with ⟨h1, h2⟩ | ⟨h1, h2⟩
  · rw [h1]; exact doH_sound actH_fits h2
  · rw [h1]; exact h2
theorem oneH_mono {ops : Array Oper} {a : List Value} {o : Oper} {σ : Store} {K K' : Value → Store → Prop} (hk : ∀ v s, K v s → K' v s) (h : oneH P ops a o σ K) : oneH P ops a o σ K' := by
  rcases oneH_eq h with ⟨h1, h2⟩ | ⟨h1, h2⟩
  · exact oneH_true h h1 (doH_mono hk h2)
  · exact oneH_false h h1 (hk _ _ h2)
theorem oneH_lin {ops : Array Oper} {a : List Value} {o : Oper} {σ : Store} {K : Value → Store → Prop} (h : oneH P ops a o σ K) : ∃ v σ', K v σ' ∧ oneH P ops a o σ fun v2 σ2 => v2 = v ∧ σ2 = σ' := by
  rcases oneH_eq h with ⟨h1, h2⟩ | ⟨h1, h2⟩
  · obtain ⟨v, σ', k1, k2⟩ := doH_lin h2
    exact ⟨v, σ', k1, oneH_true h h1 k2⟩
  · exact ⟨gone, σ, h2, oneH_false h h1 ⟨rfl, rfl⟩⟩
def seqH (P : Program) (ops : Array Oper) : List Oper → (List Value → Store → Prop) → List Value → Store → Prop
  | [], K, a, σ => K a σ
  | o :: rest, K, a, σ => oneH P ops a o σ fun v σ' => seqH P ops rest K (aput a o.dst v) σ'
theorem seqH_sound {ops : Array Oper} : ∀ {l : List Oper} {K : List Value → Store → Prop} {a : List Value} {σ : Store}, seqH P ops l K a σ → seqOps (PI P) P ops l K a σ
  | [], _, _, _, h => h
  | o :: rest, K, a, σ, h => by
    have h := oneH_sound (oneH_mono (fun v s hh => seqH_sound hh) h)
    unfold seqOps
    exact h
theorem seqH_mono {ops : Array Oper} : ∀ {l : List Oper} {K K' : List Value → Store → Prop} {a : List Value} {σ : Store}, (∀ a s, K a s → K' a s) → seqH P ops l K a σ → seqH P ops l K' a σ
  | [], _, _, _, _, hk, h => hk _ _ h
  | o :: rest, K, K', a, σ, hk, h => oneH_mono (fun v s hh => seqH_mono hk hh) h
theorem seqH_lin {ops : Array Oper} : ∀ {l : List Oper} {K : List Value → Store → Prop} {a : List Value} {σ : Store}, seqH P ops l K a σ → ∃ a' σ', K a' σ' ∧ seqH P ops l (fun a2 σ2 => a2 = a' ∧ σ2 = σ') a σ
  | [], K, a, σ, h => ⟨a, σ, h, rfl, rfl⟩
  | o :: rest, K, a, σ, h => by
    obtain ⟨v, σ1, h1, h2⟩ := oneH_lin h
    obtain ⟨a', σ', k1, k2⟩ := seqH_lin h1
    refine ⟨a', σ', k1, oneH_mono (fun v2 s2 hh => ?_) h2⟩
    obtain ⟨rfl, rfl⟩ := hh
    exact k2

/-! ## a region that draws its order -/
abbrev Fl := List (Nat × ((Nat → Option SObj) → Option Value) × Value)
def checkAllH (f : (Nat → Option SObj) → Option Value) (v : Value) : List Store → Prop → Prop
  | [], r => r
  | s :: ss, r => kop (f s.get) v (checkAllH f v ss r)
def recheckH (k : Nat) (s : Store) : Fl → Prop → Prop
  | [], r => r
  | (hi, f, v) :: fl, r => bif Nat.ble k hi then kop (f s.get) v (recheckH k s fl r) else recheckH k s fl r
/-- What is read, if it is wanted. -/
def gsel (c : Value) (want : Bool) (f : (Nat → Option SObj) → Option Value) (g : Nat → Option SObj) : Option Value := match gv c want with | some true => f g | some false => some gone | none => none
def drawH (P : Program) (ops : Array Oper) (b : Array Nat) : List Nat → (List Value → Store → Prop) → List Value → List Store → Store → Fl → Prop
  | [], K, a, _, cur, _ => K a cur
  | i :: rest, K, a, past, cur, fl =>
    match ops[i]? with
    | none => False
    | some o =>
      bif isEff o.op then oneH P ops a o cur fun v s => recheckH past.length s fl (drawH P ops b rest K (aput a o.dst v) (past ++ [s]) s fl)
      else
        match actH P o (aev a) with
        | .rd f =>
          (fun (nofl : Bool) =>
            match gslot ops o with
            | some none => vop (f (past.getLastD cur).get) cur fun v _ => checkAllH f v ((past.drop (lowOf ops b i)).dropLast) (drawH P ops b rest K (aput a o.dst v) past cur (bif nofl then fl else (highOf ops b i, f, v) :: fl))
            | some (some (t, want)) => gop (aget a t) want cur (fun K => vop (f (past.getLastD cur).get) cur K) fun v _ => checkAllH (gsel (aget a t) want f) v ((past.drop (lowOf ops b i)).dropLast) (drawH P ops b rest K (aput a o.dst v) past cur (bif nofl then fl else (highOf ops b i, gsel (aget a t) want f, v) :: fl))
            | none => False) (Nat.blt (highOf ops b i + 1) past.length || Nat.beq (highOf ops b i + 1) past.length)
        | .eff _ => False
        | .call _ => False
        | .fail => False
        | _ => oneH P ops a o cur fun v s => drawH P ops b rest K (aput a o.dst v) past s fl
inductive FlLe : Fl → Fl → Prop
  | nil : FlLe [] []
  | skip (hi : Nat) (f : (Nat → Option SObj) → Option Value) (v : Value) (fl fl' : Fl) (hl : FlLe fl fl') : FlLe ((hi, f, v) :: fl) fl'
  | cons (hi : Nat) (f f' : (Nat → Option SObj) → Option Value) (v : Value) (fl fl' : Fl) (h : ∀ g v, f g = some v → f' g = some v) (hl : FlLe fl fl') : FlLe ((hi, f, v) :: fl) ((hi, f', v) :: fl')
theorem recheckH_sound {k : Nat} {s : Store} {r r' : Prop} {fl fl' : Fl} (hl : FlLe fl fl') (hr : r → r') (h : recheckH k s fl r) : recheck (PI P) k s fl' r' := by
  induction hl with
  | nil => exact hr h
  | skip hi f v fl fl' hl ih =>
    unfold recheckH at h
    cases hb : Nat.ble k hi with
    | true => rw [hb] at h; exact ih h.2
    | false => rw [hb] at h; exact ih h
  | cons hi f f' v fl fl' hff hl ih =>
    unfold recheckH at h
    unfold recheck
    cases hb : Nat.ble k hi with
    | true => rw [hb] at h; exact ⟨hff _ _ h.1, ih h.2⟩
    | false => rw [hb] at h; exact ih h
theorem checkAllH_sound {f f' : (Nat → Option SObj) → Option Value} {v : Value} (hff : ∀ g v, f g = some v → f' g = some v) : ∀ {ss : List Store} {r r' : Prop}, (r → r') → checkAllH f v ss r → checkAll (PI P) f' v ss r'
  | [], _, _, hr, h => hr h
  | s :: ss, r, r', hr, h => ⟨hff _ _ h.1, checkAllH_sound hff hr h.2⟩
theorem recheckH_mk {k : Nat} {s : Store} : ∀ {fl : Fl} {r r' : Prop}, recheckH k s fl r → (r → r') → recheckH k s fl r'
  | [], _, _, h, hr => hr h
  | (hi, f, v) :: fl, r, r', h, hr => by
    unfold recheckH at h ⊢
    cases hb : Nat.ble k hi <;> rw [hb] at h
    · exact recheckH_mk h hr
    · exact ⟨h.1, recheckH_mk h.2 hr⟩
theorem recheckH_out {k : Nat} {s : Store} : ∀ {fl : Fl} {r : Prop}, recheckH k s fl r → r
  | [], _, h => h
  | (hi, f, v) :: fl, r, h => by
    unfold recheckH at h
    cases hb : Nat.ble k hi <;> rw [hb] at h
    · exact recheckH_out h
    · exact recheckH_out h.2
theorem checkAllH_mk {f : (Nat → Option SObj) → Option Value} {v : Value} : ∀ {ss : List Store} {r r' : Prop}, checkAllH f v ss r → (r → r') → checkAllH f v ss r'
  | [], _, _, h, hr => hr h
  | s :: ss, r, r', h, hr => ⟨h.1, checkAllH_mk h.2 hr⟩
theorem checkAllH_out {f : (Nat → Option SObj) → Option Value} {v : Value} : ∀ {ss : List Store} {r : Prop}, checkAllH f v ss r → r
  | [], _, h => h
  | s :: ss, r, h => checkAllH_out h.2
theorem drawH_sound {ops : Array Oper} {b : Array Nat} : ∀ {l : List Nat} {K : List Value → Store → Prop} {a : List Value} {past : List Store} {cur : Store} {fl fl' : Fl}, FlLe fl fl' → drawH P ops b l K a past cur fl → drawOps (PI P) P ops b l K a past cur fl'
  | [], _, _, _, _, _, _, _, h => h
  | i :: rest, K, a, past, cur, fl, fl', hfl, h => by
    unfold drawH at h
    unfold drawOps
    cases ho : ops[i]? with
    | none => rw [ho] at h; exact h.elim
    | some o =>
      rw [ho] at h
      simp only at h ⊢
      cases he : isEff o.op with
      | true =>
        rw [he] at h
        simp only [cond_true] at h ⊢
        exact oneH_sound (oneH_mono (fun v s hh => recheckH_sound hfl (fun h => drawH_sound hfl h) hh) h)
      | false =>
        rw [he] at h
        simp only [cond_false] at h ⊢
        have hfit := actH_fits (P := P) (o := o) (e := aev a)
        have one : (∀ f, actH P o (aev a) ≠ .rd f) → (∀ f, actH P o (aev a) ≠ .eff f) → (∀ f, actH P o (aev a) ≠ .call f) → oneH P ops a o cur (fun v s => drawH P ops b rest K (aput a o.dst v) past s fl) →
            (match guardA ops a o with
            | none => False
            | some false => drawOps (PI P) P ops b rest K (aput a o.dst gone) past cur fl'
            | some true =>
              match action P o (aev a) with
              | some (.val v) => drawOps (PI P) P ops b rest K (aput a o.dst v) past cur fl'
              | some (.new ob mk) => drawOps (PI P) P ops b rest K (aput a o.dst (mk cur.next)) past (cur.push ob) fl'
              | some (.rd f) =>
                match f (past.getLastD cur).get with
                | none => False
                | some v =>
                  checkAll (PI P) f v ((past.drop (lowOf ops b i)).dropLast)
                    (drawOps (PI P) P ops b rest K (aput a o.dst v) past cur (bif Nat.blt (highOf ops b i + 1) past.length || Nat.beq (highOf ops b i + 1) past.length then fl' else (highOf ops b i, f, v) :: fl'))
              | _ => False) := by
          intro n1 n2 n3 h
          rcases oneH_eq h with ⟨h1, h2⟩ | ⟨h1, h2⟩
          · simp only [h1]
            cases hA : actH P o (aev a) with
            | rd f => exact absurd hA (n1 f)
            | eff f => exact absurd hA (n2 f)
            | call f => exact absurd hA (n3 f)
            | fail => rw [hA] at h2; exact h2.elim
            | mv v =>
              rw [hA] at h2 hfit
              rw [show action P o (aev a) = _ from hfit]
              exact drawH_sound hfl h2
            | val y =>
              rw [hA] at h2 hfit
              simp only [doH, vop] at h2
              split at h2
              · rw [hfit _ rfl]; exact drawH_sound hfl h2
              · exact h2.elim
            | new y =>
              rw [hA] at h2 hfit
              simp only [doH, nop] at h2
              split at h2
              · rw [hfit _ _ rfl]; exact drawH_sound hfl h2
              · exact h2.elim
          · simp only [h1]
            exact drawH_sound hfl h2
        cases hA : actH P o (aev a) with
        | rd f =>
          rw [hA] at h hfit
          simp only at h
          split at h
          · rename_i hgs
            simp only [vop] at h
            split at h
            · rename_i v hv
              rcases hfit with ⟨f', hx, hff⟩ | hno
              · simp only [gslot_none hgs, hx, hff _ _ hv]
                refine checkAllH_sound hff (fun hh => drawH_sound ?_ hh) h
                cases hb : (Nat.blt (highOf ops b i + 1) past.length || Nat.beq (highOf ops b i + 1) past.length) with
                | true => exact hfl
                | false => exact .cons _ _ _ _ _ _ hff hfl
              · rw [hno] at hv; cases hv
            · exact h.elim
          · rename_i t want hgs
            rw [gslot_some hgs]
            rw [gop_eq] at h
            cases hgv : gv (aget a t) want with
            | none => rw [hgv] at h; exact h.elim
            | some c =>
              rw [hgv] at h
              cases c with
              | true =>
                simp only [vop] at h
                split at h
                · rename_i v hv
                  rcases hfit with ⟨f', hx, hff⟩ | hno
                  · have hff' : ∀ g v, gsel (aget a t) want f g = some v → f' g = some v := fun g v hh => by
                      unfold gsel at hh
                      rw [hgv] at hh
                      exact hff _ _ hh
                    simp only [hx, hff _ _ hv]
                    refine checkAllH_sound hff' (fun hh => drawH_sound ?_ hh) h
                    cases hb : (Nat.blt (highOf ops b i + 1) past.length || Nat.beq (highOf ops b i + 1) past.length) with
                    | true => exact hfl
                    | false => exact .cons _ _ _ _ _ _ hff' hfl
                  · rw [hno] at hv; cases hv
                · exact h.elim
              | false =>
                refine drawH_sound ?_ (checkAllH_out h)
                cases hb : (Nat.blt (highOf ops b i + 1) past.length || Nat.beq (highOf ops b i + 1) past.length) with
                | true => exact hfl
                | false => exact .skip _ _ _ _ _ hfl
          · exact h.elim
        | eff f => rw [hA] at h; exact h.elim
        | call y => rw [hA] at h; exact h.elim
        | fail => rw [hA] at h; exact h.elim
        | mv v => rw [hA] at h; exact one (by simp [hA]) (by simp [hA]) (by simp [hA]) h
        | val y => rw [hA] at h; exact one (by simp [hA]) (by simp [hA]) (by simp [hA]) h
        | new y => rw [hA] at h; exact one (by simp [hA]) (by simp [hA]) (by simp [hA]) h
theorem drawH_mono {ops : Array Oper} {b : Array Nat} : ∀ {l : List Nat} {K K' : List Value → Store → Prop} {a : List Value} {past : List Store} {cur : Store} {fl : Fl}, (∀ a s, K a s → K' a s) → drawH P ops b l K a past cur fl → drawH P ops b l K' a past cur fl
  | [], _, _, _, _, _, _, hk, h => hk _ _ h
  | i :: rest, K, K', a, past, cur, fl, hk, h => by
    unfold drawH at h ⊢
    cases ho : ops[i]? with
    | none => rw [ho] at h; exact h
    | some o =>
      rw [ho] at h
      simp only at h ⊢
      cases he : isEff o.op <;> rw [he] at h <;> simp only [cond_true, cond_false] at h ⊢
      · cases hA : actH P o (aev a) with
        | rd f =>
          rw [hA] at h
          simp only at h ⊢
          cases hgs : gslot ops o with
          | none => rw [hgs] at h; exact h
          | some gs =>
            rw [hgs] at h
            cases gs with
            | none =>
              simp only [vop] at h ⊢
              split at h
              · exact checkAllH_mk h fun hh => drawH_mono hk hh
              · exact h
            | some tw =>
              obtain ⟨t, want⟩ := tw
              simp only at h ⊢
              rw [gop_eq] at h ⊢
              cases hgv : gv (aget a t) want with
              | none => rw [hgv] at h; exact h
              | some c =>
                rw [hgv] at h
                cases c with
                | true =>
                  simp only [vop] at h ⊢
                  split at h
                  · exact checkAllH_mk h fun hh => drawH_mono hk hh
                  · exact h
                | false => exact checkAllH_mk h fun hh => drawH_mono hk hh
        | eff f => rw [hA] at h; exact h
        | call y => rw [hA] at h; exact h
        | fail => rw [hA] at h; exact h
        | mv v => rw [hA] at h; exact oneH_mono (fun v s hh => drawH_mono hk hh) h
        | val y => rw [hA] at h; exact oneH_mono (fun v s hh => drawH_mono hk hh) h
        | new y => rw [hA] at h; exact oneH_mono (fun v s hh => drawH_mono hk hh) h
      · exact oneH_mono (fun v s hh => recheckH_mk hh (drawH_mono hk)) h
theorem drawH_lin {ops : Array Oper} {b : Array Nat} : ∀ {l : List Nat} {K : List Value → Store → Prop} {a : List Value} {past : List Store} {cur : Store} {fl : Fl}, drawH P ops b l K a past cur fl → ∃ a' σ', K a' σ' ∧ drawH P ops b l (fun a2 σ2 => a2 = a' ∧ σ2 = σ') a past cur fl
  | [], K, a, past, cur, fl, h => ⟨a, cur, h, rfl, rfl⟩
  | i :: rest, K, a, past, cur, fl, h => by
    unfold drawH at h
    cases ho : ops[i]? with
    | none => rw [ho] at h; exact h.elim
    | some o =>
      rw [ho] at h
      simp only at h
      cases he : isEff o.op with
      | true =>
        rw [he] at h
        simp only [cond_true] at h
        obtain ⟨v, σ1, h1, h2⟩ := oneH_lin h
        obtain ⟨a', σ', k1, k2⟩ := drawH_lin (recheckH_out h1)
        refine ⟨a', σ', k1, ?_⟩
        unfold drawH
        simp only [ho, he, cond_true]
        refine oneH_mono (fun v2 s2 hh => ?_) h2
        obtain ⟨rfl, rfl⟩ := hh
        exact recheckH_mk h1 fun _ => k2
      | false =>
        rw [he] at h
        simp only [cond_false] at h
        have one : (∀ f, actH P o (aev a) ≠ .rd f) → (∀ f, actH P o (aev a) ≠ .eff f) → (∀ f, actH P o (aev a) ≠ .call f) → actH P o (aev a) ≠ .fail → oneH P ops a o cur (fun v s => drawH P ops b rest K (aput a o.dst v) past s fl) → ∃ a' σ', K a' σ' ∧ drawH P ops b (i :: rest) (fun a2 σ2 => a2 = a' ∧ σ2 = σ') a past cur fl := by
          intro n1 n2 n3 n4 h
          obtain ⟨v, σ1, h1, h2⟩ := oneH_lin h
          obtain ⟨a', σ', k1, k2⟩ := drawH_lin h1
          refine ⟨a', σ', k1, ?_⟩
          unfold drawH
          simp only [ho, he, cond_false]
          have h3 : oneH P ops a o cur fun v s => drawH P ops b rest (fun a2 σ2 => a2 = a' ∧ σ2 = σ') (aput a o.dst v) past s fl := oneH_mono (fun v2 s2 hh => by obtain ⟨rfl, rfl⟩ := hh; exact k2) h2
          cases hA : actH P o (aev a) with
          | rd f => exact absurd hA (n1 f)
          | eff f => exact absurd hA (n2 f)
          | call f => exact absurd hA (n3 f)
          | fail => exact absurd hA n4
          | _ => exact h3
        cases hA : actH P o (aev a) with
        | rd f =>
          rw [hA] at h
          simp only at h
          cases hgs : gslot ops o with
          | none => rw [hgs] at h; exact h.elim
          | some gs =>
            rw [hgs] at h
            cases gs with
            | none =>
              simp only [vop] at h
              split at h
              · rename_i v hv
                obtain ⟨a', σ', k1, k2⟩ := drawH_lin (checkAllH_out h)
                refine ⟨a', σ', k1, ?_⟩
                unfold drawH
                simp only [ho, he, cond_false, hA, hgs, vop, hv]
                exact checkAllH_mk h fun _ => k2
              · exact h.elim
            | some tw =>
              obtain ⟨t, want⟩ := tw
              simp only at h
              rw [gop_eq] at h
              have fin : ∀ v, checkAllH (gsel (aget a t) want f) v ((past.drop (lowOf ops b i)).dropLast) (drawH P ops b rest K (aput a o.dst v) past cur (bif Nat.blt (highOf ops b i + 1) past.length || Nat.beq (highOf ops b i + 1) past.length then fl else (highOf ops b i, gsel (aget a t) want f, v) :: fl)) →
                  (∀ K', K' v cur → gop (aget a t) want cur (fun K => vop (f (past.getLastD cur).get) cur K) K') → ∃ a' σ', K a' σ' ∧ drawH P ops b (i :: rest) (fun a2 σ2 => a2 = a' ∧ σ2 = σ') a past cur fl := by
                intro v h0 hK
                obtain ⟨a', σ', k1, k2⟩ := drawH_lin (checkAllH_out h0)
                refine ⟨a', σ', k1, ?_⟩
                unfold drawH
                simp only [ho, he, cond_false, hA, hgs]
                exact hK _ (checkAllH_mk h0 fun _ => k2)
              cases hgv : gv (aget a t) want with
              | none => rw [hgv] at h; exact h.elim
              | some c =>
                rw [hgv] at h
                cases c with
                | true =>
                  simp only [vop] at h
                  split at h
                  · rename_i v hv
                    exact fin v h fun K' hK' => by rw [gop_eq, hgv]; simp only [vop, hv]; exact hK'
                  · exact h.elim
                | false => exact fin gone h fun K' hK' => by rw [gop_eq, hgv]; exact hK'
        | eff f => rw [hA] at h; exact h.elim
        | call y => rw [hA] at h; exact h.elim
        | fail => rw [hA] at h; exact h.elim
        | mv v => rw [hA] at h; exact one (by simp [hA]) (by simp [hA]) (by simp [hA]) (by simp [hA]) h
        | val y => rw [hA] at h; exact one (by simp [hA]) (by simp [hA]) (by simp [hA]) (by simp [hA]) h
        | new y => rw [hA] at h; exact one (by simp [hA]) (by simp [hA]) (by simp [hA]) (by simp [hA]) h
end Go.Am
