/- The abstract machine, part 29: a function's body, printed, as a call. No program in sight. -/
import Derived.Test.YtfcefiabbdakgaaAm28
set_option linter.all false
namespace Go.Am
open Go.RowKit
variable {P : Program}

/-- The results, one behind the other. -/
def resH (P : Program) (a : List Value) (σ : Store) : List ResultVar → (List Value → Prop) → Prop
  | [], K => K []
  | .tmp t :: rs, K => resH P a σ rs fun vs => K (aget a t :: vs)
  | .cell t ty :: rs, K => match tAgg P ty, tSize P ty with
    | some b, some n => vop (loadV b n (aget a t) σ.get) σ fun v _ => resH P a σ rs fun vs => K (v :: vs)
    | _, _ => False
theorem resH_spec {a : List Value} {σ : Store} : ∀ {rs : List ResultVar} {K : List Value → Prop}, resH P a σ rs K → ∃ vs, resVs P a σ rs = some vs ∧ K vs
  | [], K, h => ⟨[], rfl, h⟩
  | .tmp t :: rs, K, h => by
    obtain ⟨vs, h1, h2⟩ := resH_spec (rs := rs) h
    exact ⟨aget a t :: vs, by simp [resVs, resV, h1], h2⟩
  | .cell t ty :: rs, K, h => by
    unfold resH at h
    split at h
    · rename_i b n hb hn
      unfold vop at h
      split at h
      · rename_i v hv
        obtain ⟨vs, h1, h2⟩ := resH_spec (rs := rs) h
        exact ⟨v :: vs, by simp [resVs, resV, hb, hn, hv, h1], h2⟩
      · exact h.elim
    · exact h.elim
def useR (m : Nat) (r : ResultVar) : Nat := match r with | .tmp t => Nat.lor m (Nat.shiftLeft 1 t) | .cell t _ => Nat.lor m (Nat.shiftLeft 1 t)
def startU (fn : Func) : Lv := (fun m => ⟨m, [], m⟩) (fn.results.toList.foldl useR 0)
def bodyH (P : Program) (fn : Func) (args : List Value) (σ : Store) (K : Value → Store → Prop) : Prop :=
  match fn.body with
  | none => False
  | some c => codeH P c (Nat.sub (Nat.shiftLeft 1 args.length) 1) (startU fn) (fun e a σ => match e with
      | .exit _ => False
      | _ => resH P a σ fn.results.toList fun vs => K (resOne vs) σ) (args ++ List.replicate (fn.ntmps - args.length) junk) σ

theorem act_start {M : Places} {args : List Value} {cargs : Array Value} (hargs : VRs M args cargs) {n : Nat} {b : Array Value} (hb : b = cargs ++ Array.replicate (n - cargs.size) undef) : ActR [] M (args ++ List.replicate (n - args.length) junk) ⟨b, []⟩ := by
  subst hb
  have hlen := hargs.1
  refine ⟨fun t v hv => ?_, rfl⟩
  rw [List.getElem?_append] at hv
  split at hv
  · rename_i ht
    have hct : cargs[t]? = some cargs[t] := Array.getElem?_eq_getElem (by omega)
    exact ⟨cargs[t], by rw [Array.getElem?_append_left (by omega)]; exact hct, hargs.2 t v _ hv hct⟩
  · rename_i ht
    rw [List.getElem?_replicate] at hv
    split at hv
    · rename_i ht2
      cases hv
      refine ⟨undef, ?_, .junk _⟩
      rw [Array.getElem?_append_right (by omega), Array.getElem?_replicate, if_pos (by omega)]
    · cases hv
theorem res_rel {M : Places} {vs us : List Value} (hlen : vs.length = us.length) (hvals : ∀ (i : Nat) (v v' : Value), vs[i]? = some v → us[i]? = some v' → VR M false v v') : VR M false (resOne vs) (resOne us) := by
  match vs, us, hlen, hvals with
  | [], [], _, _ => exact .tuple _ _ rfl fun i v v' hv => by simp at hv
  | [v], [u], _, hvals => exact hvals 0 v u rfl rfl
  | v :: v2 :: r, u :: u2 :: q, hlen, hvals =>
    refine .tuple _ _ (by simpa using hlen) fun i v v' hv hv' => ?_
    rw [List.getElem?_toArray] at hv hv'
    exact hvals i v v' hv hv'

/-- Whatever comes of a call is so. -/
def DoesD (P : Program) (f : FuncId) (args : List Value) (σ : Store) (Q : Value → Store → Prop) : Prop :=
  ∀ M w cargs, Rel M σ w → VRs M args cargs → Calls P f cargs w fun e w' => ∃ r σ' M' v, Q r σ' ∧ e = .returned v ∧ VR M' false r v ∧ Rel M' σ' w' ∧ Step σ M w σ' M' w'
theorem doesD_of_body {f : FuncId} {fn : Func} {args : List Value} {σ : Store} {Q : Value → Store → Prop} (hf : P.funcs[f]? = some fn) (hok : okFn P fn = true) (h : bodyH P fn args σ Q) : DoesD P f args σ Q := by
  intro M w cargs hr hargs
  unfold okFn at hok
  unfold bodyH at h
  cases hb : fn.body with
  | none => rw [hb] at h; exact h.elim
  | some c =>
    rw [hb] at hok h
    simp only at hok h
    refine calls_of_wp hf hb (codeH_sound (ds := []) hok (M := M) (act_start hargs rfl) hr h fun e act' σ2 M' w' b' k1 _ k2 k3 k4 => ?_)
    have hpost : ∃ vs, (∀ j, e ≠ .exit j) ∧ resVs P act' σ2 fn.results.toList = some vs ∧ Q (resOne vs) σ2 := by
      cases e with
      | exit j => exact k1.elim
      | normal => obtain ⟨vs, h1, h2⟩ := resH_spec k1; exact ⟨vs, by simp, h1, h2⟩
      | ret => obtain ⟨vs, h1, h2⟩ := resH_spec k1; exact ⟨vs, by simp, h1, h2⟩
    obtain ⟨vs, hne, hvs, hQ⟩ := hpost
    obtain ⟨us, hres, hlen, hvals⟩ := run_results (P := P) k2 k3 hvs
    have fin : bodyPost P fn (fun e w' => ∃ r σ' M' v, Q r σ' ∧ e = .returned v ∧ VR M' false r v ∧ Rel M' σ' w' ∧ Step σ M w σ' M' w') .normal b' w' := ⟨k2.none_, _, hres, _, _, M', _, hQ, rfl, res_rel hlen hvals, k3, k4⟩
    cases e with
    | exit j => exact absurd rfl (hne j)
    | normal => exact fin
    | ret => exact fin
theorem does_of_body {f : FuncId} {fn : Func} {args : List Value} {σ : Store} {Q : Value → Store → Prop} (hf : P.funcs[f]? = some fn) (hok : okFn P fn = true) (h : bodyH P fn args σ Q) : Does P f args σ Q := by
  have hlin : ∃ r σ', Q r σ' ∧ σ.next ≤ σ'.next ∧ bodyH P fn args σ fun r2 σ2 => r2 = r ∧ σ2 = σ' := by
    unfold bodyH at h ⊢
    split at h
    · exact h.elim
    · rename_i c hb
      obtain ⟨e, a', σ', h1, hn, h2⟩ := codeH_lin h
      have hpost : ∃ vs, (∀ j, e ≠ .exit j) ∧ resVs P a' σ' fn.results.toList = some vs ∧ Q (resOne vs) σ' ∧ resH P a' σ' fn.results.toList fun us => resOne us = resOne vs := by
        have key : ∀ {rs : List ResultVar} {K : List Value → Prop}, resH P a' σ' rs K → ∃ vs, resVs P a' σ' rs = some vs ∧ K vs ∧ ∀ K' : List Value → Prop, K' vs → resH P a' σ' rs K' := by
          intro rs
          induction rs with
          | nil => intro K h; exact ⟨[], rfl, h, fun K' h => h⟩
          | cons r rs ih =>
            intro K h
            cases r with
            | tmp t =>
              obtain ⟨vs, k1, k2, k3⟩ := ih h
              exact ⟨aget a' t :: vs, by simp [resVs, resV, k1], k2, fun K' hK => k3 (fun vs => K' (aget a' t :: vs)) hK⟩
            | cell t ty =>
              unfold resH at h
              split at h
              · rename_i b n hb hn
                unfold vop at h
                split at h
                · rename_i v hv
                  obtain ⟨vs, k1, k2, k3⟩ := ih h
                  refine ⟨v :: vs, by simp [resVs, resV, hb, hn, hv, k1], k2, fun K' hK => ?_⟩
                  unfold resH
                  simp only [hb, hn, vop, hv]
                  exact k3 (fun vs => K' (v :: vs)) hK
                · exact h.elim
              · exact h.elim
        cases e with
        | exit j => exact h1.elim
        | normal => obtain ⟨vs, k1, k2, k3⟩ := key h1; exact ⟨vs, by simp, k1, k2, k3 _ rfl⟩
        | ret => obtain ⟨vs, k1, k2, k3⟩ := key h1; exact ⟨vs, by simp, k1, k2, k3 _ rfl⟩
      obtain ⟨vs, hne, hvs, hQ, hre⟩ := hpost
      refine ⟨resOne vs, σ', hQ, hn, codeH_mono (fun e2 a2 s2 hh => ?_) h2⟩
      obtain ⟨rfl, rfl, rfl⟩ := hh
      have hre' : resH P a2 s2 fn.results.toList fun us => resOne us = resOne vs ∧ s2 = s2 := by
        have e : (fun us : List Value => resOne us = resOne vs ∧ s2 = s2) = fun us => resOne us = resOne vs := funext fun us => by simp
        rw [e]; exact hre
      cases e2 with
      | exit j => exact absurd rfl (hne j)
      | normal => exact hre'
      | ret => exact hre'
  obtain ⟨r, σ', hQ, hn, hb⟩ := hlin
  refine ⟨r, σ', ⟨hn, fun M w cargs hr hargs => Calls.mono (doesD_of_body hf hok hb M w cargs hr hargs) ?_⟩, hQ⟩
  rintro e w' ⟨r2, σ2, M', v, ⟨rfl, rfl⟩, h1, h2, h3, h4⟩
  exact ⟨M', v, h1, h2, h3, h4⟩
end Go.Am
