/- The abstract machine, part 19: code and calls are as the model has them. No program in sight. -/
import Derived.Test.YtfcefiabbdakgaaAm18
set_option linter.all false
namespace Go.Am
open Go.RowKit
variable {P : Program} {ds : List Deferred}

def okCode (P : Program) : Code → Bool
  | .region _ ops false => ops.toList.all (okOp P)
  | .region _ ops true => okDraw P ops
  | .seq x y => okCode P x && okCode P y
  | .cond c x y => okOperand c && okCode P x && okCode P y
  | .block _ c => okCode P c
  | .loop c => okCode P c
  | _ => true
def exitOf : Out → Exit
  | .normal => .normal
  | .exit j => .exit j
  | .ret => .ret

theorem codeG_sound : ∀ {c : Code} {D : List Nat} {K : Out → List Value → Store → Prop} {act : List Value} {σ : Store} {M : Places} {w : World} {a : Act} {Q : Exit → Act → World → Prop}, okCode P c = true → ActR ds M act a → Rel M σ w → codeG (PI P) P c D K act σ →
    (∀ e act' σ' M' w' a', K e act' σ' → ActR ds M' act' a' → Rel M' σ' w' → Step σ M w σ' M' w' → Q (exitOf e) a' w') → c.wp P Q a w := by
  intro c
  induction c with
  | skip => intro D K act σ M w a Q _ ha hr h hq; exact wp_skip (hq .normal act σ M w a h ha hr (Step.refl _ _ _))
  | label l => intro D K act σ M w a Q _ ha hr h hq; exact wp_label (hq .normal act σ M w a h ha hr (Step.refl _ _ _))
  | exit id => intro D K act σ M w a Q _ ha hr h hq; exact wp_exit (hq (.exit id) act σ M w a h ha hr (Step.refl _ _ _))
  | ret => intro D K act σ M w a Q _ ha hr h hq; exact wp_ret (hq .ret act σ M w a h ha hr (Step.refl _ _ _))
  | region id ops d =>
    intro D K act σ M w a Q hok ha hr h hq
    cases d with
    | false => exact seq_sound (List.all_eq_true.1 hok) ha hr h fun act' σ' M' w' a' h1 h2 h3 h4 => hq .normal act' σ' M' w' a' h1 h2 h3 h4
    | true => exact draw_sound hok ha hr h fun act' σ' M' w' a' h1 h2 h3 h4 => hq .normal act' σ' M' w' a' h1 h2 h3 h4
  | seq x y ihx ihy =>
    intro D K act σ M w a Q hok ha hr h hq
    simp only [okCode, Bool.and_eq_true] at hok
    refine wp_seq (ihx hok.1 ha hr h fun e act' σ' M' w' a' h1 h2 h3 h4 => ?_)
    cases e with
    | normal => exact ihy hok.2 h2 h3 h1 fun e act2 σ2 M2 w2 a2 k1 k2 k3 k4 => hq e act2 σ2 M2 w2 a2 k1 k2 k3 (h4.trans k4)
    | exit j => exact hq (.exit j) act' σ' M' w' a' h1 h2 h3 h4
    | ret => exact hq .ret act' σ' M' w' a' h1 h2 h3 h4
  | cond c x y ihx ihy =>
    intro D K act σ M w a Q hok ha hr h hq
    simp only [okCode, Bool.and_eq_true] at hok
    have hc := ha.ev hok.1.1
    unfold codeG at h
    split at h
    · rename_i he
      rw [he] at hc
      exact wp_cond_true hc.bool_ (ihx hok.1.2 ha hr h hq)
    · rename_i he
      rw [he] at hc
      exact wp_cond_false hc.bool_ (ihy hok.2 ha hr h hq)
    · exact h.elim
  | block id c ih =>
    intro D K act σ M w a Q hok ha hr h hq
    refine wp_block (ih hok ha hr h fun e act' σ' M' w' a' h1 h2 h3 h4 => ?_)
    cases e with
    | normal => exact hq .normal act' σ' M' w' a' h1 h2 h3 h4
    | ret => exact hq .ret act' σ' M' w' a' h1 h2 h3 h4
    | exit j =>
      simp only at h1
      show (if j = id then Q .normal a' w' else Q (.exit j) a' w')
      by_cases e : j = id
      · rw [if_pos e]
        have hb : (j == id) = true := by simp [e]
        rw [hb] at h1
        exact hq .normal act' σ' M' w' a' h1 h2 h3 h4
      · rw [if_neg e]
        have hb : (j == id) = false := by simp [e]
        rw [hb] at h1
        exact hq (.exit j) act' σ' M' w' a' h1 h2 h3 h4
  | loop c ih =>
    intro D K act σ M w a Q hok ha hr h hq
    obtain ⟨n, hn⟩ := codeG_loop.1 h
    refine wp_loop_rounds n ?_
    have key : ∀ (n : Nat) (act1 : List Value) (σ1 : Store) (M1 : Places) (w1 : World) (a1 : Act), ActR ds M1 act1 a1 → Same (defsC c) act act1 → Rel M1 σ1 w1 → Step σ M w σ1 M1 w1 → rounds (loopF P c D act K) n ((carried D c).map (aget act1)) σ1 → Code.rounds P c Q n a1 w1 := by
      intro n
      induction n with
      | zero => intro _ _ _ _ _ _ _ _ _ h; exact h.elim
      | succ n ihn =>
        intro act1 σ1 M1 w1 a1 ha1 hs hr1 hst h1
        have h1 : loopF P c D act K (rounds (loopF P c D act K) n) ((carried D c).map (aget act1)) σ1 := h1
        unfold loopF at h1
        have ha2 : ActR ds M1 (setAll (forget act (defsC c)) (carried D c) ((carried D c).map (aget act1))) a1 := by
          refine ⟨fun t v hv => ?_, ha1.none_⟩
          have hlt : t < act1.length := by
            have := (List.getElem?_eq_some_iff.1 hv).1
            rw [setAll_len, length_forget] at this
            rw [hs.1]; exact this
          obtain ⟨v', k1, k2⟩ := ha1.vals t act1[t] (List.getElem?_eq_getElem hlt)
          refine ⟨v', k1, ?_⟩
          rcases setAll_spec.2 t v hv with ⟨k3, rfl⟩ | ⟨k3, k4⟩
          · simpa [aget, hlt] using k2
          · by_cases ht : t ∈ defsC c
            · rw [forget_in ht k4]; exact .junk _
            · rw [forget_not ht, ← hs.2 t ht, List.getElem?_eq_getElem hlt] at k4
              cases k4
              exact k2
        obtain ⟨e, act2, σ2, k1, k2, k3, k4⟩ := codeG_lin h1
        rw [rounds_succ]
        refine ih hok ha2 hr1 k4 fun e' act' σ' M' w' a' m1 m2 m3 m4 => ?_
        obtain ⟨rfl, rfl, rfl⟩ := m1
        cases e' with
        | normal => exact ihn act' σ' M' w' a' m2 (same_round.trans k2) m3 (hst.trans m4) k1
        | exit j => exact hq (.exit j) act' σ' M' w' a' k1 m2 m3 (hst.trans m4)
        | ret => exact hq .ret act' σ' M' w' a' k1 m2 m3 (hst.trans m4)
    exact key n act σ M w a ha (Same.refl _ _) hr (Step.refl _ _ _) hn
  | _ => intros; rename_i h _; exact h.elim

/-! ## calls -/
def okFn (P : Program) (fn : Func) : Bool :=
  match fn.body with
  | some c => okCode P c
  | none => false

theorem cell_sound {M : Places} {σ : Store} {w : World} {t : TypeId} {b : Bool} {n : Nat} {x x' v : Value} (hb : tAgg P t = some b) (hn : tSize P t = some n) (hx : VR M false x x') (hr : Rel M σ w) (h : loadV b n x σ.get = some v) :
    ∃ v', VR M false v v' ∧ (do loadVar t (← asAddr x') : Sem Value).run P w = .ok v' w := by
  obtain ⟨v', h1, h2⟩ := load_sound hb hn hx hr h
  unfold loadV at h
  split at h
  case h_2 => cases h
  obtain ⟨_, l, hl, rfl⟩ := VR.ptr_ hx
  refine ⟨v', h1, ?_⟩
  simpa [Instr.loadAt, Instr.sureAddr, asAddr] using h2
theorem results_sound {M : Places} {σ : Store} {w : World} {act : List Value} {a : Act} (hact : ActR ds M act a) (hr : Rel M σ w) (F : ResultVar → Sem Value) (hF : F = fun r => match r with
      | .tmp t => pure (a.tmps.getD t undef)
      | .cell x t => do loadVar t (← asAddr (a.tmps.getD x undef))) : ∀ {rs : List ResultVar} {vs : List Value}, resVs P act σ rs = some vs →
    ∃ us, (List.mapM F rs).run P w = .ok us w ∧ vs.length = us.length ∧ ∀ (i : Nat) (v v' : Value), vs[i]? = some v → us[i]? = some v' → VR M false v v'
  | [], vs, h => by
    simp only [resVs, Option.some.injEq] at h
    subst h
    exact ⟨[], rfl, rfl, fun i v v' hv => by simp at hv⟩
  | r :: rs, vs, h => by
    simp only [resVs] at h
    cases hrv : resV P act σ r with
    | none => rw [hrv] at h; cases h
    | some v =>
      cases hrs : resVs P act σ rs with
      | none => rw [hrv, hrs] at h; cases h
      | some us =>
        rw [hrv, hrs] at h
        simp only [Option.some.injEq] at h
        subst h
        obtain ⟨us', h1, h2, h3⟩ := results_sound hact hr F hF hrs
        have hone : ∃ v', (F r).run P w = .ok v' w ∧ VR M false v v' := by
          cases r with
          | tmp t =>
            simp only [resV, Option.some.injEq] at hrv
            subst hrv
            exact ⟨_, by rw [hF]; rfl, hact.get t⟩
          | cell x t =>
            simp only [resV] at hrv
            split at hrv
            · rename_i b n hb hn
              obtain ⟨v', k1, k2⟩ := cell_sound hb hn (hact.get x) hr hrv
              exact ⟨v', by rw [hF]; exact k2, k1⟩
            · cases hrv
        obtain ⟨v', k1, k2⟩ := hone
        refine ⟨v' :: us', ?_, by simp [h2], fun i v1 v2 hv1 hv2 => ?_⟩
        · simp only [List.mapM_cons, Sem.run_bind, Sem.run_pure, k1, Result.andThen, h1]
        · cases i with
          | zero => simp at hv1 hv2; subst hv1; subst hv2; exact k2
          | succ i => exact h3 i v1 v2 (by simpa using hv1) (by simpa using hv2)
theorem resOne_eq (us : List Value) : (if h : us.toArray.size = 1 then us.toArray[0] else Value.tuple us.toArray) = resOne us := by
  match us with
  | [] => rfl
  | [v] => rfl
  | v :: v2 :: r => rfl
theorem run_results {M : Places} {σ : Store} {w : World} {act : List Value} {a : Act} (hact : ActR ds M act a) (hr : Rel M σ w) {fn : Func} {vs : List Value} (h : resVs P act σ fn.results.toList = some vs) :
    ∃ us, (results fn a.tmps).run P w = .ok (resOne us) w ∧ vs.length = us.length ∧ ∀ (i : Nat) (v v' : Value), vs[i]? = some v → us[i]? = some v' → VR M false v v' := by
  obtain ⟨us, h1, h2, h3⟩ := results_sound hact hr _ rfl h
  refine ⟨us, ?_, h2, h3⟩
  have h' : fn.results = fn.results.toList.toArray := by simp
  unfold results
  rw [h', List.mapM_toArray]
  simp only [Sem.run_bind, Sem.run_map, Sem.run_pure]
  erw [h1]
  simp only [Result.andThen]
  rw [resOne_eq]

theorem sim_of_body {f : FuncId} {fn : Func} {args : List Value} {σ : Store} {Q : Value → Store → Prop} (hf : P.funcs[f]? = some fn) (hok : okFn P fn = true) (h : bodyG (PI P) P fn args σ Q) : Does P f args σ Q := by
  unfold okFn at hok
  unfold bodyG at h
  cases hb : fn.body with
  | none => rw [hb] at h; exact h.elim
  | some c =>
    rw [hb] at hok h
    simp only at hok h
    obtain ⟨e, a', σ', h1, h2, h3, h4⟩ := codeG_lin h
    have hpost : ∃ vs, (∀ j, e ≠ .exit j) ∧ resVs P a' σ' fn.results.toList = some vs ∧ Q (resOne vs) σ' := by
      cases e with
      | exit j => exact h1.elim
      | normal =>
        simp only at h1
        split at h1
        · rename_i vs hvs; exact ⟨vs, fun j => by simp, hvs, h1⟩
        · exact h1.elim
      | ret =>
        simp only at h1
        split at h1
        · rename_i vs hvs; exact ⟨vs, fun j => by simp, hvs, h1⟩
        · exact h1.elim
    obtain ⟨vs, hne, hvs, hQ⟩ := hpost
    refine ⟨resOne vs, σ', ⟨h3, fun M w cargs hr hargs => ?_⟩, hQ⟩
    refine calls_of_wp hf hb (codeG_sound (ds := []) hok (M := M) ?_ hr h4 fun e2' act' σ2 M' w' b' k1 k2 k3 k4 => ?_)
    · refine ⟨fun t v hv => ?_, rfl⟩
      have hlen := hargs.1
      rw [List.getElem?_append] at hv
      split at hv
      · rename_i ht
        have hct : cargs[t]? = some cargs[t] := Array.getElem?_eq_getElem (by omega)
        exact ⟨cargs[t], by rw [Array.getElem?_append_left (by omega)]; exact hct, hargs.2 t v _ hv hct⟩
      · rename_i ht
        rw [List.getElem?_replicate] at hv
        split at hv
        · rename_i ht2
          cases hv
          refine ⟨undef, ?_, .junk _⟩
          rw [Array.getElem?_append_right (by omega), Array.getElem?_replicate, if_pos (by omega)]
        · cases hv
    · obtain ⟨rfl, rfl, rfl⟩ := k1
      obtain ⟨us, hres, hlen, hvals⟩ := run_results (P := P) k2 k3 hvs
      have hval : VR M' false (resOne vs) (resOne us) := by
        match vs, us, hlen, hvals with
        | [], [], _, _ => exact .tuple _ _ rfl fun i v v' hv => by simp at hv
        | [v], [u], _, hvals => exact hvals 0 v u rfl rfl
        | v :: v2 :: r, u :: u2 :: q, hlen, hvals =>
          refine .tuple _ _ (by simpa using hlen) fun i v v' hv hv' => ?_
          rw [List.getElem?_toArray] at hv hv'
          exact hvals i v v' hv hv'
      have fin : bodyPost P fn (fun e w' => ∃ M' v, e = .returned v ∧ VR M' false (resOne vs) v ∧ Rel M' σ2 w' ∧ Step σ M w σ2 M' w') .normal b' w' := ⟨k2.none_, _, hres, M', _, rfl, hval, k3, k4⟩
      cases e2' with
      | exit j => exact absurd rfl (hne j)
      | normal => exact fin
      | ret => exact fin
end Go.Am
