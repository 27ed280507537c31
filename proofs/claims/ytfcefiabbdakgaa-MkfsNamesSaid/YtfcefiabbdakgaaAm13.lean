/- The abstract machine, part 13: what a region that draws its order comes to in the machine's order. No program in sight. -/
import Derived.Test.YtfcefiabbdakgaaAm12
set_option linter.all false
namespace Go.Am
open Go.RowKit
variable {P : Program} {M : Places} {σ : Store} {w : World}

theorem Store.le_put (σ : Store) (i : Nat) (o : Option SObj) : σ.next ≤ (σ.put i o).next := by
  rw [Store.next_put]; split <;> omega
theorem Store.le_push (σ : Store) (o : SObj) : σ.next ≤ (σ.push o).next := by simp
theorem Store.le_put_push (σ : Store) (i : Nat) (x : Option SObj) (o : SObj) : σ.next ≤ ((σ.put i x).push o).next := by
  have := Store.le_put σ i x
  simp; omega

theorem storeV_mono {n : Nat} {x v u : Value} {σ' : Store} (h : storeV n x v σ = some (u, σ')) : σ.next ≤ σ'.next := by
  unfold storeV at h
  simp only [Bool.cond_eq_ite] at h
  repeat' split at h
  all_goals first
    | (cases h; done)
    | (cases h; first | exact Nat.le_refl _ | exact Store.le_put _ _ _)
theorem mapUpdateV_mono {t : TypeId} {x k v u : Value} {σ' : Store} (h : mapUpdateV P t x k v σ = some (u, σ')) : σ.next ≤ σ'.next := by
  unfold mapUpdateV at h
  repeat' split at h
  all_goals first
    | (cases h; done)
    | (cases h; first | exact Nat.le_refl _ | exact Store.le_put _ _ _)
theorem mapEntryV_mono {t : TypeId} {x k u : Value} {σ' : Store} (h : mapEntryV P t x k σ = some (u, σ')) : σ.next ≤ σ'.next := by
  unfold mapEntryV at h
  repeat' split at h
  all_goals first
    | (cases h; done)
    | (cases h; first | exact Nat.le_refl _ | exact Store.le_put _ _ _)
theorem entryStoreV_mono {x s v u : Value} {σ' : Store} (h : entryStoreV x s v σ = some (u, σ')) : σ.next ≤ σ'.next := by
  unfold entryStoreV at h
  repeat' split at h
  all_goals first
    | (cases h; done)
    | (cases h; first | exact Nat.le_refl _ | exact Store.le_put _ _ _)
theorem deleteV_mono {t : TypeId} {x k u : Value} {σ' : Store} (h : deleteV P t x k σ = some (u, σ')) : σ.next ≤ σ'.next := by
  unfold deleteV at h
  repeat' split at h
  all_goals first
    | (cases h; done)
    | (cases h; first | exact Nat.le_refl _ | exact Store.le_put _ _ _)
theorem clearV_mono {x u : Value} {σ' : Store} (h : clearV x σ = some (u, σ')) : σ.next ≤ σ'.next := by
  unfold clearV at h
  repeat' split at h
  all_goals first
    | (cases h; done)
    | (cases h; first | exact Nat.le_refl _ | exact Store.le_put _ _ _)
theorem copyV_mono {sz : Nat} {d x u : Value} {σ' : Store} (h : copyV sz d x σ = some (u, σ')) : σ.next ≤ σ'.next := by
  unfold copyV at h
  simp only [Bool.cond_eq_ite] at h
  repeat' split at h
  all_goals first
    | (cases h; done)
    | (cases h; first | exact Nat.le_refl _ | exact Store.le_put _ _ _)
theorem appendV_mono {sz by_ : Nat} {s x u : Value} {σ' : Store} (h : appendV sz by_ s x σ = some (u, σ')) : σ.next ≤ σ'.next := by
  unfold appendV at h
  simp only [Bool.cond_eq_ite] at h
  repeat' split at h
  all_goals first
    | (cases h; done)
    | (cases h; first | exact Nat.le_refl _ | exact Store.le_put _ _ _ | exact Store.le_push _ _ | exact Store.le_put_push _ _ _ _)
theorem handV_mono {x u : Value} {σ' : Store} (h : handV x σ = some (u, σ')) : σ.next ≤ σ'.next := by
  unfold handV at h
  simp only [Bool.cond_eq_ite] at h
  repeat' split at h
  all_goals first
    | (cases h; done)
    | (cases h; exact Store.le_put_push _ _ _ _)
theorem builtinA_mono {b : Builtin} {ts : List TypeId} {args : List Value} {f : Store → Option (Value × Store)} (h : builtinA P b ts args = some (.eff f)) {v : Value} {σ' : Store} (hf : f σ = some (v, σ')) : σ.next ≤ σ'.next := by
  have nov : ∀ x : Option Value, ofVal x ≠ some (.eff f) := fun x => by cases x <;> simp [ofVal]
  unfold builtinA at h
  simp only [Bool.cond_eq_ite] at h
  repeat' split at h
  all_goals first
    | (cases h; done)
    | (exact absurd h (nov _))
    | (cases h; exact appendV_mono hf)
    | (cases h; exact copyV_mono hf)
    | (cases h; exact clearV_mono hf)
    | (cases h; exact deleteV_mono hf)
theorem binA_noeff {op : BinOp} {t : TypeId} {x y : Value} {f : Store → Option (Value × Store)} : binA P op t x y ≠ some (.eff f) := by
  intro h
  have nov : ∀ x : Option Value, ofVal x ≠ some (.eff f) := fun x => by cases x <;> simp [ofVal]
  unfold binA at h
  simp only [Bool.cond_eq_ite] at h
  repeat' split at h
  all_goals first
    | (cases h; done)
    | (exact absurd h (nov _))
    | (cases hq : eqV P t x y <;> rw [hq] at h <;> cases h)
theorem action_mono {o : Oper} {e : Operand → Value} {f : Store → Option (Value × Store)} (h : action P o e = some (.eff f)) {v : Value} {σ' : Store} (hf : f σ = some (v, σ')) : σ.next ≤ σ'.next := by
  have nov : ∀ x : Option Value, ofVal x ≠ some (.eff f) := fun x => by cases x <;> simp [ofVal]
  unfold action at h
  simp only [Bool.cond_eq_ite] at h
  split at h
  all_goals first
    | (cases h; done)
    | (exact absurd h (nov _))
    | (exact absurd h binA_noeff)
    | (cases h; exact mapUpdateV_mono hf)
    | (cases h; exact mapEntryV_mono hf)
    | (cases h; exact entryStoreV_mono hf)
    | (split at h <;> first | (cases h; done) | (cases h; exact storeV_mono hf))
    | skip
  all_goals (repeat' split at h)
  all_goals first
    | (cases h; done)
    | (exact absurd h (nov _))
    | (exact builtinA_mono h hf)
    | (cases h; exact handV_mono hf)

theorem builtinA_own {b : Builtin} {ts : List TypeId} {args : List Value} {ob : SObj} {mk : Nat → Value} (h : builtinA P b ts args = some (.new ob mk)) : ob.own = true := by
  have nov : ∀ x : Option Value, ofVal x ≠ some (.new ob mk) := fun x => by cases x <;> simp [ofVal]
  unfold builtinA at h
  simp only [Bool.cond_eq_ite] at h
  repeat' split at h
  all_goals first
    | (cases h; done)
    | (exact absurd h (nov _))
theorem binA_nonew {op : BinOp} {t : TypeId} {x y : Value} {ob : SObj} {mk : Nat → Value} : binA P op t x y ≠ some (.new ob mk) := by
  intro h
  have nov : ∀ x : Option Value, ofVal x ≠ some (.new ob mk) := fun x => by cases x <;> simp [ofVal]
  unfold binA at h
  simp only [Bool.cond_eq_ite] at h
  repeat' split at h
  all_goals first
    | (cases h; done)
    | (exact absurd h (nov _))
    | (cases hq : eqV P t x y <;> rw [hq] at h <;> cases h)
theorem action_own {o : Oper} {e : Operand → Value} {ob : SObj} {mk : Nat → Value} (h : action P o e = some (.new ob mk)) : ob.own = true := by
  have nov : ∀ x : Option Value, ofVal x ≠ some (.new ob mk) := fun x => by cases x <;> simp [ofVal]
  unfold action at h
  simp only [Bool.cond_eq_ite] at h
  split at h
  all_goals first
    | (cases h; done)
    | (exact absurd h (nov _))
    | (exact absurd h binA_nonew)
    | (cases h; rfl)
    | skip
  all_goals (repeat' split at h)
  all_goals first
    | (cases h; done)
    | (exact absurd h (nov _))
    | (cases h; rfl)
    | (exact builtinA_own h)

/-! ## what one action comes to -/
def Res (P : Program) (x : Option Action) (σ : Store) (v : Value) (σ' : Store) : Prop :=
  match x with
  | none => False
  | some (.val u) => v = u ∧ σ' = σ
  | some (.rd f) => f σ.get = some v ∧ σ' = σ
  | some (.new o mk) => v = mk σ.next ∧ σ' = σ.push o
  | some (.eff f) => f σ = some (v, σ')
  | some (.call f args) => Sim P f args σ v σ'
theorem res_of_doAct {x : Option Action} {K : Value → Store → Prop} (h : doAct (PI P) x σ K) : ∃ v σ', Res P x σ v σ' ∧ K v σ' := by
  cases x with
  | none => exact h.elim
  | some x =>
    cases x with
    | val v => exact ⟨v, σ, ⟨rfl, rfl⟩, h⟩
    | rd f =>
      simp only [doAct] at h
      split at h
      · rename_i v hv; exact ⟨v, σ, ⟨hv, rfl⟩, h⟩
      · exact h.elim
    | new o mk => exact ⟨_, _, ⟨rfl, rfl⟩, h⟩
    | eff f =>
      simp only [doAct] at h
      split at h
      · rename_i v σ' hv; exact ⟨v, σ', hv, h⟩
      · exact h.elim
    | call f args => exact h
theorem doAct_of_res {x : Option Action} {v : Value} {σ' : Store} (h : Res P x σ v σ') : doAct (PI P) x σ fun v2 σ2 => v2 = v ∧ σ2 = σ' := by
  cases x with
  | none => exact h.elim
  | some x =>
    cases x with
    | val u => obtain ⟨rfl, rfl⟩ := h; exact ⟨rfl, rfl⟩
    | rd f => obtain ⟨h1, rfl⟩ := h; simp only [doAct, h1, and_self]
    | new o mk => obtain ⟨rfl, rfl⟩ := h; exact ⟨rfl, rfl⟩
    | eff f => simp only [Res] at h; simp only [doAct, h, and_self]
    | call f args => exact ⟨v, σ', h, rfl, rfl⟩
theorem Res.mono {o : Oper} {e : Operand → Value} {v : Value} {σ' : Store} (h : Res P (action P o e) σ v σ') : σ.next ≤ σ'.next := by
  cases hA : action P o e with
  | none => rw [hA] at h; exact h.elim
  | some x =>
    rw [hA] at h
    cases x with
    | val u => rw [h.2]; exact Nat.le_refl _
    | rd f => rw [h.2]; exact Nat.le_refl _
    | new o mk => rw [h.2]; exact Store.le_push _ _
    | eff f => exact action_mono hA h
    | call f args => exact h.1

/-! ## what the machine's order comes to -/
section
variable (P) (ops : Array Oper) (b : Array Nat) (L : List Nat)
def effAt (i : Nat) : Bool := match ops[i]? with | some o => isEff o.op | none => false
/-- How many of the first ones write. -/
def effCount (p : Nat) : Nat := ((L.take p).filter fun i => effAt ops i).length
/-- One step: A: the values; acts: the frames; C: the stores; S: those behind each writing operation. -/
def StepOk (A : Nat → Value) (acts : Nat → List Value) (C S : Nat → Store) (q : Nat) : Prop :=
  ∃ i o, L[q]? = some i ∧ ops[i]? = some o ∧ acts (q + 1) = aput (acts q) o.dst (A q) ∧
    ((isEff o.op = true ∧ S (effCount ops L q + 1) = C (q + 1) ∧
      ((guardA ops (acts q) o = some false ∧ A q = gone ∧ C (q + 1) = C q) ∨ (guardA ops (acts q) o = some true ∧ Res P (action P o (aev (acts q))) (C q) (A q) (C (q + 1))))) ∨
     (isEff o.op = false ∧
      ((guardA ops (acts q) o = some false ∧ A q = gone ∧ C (q + 1) = C q) ∨
       (guardA ops (acts q) o = some true ∧ ∃ x, action P o (aev (acts q)) = some x ∧
        ((∃ v, x = .val v ∧ A q = v ∧ C (q + 1) = C q) ∨ (∃ ob mk, x = .new ob mk ∧ A q = mk (C q).next ∧ C (q + 1) = (C q).push ob) ∨
         (∃ f, x = .rd f ∧ C (q + 1) = C q ∧ ∀ j, lowOf ops b i ≤ j → j ≤ highOf ops b i → j ≤ effCount ops L L.length → lowOf ops b i ≤ effCount ops L q → f (S j).get = some (A q)))))))
end
theorem effCount_succ {ops : Array Oper} {L : List Nat} {p i : Nat} (h : L[p]? = some i) : effCount ops L (p + 1) = effCount ops L p + if effAt ops i then 1 else 0 := by
  unfold effCount
  rw [List.take_add_one, h]
  simp only [Option.toList_some, List.filter_append, List.length_append]
  congr 1
  cases he : effAt ops i <;> simp [he]
theorem effCount_mono {ops : Array Oper} {L : List Nat} {p q : Nat} (h : p ≤ q) : effCount ops L p ≤ effCount ops L q := by
  unfold effCount
  have : (L.take p) = (L.take q).take p := by rw [List.take_take, Nat.min_eq_left h]
  rw [this]
  exact ((List.take_sublist p (L.take q)).filter _).length_le
theorem recheck_spec {k : Nat} {s : Store} : ∀ {fl : List (Nat × ((Nat → Option SObj) → Option Value) × Value)} {r : Prop}, recheck (PI P) k s fl r → r ∧ ∀ x ∈ fl, k ≤ x.1 → x.2.1 s.get = some x.2.2
  | [], r, h => ⟨h, fun x hx => by simp at hx⟩
  | (hi, f, v) :: fl, r, h => by
    unfold recheck at h
    cases hb : Nat.ble k hi <;> rw [hb] at h <;> simp only [cond_true, cond_false] at h
    · obtain ⟨h1, h2⟩ := recheck_spec h
      refine ⟨h1, fun x hx hk => ?_⟩
      rcases List.mem_cons.1 hx with rfl | hx
      · rw [Nat.ble_eq_true_of_le hk] at hb; cases hb
      · exact h2 x hx hk
    · obtain ⟨h0, h⟩ := h
      obtain ⟨h1, h2⟩ := recheck_spec h
      refine ⟨h1, fun x hx hk => ?_⟩
      rcases List.mem_cons.1 hx with rfl | hx
      · exact h0
      · exact h2 x hx hk
theorem checkAll_spec {f : (Nat → Option SObj) → Option Value} {v : Value} : ∀ {ss : List Store} {r : Prop}, checkAll (PI P) f v ss r → r ∧ ∀ s ∈ ss, f s.get = some v
  | [], r, h => ⟨h, fun s hs => by simp at hs⟩
  | s :: ss, r, h => by
    obtain ⟨h0, h⟩ := h
    obtain ⟨h1, h2⟩ := checkAll_spec h
    exact ⟨h1, fun x hx => by
      rcases List.mem_cons.1 hx with rfl | hx
      · exact h0
      · exact h2 x hx⟩

theorem extract {ops : Array Oper} {b : Array Nat} {L : List Nat} {K : List Value → Store → Prop} : ∀ (rest done : List Nat) (act : List Value) (past : List Store) (cur : Store) (fl : List (Nat × ((Nat → Option SObj) → Option Value) × Value)),
    L = done ++ rest → past.length = effCount ops L done.length + 1 → drawOps (PI P) P ops b rest K act past cur fl →
    ∃ (A : Nat → Value) (acts : Nat → List Value) (C S : Nat → Store), acts done.length = act ∧ C done.length = cur ∧ (∀ (j : Nat) (s : Store), past[j]? = some s → S j = s) ∧ K (acts L.length) (C L.length) ∧
      (∀ q, done.length ≤ q → q < L.length → StepOk P ops b L A acts C S q) ∧ (∀ x ∈ fl, ∀ j, effCount ops L done.length < j → j ≤ x.1 → j ≤ effCount ops L L.length → x.2.1 (S j).get = some x.2.2)
  | [], done, act, past, cur, fl, hL, hp, h => by
    simp only [List.append_nil] at hL
    subst hL
    exact ⟨fun _ => junk, fun _ => act, fun _ => cur, fun j => past.getD j cur, rfl, rfl, fun j s hs => by simp [hs], h, fun q h1 h2 => by omega, fun x _ j h1 _ h3 => by omega⟩
  | i :: rest, done, act, past, cur, fl, hL, hp, h => by
    have hLi : L[done.length]? = some i := by rw [hL]; simp
    have hlen : done.length < L.length := (List.getElem?_eq_some_iff.1 hLi).1
    unfold drawOps at h
    cases ho : ops[i]? with
    | none => rw [ho] at h; exact h.elim
    | some o =>
      rw [ho] at h
      simp only at h
      have heff : effAt ops i = isEff o.op := by simp [effAt, ho]
      have hL2 : L = (done ++ [i]) ++ rest := by rw [hL]; simp
      have hd2 : (done ++ [i]).length = done.length + 1 := by simp
      have hcount := effCount_succ (ops := ops) hLi
      rw [heff] at hcount
      -- put a step ahead
      have build : ∀ (v : Value) (past' : List Store) (cur' : Store) (fl' : List (Nat × ((Nat → Option SObj) → Option Value) × Value)), (∀ (j : Nat) (s : Store), past[j]? = some s → past'[j]? = some s) →
          (∃ (A : Nat → Value) (acts : Nat → List Value) (C S : Nat → Store), acts (done.length + 1) = aput act o.dst v ∧ C (done.length + 1) = cur' ∧ (∀ (j : Nat) (s : Store), past'[j]? = some s → S j = s) ∧ K (acts L.length) (C L.length) ∧
            (∀ q, done.length + 1 ≤ q → q < L.length → StepOk P ops b L A acts C S q) ∧ (∀ x ∈ fl', ∀ j, effCount ops L (done.length + 1) < j → j ≤ x.1 → j ≤ effCount ops L L.length → x.2.1 (S j).get = some x.2.2) ∧
            (∀ x ∈ fl, ∀ j, effCount ops L done.length < j → j ≤ x.1 → j ≤ effCount ops L L.length → x.2.1 (S j).get = some x.2.2) ∧
            ∀ (A' : Nat → Value) (acts' : Nat → List Value) (C' : Nat → Store), acts' done.length = act → acts' (done.length + 1) = aput act o.dst v → C' done.length = cur → C' (done.length + 1) = cur' → A' done.length = v → StepOk P ops b L A' acts' C' S done.length) →
          ∃ (A : Nat → Value) (acts : Nat → List Value) (C S : Nat → Store), acts done.length = act ∧ C done.length = cur ∧ (∀ (j : Nat) (s : Store), past[j]? = some s → S j = s) ∧ K (acts L.length) (C L.length) ∧
            (∀ q, done.length ≤ q → q < L.length → StepOk P ops b L A acts C S q) ∧ (∀ x ∈ fl, ∀ j, effCount ops L done.length < j → j ≤ x.1 → j ≤ effCount ops L L.length → x.2.1 (S j).get = some x.2.2) := by
        intro v past' cur' fl' hpp ⟨A, acts, C, S, h1, h2, h3, h4, h5, h6, h7, h8⟩
        refine ⟨fun q => if q = done.length then v else A q, fun q => if q = done.length then act else acts q, fun q => if q = done.length then cur else C q, S, by simp, by simp, fun j s hs => h3 j s (hpp j s hs), ?_, fun q hq1 hq2 => ?_, h7⟩
        · simp only [Nat.ne_of_gt hlen, if_false]
          exact h4
        · by_cases e : q = done.length
          · subst e
            exact h8 _ _ _ (by simp) (by simp [h1]) (by simp) (by simp [h2]) (by simp)
          · obtain ⟨i2, o2, g1, g2, g3, g4⟩ := h5 q (by omega) hq2
            have e2 : q + 1 ≠ done.length := by omega
            refine ⟨i2, o2, g1, g2, ?_, ?_⟩
            · simp only [e, e2, if_false]; exact g3
            · simp only [e, e2, if_false]; exact g4
      cases he : isEff o.op with
      | true =>
        rw [he] at h
        simp only [cond_true] at h
        rw [he] at hcount
        simp only [if_true] at hcount
        have main : ∀ v s, ((guardA ops act o = some false ∧ v = gone ∧ s = cur) ∨ (guardA ops act o = some true ∧ Res P (action P o (aev act)) cur v s)) →
            recheck (PI P) past.length s fl (drawOps (PI P) P ops b rest K (aput act o.dst v) (past ++ [s]) s fl) →
            ∃ (A : Nat → Value) (acts : Nat → List Value) (C S : Nat → Store), acts done.length = act ∧ C done.length = cur ∧ (∀ (j : Nat) (s : Store), past[j]? = some s → S j = s) ∧ K (acts L.length) (C L.length) ∧
            (∀ q, done.length ≤ q → q < L.length → StepOk P ops b L A acts C S q) ∧ (∀ x ∈ fl, ∀ j, effCount ops L done.length < j → j ≤ x.1 → j ≤ effCount ops L L.length → x.2.1 (S j).get = some x.2.2) := by
          intro v s hcase hre
          obtain ⟨hd, hfl⟩ := recheck_spec hre
          obtain ⟨A, acts, C, S, h1, h2, h3, h4, h5, h6⟩ := extract rest (done ++ [i]) (aput act o.dst v) (past ++ [s]) s fl hL2 (by rw [hd2, hcount]; simp [hp]) hd
          rw [hd2] at h1 h2 h5 h6
          have hS : S (effCount ops L done.length + 1) = s := h3 _ s (by rw [← hp]; simp)
          refine build v (past ++ [s]) s fl (fun j s' hs => by rw [List.getElem?_append_left (List.getElem?_eq_some_iff.1 hs).1]; exact hs) ⟨A, acts, C, S, h1, h2, h3, h4, h5, h6, ?_, ?_⟩
          · intro x hx j hj1 hj2 hj3
            by_cases e : j = effCount ops L done.length + 1
            · subst e
              rw [hS]
              exact hfl x hx (by rw [hp]; exact hj2)
            · exact h6 x hx j (by rw [hcount]; omega) hj2 hj3
          · intro A' acts' C' k1 k2 k3 k4 k5
            refine ⟨i, o, hLi, ho, by rw [k1, k2, k5], .inl ⟨he, by rw [hS, k4], ?_⟩⟩
            rw [k1, k3, k4, k5]
            exact hcase
        cases hg : guardA ops act o with
        | none => rw [hg] at h; exact h.elim
        | some bb =>
          rw [hg] at h
          cases bb with
          | false => exact main gone cur (.inl ⟨hg, rfl, rfl⟩) h
          | true =>
            obtain ⟨v, s, hres, hre⟩ := res_of_doAct h
            exact main v s (.inr ⟨hg, hres⟩) hre
      | false =>
        rw [he] at h
        simp only [cond_false] at h
        rw [he] at hcount
        simp only [Bool.false_eq_true, if_false, Nat.add_zero] at hcount
        have main : ∀ v cur' fl', (∀ x ∈ fl, x ∈ fl') → drawOps (PI P) P ops b rest K (aput act o.dst v) past cur' fl' →
            (∀ (S : Nat → Store), (∀ (j : Nat) (s : Store), past[j]? = some s → S j = s) → (∀ x ∈ fl', ∀ j, effCount ops L done.length < j → j ≤ x.1 → j ≤ effCount ops L L.length → x.2.1 (S j).get = some x.2.2) →
              ∀ (A' : Nat → Value) (acts' : Nat → List Value) (C' : Nat → Store), acts' done.length = act → acts' (done.length + 1) = aput act o.dst v → C' done.length = cur → C' (done.length + 1) = cur' → A' done.length = v → StepOk P ops b L A' acts' C' S done.length) →
            ∃ (A : Nat → Value) (acts : Nat → List Value) (C S : Nat → Store), acts done.length = act ∧ C done.length = cur ∧ (∀ (j : Nat) (s : Store), past[j]? = some s → S j = s) ∧ K (acts L.length) (C L.length) ∧
            (∀ q, done.length ≤ q → q < L.length → StepOk P ops b L A acts C S q) ∧ (∀ x ∈ fl, ∀ j, effCount ops L done.length < j → j ≤ x.1 → j ≤ effCount ops L L.length → x.2.1 (S j).get = some x.2.2) := by
          intro v cur' fl' hsub hd hstep
          obtain ⟨A, acts, C, S, h1, h2, h3, h4, h5, h6⟩ := extract rest (done ++ [i]) (aput act o.dst v) past cur' fl' hL2 (by rw [hd2, hcount]; exact hp) hd
          rw [hd2] at h1 h2 h5 h6
          rw [hcount] at h6
          exact build v past cur' fl' (fun j s' hs => hs) ⟨A, acts, C, S, h1, h2, h3, h4, h5, by rw [hcount]; exact h6, fun x hx => h6 x (hsub x hx), hstep S h3 h6⟩
        cases hg : guardA ops act o with
        | none => rw [hg] at h; exact h.elim
        | some bb =>
          rw [hg] at h
          cases bb with
          | false =>
            refine main gone cur fl (fun _ hx => hx) h fun S _ _ A' acts' C' k1 k2 k3 k4 k5 => ⟨i, o, hLi, ho, by rw [k1, k2, k5], .inr ⟨he, .inl ?_⟩⟩
            rw [k1, k3, k4, k5]
            exact ⟨hg, rfl, rfl⟩
          | true =>
            simp only at h
            cases hA : action P o (aev act) with
            | none => rw [hA] at h; exact h.elim
            | some x =>
              rw [hA] at h
              cases x with
              | val v =>
                refine main v cur fl (fun _ hx => hx) h fun S _ _ A' acts' C' k1 k2 k3 k4 k5 => ⟨i, o, hLi, ho, by rw [k1, k2, k5], .inr ⟨he, .inr ?_⟩⟩
                rw [k1, k3, k4, k5]
                exact ⟨hg, _, hA, .inl ⟨v, rfl, rfl, rfl⟩⟩
              | new ob mk =>
                refine main (mk cur.next) (cur.push ob) fl (fun _ hx => hx) h fun S _ _ A' acts' C' k1 k2 k3 k4 k5 => ⟨i, o, hLi, ho, by rw [k1, k2, k5], .inr ⟨he, .inr ?_⟩⟩
                rw [k1, k3, k4, k5]
                exact ⟨hg, _, hA, .inr (.inl ⟨ob, mk, rfl, rfl, rfl⟩)⟩
              | rd f =>
                simp only at h
                cases hf : f (past.getLastD cur).get with
                | none => rw [hf] at h; exact h.elim
                | some v =>
                  rw [hf] at h
                  obtain ⟨hd, hck⟩ := checkAll_spec h
                  have hlast : ∀ S : Nat → Store, (∀ (j : Nat) (s : Store), past[j]? = some s → S j = s) → S (effCount ops L done.length) = past.getLastD cur := fun S hS => by
                    refine hS _ _ ?_
                    rw [List.getLastD_eq_getLast?, List.getLast?_eq_getElem?, hp]
                    have : effCount ops L done.length < past.length := by omega
                    simp [List.getElem?_eq_getElem this]
                  refine main v cur _ ?_ hd fun S hS hflS A' acts' C' k1 k2 k3 k4 k5 => ⟨i, o, hLi, ho, by rw [k1, k2, k5], .inr ⟨he, .inr ?_⟩⟩
                  · intro x hx
                    cases (Nat.blt (highOf ops b i + 1) past.length || Nat.beq (highOf ops b i + 1) past.length)
                    · exact List.mem_cons_of_mem _ hx
                    · exact hx
                  · rw [k1, k3, k4, k5]
                    refine ⟨hg, _, hA, .inr (.inr ⟨f, rfl, rfl, fun j hj1 hj2 hj3 hj4 => ?_⟩)⟩
                    rcases Nat.lt_trichotomy j (effCount ops L done.length) with hlt | heq | hgt
                    · have hjl : j < past.length := by omega
                      have hSj := hS j past[j] (List.getElem?_eq_getElem hjl)
                      rw [hSj]
                      refine hck _ ?_
                      rw [List.mem_iff_getElem?]
                      refine ⟨j - lowOf ops b i, ?_⟩
                      rw [List.getElem?_dropLast, if_pos (by rw [List.length_drop, hp]; omega), List.getElem?_drop, show lowOf ops b i + (j - lowOf ops b i) = j from by omega]
                      exact List.getElem?_eq_getElem hjl
                    · subst heq
                      rw [hlast S hS]
                      exact hf
                    · have hbb : (Nat.blt (highOf ops b i + 1) past.length || Nat.beq (highOf ops b i + 1) past.length) = false := by
                        rw [hp]
                        simp only [Bool.or_eq_false_iff]
                        constructor
                        · cases hq : Nat.blt (highOf ops b i + 1) (effCount ops L done.length + 1) with
                          | false => rfl
                          | true =>
                            have h9 : highOf ops b i + 1 + 1 ≤ effCount ops L done.length + 1 := Nat.le_of_ble_eq_true hq
                            omega
                        · cases hq : Nat.beq (highOf ops b i + 1) (effCount ops L done.length + 1) with
                          | false => rfl
                          | true => have := Nat.eq_of_beq_eq_true hq; omega
                      rw [hbb] at hflS
                      exact hflS (highOf ops b i, f, v) List.mem_cons_self j hgt hj2 hj3
              | eff f => exact h.elim
              | call f args => exact h.elim
end Go.Am
