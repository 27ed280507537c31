/- The abstract machine, part 5: operations that make values are as the model has them. No program in sight. -/
import Derived.Test.YtfcefiabbdakgaaAm4
set_option linter.all false
namespace Go.Am
open Go.RowKit
variable {P : Program} {M : Places} {σ : Store} {w : World}

theorem eq1_cells {d : TypeDesc} {x y : Value} {r : Bool} (h : eq1 d x y = some r) : cell1 x = true ∧ cell1 y = true := by
  unfold eq1 at h
  split at h <;> first | exact ⟨rfl, rfl⟩ | (exfalso; cases h; done)
theorem eqV_sound_at {t : TypeId} {x y x' y' : Value} {r : Bool} (h : eqV P t x y = some r) (hx : VR M false x x') (hy : VR M false y y') (d : Nat) (hd : eqFuel < d + 1) : ∀ w, (Op.equalIn (d + 1) t x' y').run P w = .ok r w := by
  intro w
  unfold eqV at h
  have sc : ∀ {a a' : Value}, scalar a = true → VR M false a a' → a' = a := fun hs h => VR.scalar_eq hs h
  have slv : ∀ {a n c v'}, VR M false (.slice (some a) n c) v' → ∃ a' n' c', v' = .slice (some a') n' c' := fun {a n c v'} h => by
    obtain ⟨l, c', _, rfl, _⟩ := VR.slice_ (i := a.block) (o := a.off) (s := a.spot) h
    exact ⟨_, _, _, rfl⟩
  split at h
  · rename_i e n c b n2 c2 hu
    have := sc (a := .slice none n c) rfl hx; subst this
    cases h
    cases b with
    | none => have := sc (a := .slice none n2 c2) rfl hy; subst this; simp [Op.equalIn, run_underlying hu]
    | some b => obtain ⟨a', n', c', rfl⟩ := slv hy; simp [Op.equalIn, run_underlying hu]
  · rename_i e a n c n2 c2 hu
    have := sc (a := .slice none n2 c2) rfl hy; subst this
    cases h
    obtain ⟨a', n', c', rfl⟩ := slv hx
    simp [Op.equalIn, run_underlying hu]
  · rename_i k e b hu
    have := sc (a := .map none) rfl hx; subst this
    cases h
    cases b with
    | none => have := sc (a := .map none) rfl hy; subst this; simp [Op.equalIn, run_underlying hu]
    | some b => obtain ⟨l, _, rfl⟩ := VR.map_ hy; simp [Op.equalIn, run_underlying hu]
  · rename_i k e b hu
    have := sc (a := .map none) rfl hy; subst this
    cases h
    obtain ⟨l, _, rfl⟩ := VR.map_ hx
    simp [Op.equalIn, run_underlying hu]
  · rename_i hu
    have := sc (a := .nilFunc) rfl hx; subst this
    have := sc (a := .nilFunc) rfl hy; subst this
    cases h
    simp [Op.equalIn, run_underlying hu]
  · rename_i hu
    have := sc (a := .nilFunc) rfl hx; subst this
    obtain ⟨f, xs', ys', _, rfl, _⟩ := VR.func_ hy
    cases h
    simp [Op.equalIn, run_underlying hu]
  · rename_i hu
    have := sc (a := .nilFunc) rfl hy; subst this
    obtain ⟨f, xs', ys', _, rfl, _⟩ := VR.func_ hx
    cases h
    simp [Op.equalIn, run_underlying hu]
  · rename_i fs xs ys hu
    have ha : tAgg P t = some true := by unfold tAgg; rw [hu]
    obtain ⟨zs, rfl, _⟩ := VR.agg_ hx
    obtain ⟨zs', rfl, _⟩ := VR.agg_ hy
    exact eqL_sound eqFuel (d + 1) hd t _ _ r h _ _ ⟨fun _ => ⟨zs, rfl, Cells.of_agg hx⟩, fun e => by rw [ha] at e; cases e⟩ ⟨fun _ => ⟨zs', rfl, Cells.of_agg hy⟩, fun e => by rw [ha] at e; cases e⟩ w
  · rename_i n e xs ys hu
    have ha : tAgg P t = some true := by unfold tAgg; rw [hu]
    obtain ⟨zs, rfl, _⟩ := VR.agg_ hx
    obtain ⟨zs', rfl, _⟩ := VR.agg_ hy
    exact eqL_sound eqFuel (d + 1) hd t _ _ r h _ _ ⟨fun _ => ⟨zs, rfl, Cells.of_agg hx⟩, fun e => by rw [ha] at e; cases e⟩ ⟨fun _ => ⟨zs', rfl, Cells.of_agg hy⟩, fun e => by rw [ha] at e; cases e⟩ w
  · rename_i de hu _ _ _ _ _ _ _ _ _
    have hc := eq1_cells h
    exact eq1_sound hu h (hx.true_of hc.1) (hy.true_of hc.2) d w
  · cases h
theorem eqV_sound {t : TypeId} {x y x' y' : Value} {r : Bool} (h : eqV P t x y = some r) (hx : VR M false x x') (hy : VR M false y y') : ∀ w, (Op.equal t x' y').run P w = .ok r w := eqV_sound_at h hx hy 9999 (by decide)

theorem VR.not_nilIface {x x' : Value} (h : VR M false x x') (h1 : x ≠ Am.junk) (h2 : x ≠ .nilIface) : x' ≠ .nilIface := by
  intro e
  subst e
  cases h with
  | cell _ _ h => cases h; exact h2 rfl
  | junk => exact h1 rfl

theorem run_eqGuard_agg {op : BinOp} {t : TypeId} {x y : Operand} {xs ys : Array Value} (h : P.eqGuardType P.depth t = false) (w : World) : (eqGuard op t x y (.agg xs) (.agg ys)).run P w = .ok () w := by
  unfold eqGuard
  cases op <;> simp [h]

def guardOk (P : Program) (op : BinOp) (t : TypeId) : Bool :=
  match op with
  | .eql | .neq => !P.eqGuardType P.depth t
  | _ => true

theorem run_eqGuard {op : BinOp} {t : TypeId} {x y : Operand} {a b : Value} (h : guardOk P op t = true) (ha : a ≠ .nilIface) (w : World) : (eqGuard op t x y a b).run P w = .ok () w := by
  cases a with
  | agg xs =>
    cases b with
    | agg ys =>
      cases op <;> first
        | rfl
        | (exact run_eqGuard_agg (by simpa [guardOk] using h) w)
    | _ => cases op <;> rfl
  | nilIface => exact absurd rfl ha
  | _ => cases op <;> rfl

theorem intOp_sound {op : BinOp} {t : TypeId} {k : IntKind} {a b : Int} {v : Value} (h1 : op ≠ .shl) (h2 : op ≠ .shr) (h : intOp op k a b = some v) (w : World) : (binOp op t (.int k a) (.int k b)).run P w = .ok v w ∧ scalar v = true := by
  cases op <;> simp only [intOp, Option.some.injEq, reduceCtorEq] at h <;> first
    | exact absurd rfl h1
    | exact absurd rfl h2
    | (subst h; exact ⟨by simp [binOp, Op.intArith, Op.intBits, Op.intCmp], rfl⟩)
    | (split at h
       · cases h
       · rename_i hb
         cases h
         exact ⟨by simp [binOp, Op.intDiv, hb], rfl⟩)
theorem shiftOp_sound {op : BinOp} {t : TypeId} {k k' : IntKind} {a b : Int} {v : Value} (h : shiftOp op k a b = some v) (w : World) : (binOp op t (.int k a) (.int k' b)).run P w = .ok v w ∧ scalar v = true := by
  unfold shiftOp at h
  split at h
  · cases h
  rename_i hb
  cases op <;> simp only [Option.some.injEq, reduceCtorEq] at h <;> subst h <;> exact ⟨by simp [binOp, Op.shift, hb], rfl⟩
theorem strOp_sound {op : BinOp} {t : TypeId} {a b : ByteArray} {v : Value} (h : strOp op a b = some v) (w : World) : (binOp op t (.string a) (.string b)).run P w = .ok v w ∧ scalar v = true := by
  unfold strOp at h
  split at h
  · split at h
    · cases h
    · rename_i hb
      cases h
      exact ⟨by simp only [binOp, Op.stringOp]; rw [if_neg hb]; rfl, rfl⟩
  all_goals (first | (cases h; exact ⟨by simp [binOp, Op.stringOp], rfl⟩) | cases h)

/-- Values of the model that stand at an operation. -/
theorem sound_val {n : Sem Next} {v v' : Value} (h : VR M false v v') (hr : ∀ w, n.run P w = .ok (.value v') w) : Sound P M n (.val v) := ⟨v', h, hr⟩

/-- Values that == takes by their type. -/
def eqHead : Value → Bool
  | .bool _ | .pointer _ | .slice .. | .map _ | .func .. | .nilFunc | .agg _ => true
  | _ => false
theorem VR.eqHead {x x' : Value} (h : VR M false x x') (hx : eqHead x = true) : Am.eqHead x' = true := by
  cases h with
  | cell _ _ h => cases h with
    | scalar v hs => exact hx
    | iface t v v' h => cases hx
    | _ => rfl
  | agg => rfl
  | tuple => cases hx
  | junk => cases hx
  | gone => cases hx
theorem eqV_head {t : TypeId} {x y : Value} {r : Bool} (h : eqV P t x y = some r) (hi : ∀ k a k' b, x = .int k a → y = .int k' b → False) (hs : ∀ a b, x = .string a → y = .string b → False) : Am.eqHead x = true := by
  unfold eqV at h
  split at h <;> first | rfl | skip
  · unfold eq1 at h
    split at h <;> first | rfl | (exfalso; exact hi _ _ _ _ rfl rfl) | (exfalso; exact hs _ _ rfl rfl) | cases h
  · cases h
theorem run_binOp_eq {t : TypeId} {x y : Value} (hx : Am.eqHead x = true) (w : World) : (binOp .eql t x y).run P w = ((Op.equal t x y).run P w).andThen fun b w' => .ok (.bool b) w' := by
  cases x <;> first | (cases hx; done) | (simp [binOp])
theorem run_binOp_ne {t : TypeId} {x y : Value} (hx : Am.eqHead x = true) (w : World) : (binOp .neq t x y).run P w = ((Op.equal t x y).run P w).andThen fun b w' => .ok (.bool (!b)) w' := by
  cases x <;> first | (cases hx; done) | (simp [binOp])
theorem eqP_sound_at (d : Nat) {i j o o' : Nat} {s s' : Option Nat} {x' y' : Value} {r : Bool} (hr : Rel M σ w) (hx : VR M false (.pointer (some ⟨i, o, s⟩)) x') (hy : VR M false (.pointer (some ⟨j, o', s'⟩)) y') (h : eqP ⟨i, o, s⟩ ⟨j, o', s'⟩ σ.get = some r)
    {t el : TypeId} {n : Nat} (hu : P.underlying t = some (.pointer el)) (hn : tSize P el = some (n + 1)) : (Op.equalIn (d + 1) t x' y').run P w = .ok r w := by
  obtain ⟨rfl, l, hl, rfl⟩ := VR.ptr_ hx
  obtain ⟨rfl, l', hl', rfl⟩ := VR.ptr_ hy
  unfold eqP at h
  simp only [Option.isSome_none, Bool.or_self, cond_false] at h
  split at h
  · rename_i c c' hi hj
    injection h with h
    obtain ⟨m, hm, hs⟩ := hr.shows i _ hi
    rw [hl] at hm; cases hm
    obtain ⟨m, hm, hs'⟩ := hr.shows j _ hj
    rw [hl'] at hm; cases hm
    obtain ⟨_, arr, e, fz, h2, _, h4, _⟩ := hs
    obtain ⟨_, arr', e', fz', h2', _, h4', _⟩ := hs'
    have hfz : fz = (0, 0) := h4.resolve_right (fun h => h.1 rfl)
    have hfz' : fz' = (0, 0) := h4'.resolve_right (fun h => h.1 rfl)
    subst hfz hfz'
    simp only [Op.equalIn, Sem.run_bind, run_underlying hu, Result.andThen_ok, run_tSize hn]
    simp only [ne_eq, Nat.add_eq_zero_iff, Nat.one_ne_zero, and_false, not_false_eq_true, if_true]
    by_cases hij : i = j
    · subst hij
      rw [hl] at hl'; cases hl'
      simp only [beq_self_eq_true, Bool.true_and] at h
      subst h
      simp only [sameAddr, beq_self_eq_true, if_true, Sem.run_pure]
      have hb : ((⟨l.block, l.base + o, none⟩ : Addr) == ⟨l.block, l.base + o', none⟩) = (o == o') := by
        by_cases ho : o = o'
        · subst ho; simp
        · rw [beq_eq_false_iff_ne.2 ho, beq_eq_false_iff_ne]
          intro h
          injection h with _ h
          omega
      rw [hb]
    · have hne := hr.apart i j _ _ l l' hi hj rfl hij hl hl'
      have hb : (i == j) = false := by simpa using hij
      rw [hb, Bool.false_and] at h
      subst h
      have hb' : (l.block == l'.block) = false := by simpa using hne
      have f1 : ∀ o, w.frozen? ⟨l.block, o, none⟩ = false := fun o => by simp [World.frozen?, h2]
      have f2 : ∀ o, w.frozen? ⟨l'.block, o, none⟩ = false := fun o => by simp [World.frozen?, h2']
      have s1 : w.shape? l.block = some (e, arr.size) := by simp [World.shape?, h2]
      have s2 : w.shape? l'.block = some (e', arr'.size) := by simp [World.shape?, h2']
      simp [sameAddr, hb', f1, f2, noView, viewAt, s1, s2, mayBeOne, stringish]
  · cases h

theorem eqP_sound {i j o o' : Nat} {s s' : Option Nat} {x' y' : Value} {r : Bool} (hr : Rel M σ w) (hx : VR M false (.pointer (some ⟨i, o, s⟩)) x') (hy : VR M false (.pointer (some ⟨j, o', s'⟩)) y') (h : eqP ⟨i, o, s⟩ ⟨j, o', s'⟩ σ.get = some r)
    {t el : TypeId} {n : Nat} (hu : P.underlying t = some (.pointer el)) (hn : tSize P el = some (n + 1)) : (Op.equal t x' y').run P w = .ok r w := eqP_sound_at 9999 hr hx hy h hu hn

theorem bin_sound {op : BinOp} {t yt : TypeId} {x y : Operand} {e ρ : Operand → Value} {A : Action} (hg : guardOk P op t = true) (hx : VR M false (e x) (ρ x)) (hy : VR M false (e y) (ρ y)) (h : binA P op t (e x) (e y) = some A)
    (o : Oper) (ho : o.op = .binOp op t x y yt) : Sound P M (execOp ρ o) A := by
  have hrun : ρ x ≠ .nilIface → ∀ w, (execOp ρ o).run P w = ((binOp op t (ρ x) (ρ y)).run P w).andThen fun a w' => .ok (.value a) w' := fun hne w => by
    simp [execOp, ho, run_eqGuard hg hne w]
  have direct : ∀ (v : Value), (∀ w, (binOp op t (ρ x) (ρ y)).run P w = .ok v w ∧ scalar v = true) → ρ x ≠ .nilIface → Sound P M (execOp ρ o) (.val v) := fun v hv hne =>
    ⟨v, .cell _ _ (.scalar v (hv default).2), fun w => by rw [hrun hne w, (hv w).1]; rfl⟩
  unfold binA at h
  split at h
  · rename_i k a k' b e1 e2
    rw [e1] at hx; rw [e2] at hy
    have ex := hx.int_; have ey := hy.int_
    cases hs : shiftOp .shl k a b with
    | none => rw [hs] at h; cases h
    | some v => rw [hs] at h; cases h; exact direct v (fun w => by rw [ex, ey]; exact shiftOp_sound hs w) (by rw [ex]; simp)
  · rename_i k a k' b e1 e2
    rw [e1] at hx; rw [e2] at hy
    have ex := hx.int_; have ey := hy.int_
    cases hs : shiftOp .shr k a b with
    | none => rw [hs] at h; cases h
    | some v => rw [hs] at h; cases h; exact direct v (fun w => by rw [ex, ey]; exact shiftOp_sound hs w) (by rw [ex]; simp)
  · rename_i op1 op2 x2 y2 k a k' b n1 n2 e1 e2
    rw [e1] at hx; rw [e2] at hy
    have ex := hx.int_; have ey := hy.int_
    cases hk : k == k' <;> rw [hk] at h <;> simp only [cond_true, cond_false] at h
    · cases h
    have hk' : k = k' := by simpa using hk
    subst hk'
    cases hs : intOp op1 k a b with
    | none => rw [hs] at h; cases h
    | some v =>
      rw [hs] at h; cases h
      exact direct v (fun w => by rw [ex, ey]; exact intOp_sound n1 n2 hs w) (by rw [ex]; simp)
  · rename_i op1 op2 x2 y2 a b e1 e2
    rw [e1] at hx; rw [e2] at hy
    have ex := hx.string_; have ey := hy.string_
    cases hs : strOp op1 a b with
    | none => rw [hs] at h; cases h
    | some v => rw [hs] at h; cases h; exact direct v (fun w => by rw [ex, ey]; exact strOp_sound hs w) (by rw [ex]; simp)
  · rename_i x2 y2 a b e1 e2
    rw [e1] at hx; rw [e2] at hy
    obtain ⟨i, oi, si⟩ := a
    obtain ⟨j, oj, sj⟩ := b
    split at h
    · rename_i el hu
      split at h
      · rename_i n hn
        cases h
        intro σ w v hr hv
        replace hv : Option.map Value.bool (eqP ⟨i, oi, si⟩ ⟨j, oj, sj⟩ σ.get) = some v := hv
        cases hq : eqP ⟨i, oi, si⟩ ⟨j, oj, sj⟩ σ.get with
        | none => rw [hq] at hv; cases hv
        | some r =>
          rw [hq] at hv; cases hv
          refine ⟨.bool r, .cell _ _ (.scalar _ rfl), ?_⟩
          obtain ⟨_, l, _, hx'⟩ := VR.ptr_ hx
          obtain ⟨_, l', _, hy'⟩ := VR.ptr_ hy
          have h0 := eqP_sound hr hx hy hq hu hn
          rw [hrun (by rw [hx']; simp) w]
          rw [hx', hy'] at h0 ⊢
          simp [binOp, h0]
      · cases h
    · cases h
  · rename_i x2 y2 a b e1 e2
    rw [e1] at hx; rw [e2] at hy
    obtain ⟨i, oi, si⟩ := a
    obtain ⟨j, oj, sj⟩ := b
    split at h
    · rename_i el hu
      split at h
      · rename_i n hn
        cases h
        intro σ w v hr hv
        replace hv : Option.map (fun r => Value.bool !r) (eqP ⟨i, oi, si⟩ ⟨j, oj, sj⟩ σ.get) = some v := hv
        cases hq : eqP ⟨i, oi, si⟩ ⟨j, oj, sj⟩ σ.get with
        | none => rw [hq] at hv; cases hv
        | some r =>
          rw [hq] at hv; cases hv
          refine ⟨.bool (!r), .cell _ _ (.scalar _ rfl), ?_⟩
          obtain ⟨_, l, _, hx'⟩ := VR.ptr_ hx
          obtain ⟨_, l', _, hy'⟩ := VR.ptr_ hy
          have h0 := eqP_sound hr hx hy hq hu hn
          rw [hrun (by rw [hx']; simp) w]
          rw [hx', hy'] at h0 ⊢
          simp [binOp, h0]
      · cases h
    · cases h
  · rename_i x2 y2 n1 n2 n3
    cases hq : eqV P t (e x) (e y) with
    | none => rw [hq] at h; cases h
    | some r =>
      rw [hq] at h; cases h
      have hh := VR.eqHead hx (eqV_head hq (fun k a k' b h1 h2 => n1 k a k' b h1 h2) (fun a b h1 h2 => n2 a b h1 h2))
      exact direct (.bool r) (fun w => by rw [run_binOp_eq hh, eqV_sound hq hx hy w]; exact ⟨rfl, rfl⟩) (fun h0 => by rw [h0] at hh; cases hh)
  · rename_i x2 y2 n1 n2 n3
    cases hq : eqV P t (e x) (e y) with
    | none => rw [hq] at h; cases h
    | some r =>
      rw [hq] at h; cases h
      have hh := VR.eqHead hx (eqV_head hq (fun k a k' b h1 h2 => n1 k a k' b h1 h2) (fun a b h1 h2 => n2 a b h1 h2))
      exact direct (.bool !r) (fun w => by rw [run_binOp_ne hh, eqV_sound hq hx hy w]; exact ⟨rfl, rfl⟩) (fun h0 => by rw [h0] at hh; cases hh)
  · cases h
end Go.Am
