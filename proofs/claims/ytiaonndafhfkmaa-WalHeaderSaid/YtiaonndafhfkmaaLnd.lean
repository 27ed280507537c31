/- Rows of cells among arguments, some of them slices: all of it lent. No program in sight. -/
import Derived.Test.YtiaonndafhfkmaaPly
set_option linter.all false
namespace Go.Am
open Go.ChangeShapes Go.WideShapes Go.ChangeAt Go.RowKit
/-- What a cell is: a scalar, or a slice of so many elements with these cells. -/
inductive Dsc where
  | sc
  | sl (n : Nat) (c : List Value)
def InC (w : World) (v : Value) : Dsc → Prop
  | .sc => scalar v = true
  | .sl n c => (n = 0 ∧ c = [] ∧ (v = .slice none 0 0 ∨ ∃ a, v = .slice (some a) 0 0)) ∨ ∃ b o cap, v = .slice (some ⟨b, o, none⟩) n cap ∧ b < w.heap.size ∧ c.all scalar = true ∧ ∀ j x, c[j]? = some x → w.cell? ⟨b, o + j, none⟩ = some x
def OutC (σ : Store) (u v : Value) : Dsc → Prop
  | .sc => u = v
  | .sl n c => (n = 0 ∧ c = [] ∧ (u = .slice none 0 0 ∨ u = hollow)) ∨ ∃ i cap, u = .slice (some ⟨i, 0, none⟩) n cap ∧ σ.get i = some (.lent c)
theorem OutC.keep {σ σ' : Store} {u v : Value} {d : Dsc} (h : OutC σ u v d) (k : Keeps σ σ') : OutC σ' u v d := by
  cases d with
  | sc => exact h
  | sl n c =>
    rcases h with h | ⟨i, cap, rfl, hi⟩
    · exact .inl h
    · exact .inr ⟨i, cap, rfl, k.get hi⟩
section
variable {w : World}
theorem lend_dsc {σ : Store} {M : Places} {v : Value} {d : Dsc} (hr : Rel M σ w) (ha : AllLent σ) (h : InC w v d) : ∃ (σ' : Store) (M' : Places) (u : Value), Rel M' σ' w ∧ AllLent σ' ∧ Keeps σ σ' ∧ M.le M' ∧ VR M' true u v ∧ OutC σ' u v d := by
  cases d with
  | sc => exact ⟨σ, M, v, hr, ha, Keeps.refl _, M.le_refl, .scalar v h, rfl⟩
  | sl n c =>
    rcases h with ⟨rfl, rfl, rfl | ⟨a, rfl⟩⟩ | ⟨b, o, cap, rfl, hb, hs, hc⟩
    · exact ⟨σ, M, .slice none 0 0, hr, ha, Keeps.refl _, M.le_refl, .scalar _ rfl, .inl ⟨rfl, rfl, .inl rfl⟩⟩
    · exact ⟨σ, M, hollow, hr, ha, Keeps.refl _, M.le_refl, .hollow a, .inl ⟨rfl, rfl, .inr rfl⟩⟩
    · have hr' := hr.lend (c := c) (b := b) (o := o) (fun j x hj => ⟨x, hc j x hj, .scalar x (List.all_eq_true.1 hs x (List.mem_of_getElem? hj))⟩) hb fun i x l' hi hx => by rw [ha i x hi] at hx; cases hx
      exact ⟨_, _, .slice (some ⟨σ.next, 0, none⟩) n cap, hr', ha.push _, keeps_lent _ _, Places.le_upd _ (hr.dom _ (Nat.le_refl _)), .slice σ.next 0 n cap ⟨b, o, none⟩ (Places.upd_same _ _ _), .inr ⟨_, cap, rfl, Store.get_push_same _ _⟩⟩
theorem lend_row : ∀ {vs : List Value} {ds : List Dsc} {σ : Store} {M : Places}, vs.length = ds.length → (∀ (i : Nat) v d, vs[i]? = some v → ds[i]? = some d → InC w v d) → Rel M σ w → AllLent σ →
    ∃ (σ' : Store) (M' : Places) (us : List Value), Rel M' σ' w ∧ AllLent σ' ∧ Keeps σ σ' ∧ M.le M' ∧ us.length = vs.length ∧ (∀ (i : Nat) u v, us[i]? = some u → vs[i]? = some v → VR M' true u v) ∧ ∀ (i : Nat) u v d, us[i]? = some u → vs[i]? = some v → ds[i]? = some d → OutC σ' u v d
  | [], [], σ, M, _, _, hr, ha => ⟨σ, M, [], hr, ha, Keeps.refl _, M.le_refl, rfl, fun i u v h => by simp at h, fun i u v d h => by simp at h⟩
  | [], _ :: _, _, _, h, _, _, _ => by simp at h
  | _ :: _, [], _, _, h, _, _, _ => by simp at h
  | v :: vs, d :: ds, σ, M, hl, h, hr, ha => by
    obtain ⟨σ1, M1, u, r1, a1, k1, m1, v1, l1⟩ := lend_dsc hr ha (h 0 v d rfl rfl)
    obtain ⟨σ2, M2, us, r2, a2, k2, m2, l2, v2, s2⟩ := lend_row (by simpa using hl) (fun i v d hv hd => h (i + 1) v d (by simpa using hv) (by simpa using hd)) r1 a1
    refine ⟨σ2, M2, u :: us, r2, a2, k1.trans k2, Places.le_trans m1 m2, by simp [l2], fun i x y hx hy => ?_, fun i x y z hx hy hz => ?_⟩
    · cases i with
      | zero => simp at hx hy; subst hx hy; exact v1.mono m2
      | succ i => exact v2 i x y (by simpa using hx) (by simpa using hy)
    · cases i with
      | zero => simp at hx hy hz; subst hx hy hz; exact l1.keep k2
      | succ i => exact s2 i x y z (by simpa using hx) (by simpa using hy) (by simpa using hz)
/-- A row of the world, as a slice of elements of sz cells. -/
theorem lend_slice {σ : Store} {M : Places} {vs : List Value} {ds : List Dsc} {b o sz len cap : Nat} (hr : Rel M σ w) (ha : AllLent σ) (hb : b < w.heap.size) (hlen : vs.length = len * sz) (hd : vs.length = ds.length) (hvs : ∀ (j : Nat) v, vs[j]? = some v → w.cell? ⟨b, o + j, none⟩ = some v) (hin : ∀ (i : Nat) v d, vs[i]? = some v → ds[i]? = some d → InC w v d) :
    ∃ (σ' : Store) (M' : Places) (us : List Value) (u : Value), Rel M' σ' w ∧ AllLent σ' ∧ Keeps σ σ' ∧ M.le M' ∧ VR M' true u (.slice (some ⟨b, o, none⟩) len cap) ∧ us.length = vs.length ∧ SlR σ' sz u len us ∧ ∀ (i : Nat) u v d, us[i]? = some u → vs[i]? = some v → ds[i]? = some d → OutC σ' u v d := by
  obtain ⟨σ1, M1, us, r1, a1, k1, m1, l1, v1, o1⟩ := lend_row hd hin hr ha
  have hr' := r1.lend (c := us) (b := b) (o := o) (fun j u hu => by
    have hj : j < vs.length := by have := (List.getElem?_eq_some_iff.1 hu).1; omega
    exact ⟨vs[j], hvs j _ (List.getElem?_eq_getElem hj), v1 j u _ hu (List.getElem?_eq_getElem hj)⟩) hb fun i x l' hi hx => by rw [a1 i x hi] at hx; cases hx
  have k2 : Keeps σ1 (σ1.push (.lent us)) := keeps_lent _ _
  refine ⟨_, _, us, .slice (some ⟨σ1.next, 0, none⟩) len cap, hr', a1.push _, k1.trans k2, Places.le_trans m1 (Places.le_upd _ (r1.dom _ (Nat.le_refl _))), .slice σ1.next 0 len cap ⟨b, o, none⟩ (Places.upd_same _ _ _), l1, ⟨by rw [l1, hlen], .inr ⟨σ1.next, 0, none, cap, .lent us, us, rfl, .inl rfl, Store.get_push_same _ _, rfl, ?_⟩⟩, fun i u v d hu hv hd => (o1 i u v d hu hv hd).keep k2⟩
  rw [List.drop_zero, List.take_of_length_le (by omega)]
end
/-- A slice of one-cell elements, as it is read. -/
def ElV (σ : Store) (v : Value) (c : List Value) : Prop :=
  lenSl v = some (.int .i64 (c.length : Nat)) ∧ ∀ (i : Nat), i < c.length → ∃ a o, iaddrS 1 v (.int .i64 (i : Nat)) = some (.pointer (some ⟨a, o, none⟩)) ∧ a < σ.next ∧ rdOne (σ.get a) o = c[i]?
theorem ElV.of {σ : Store} {v : Value} {c : List Value} (h : SlR σ 1 v c.length c) : ElV σ v c := ⟨h.len, fun i hi => by
  obtain ⟨a, o, q1, q2, q3, q4⟩ := h.at (by decide) hi
  rw [Nat.mul_one] at q4
  exact ⟨a, o, q1 .i64, q2, q4⟩⟩
theorem ElV.keep {σ σ' : Store} {v : Value} {c : List Value} (h : ElV σ v c) (hg : ∀ i o, σ.get i = some o → σ'.get i = some o) (hn : σ.next ≤ σ'.next) : ElV σ' v c := ⟨h.1, fun i hi => by
  obtain ⟨a, o, q1, q2, q3⟩ := h.2 i hi
  refine ⟨a, o, q1, by omega, ?_⟩
  cases hx : σ.get a with
  | none =>
    rw [hx] at q3
    rw [List.getElem?_eq_getElem hi] at q3
    cases q3
  | some x => rw [hg a x hx, ← hx]; exact q3⟩
theorem OutC.el {σ : Store} {u v : Value} {c : List Value} (h : OutC σ u v (.sl c.length c)) : ElV σ u c := by
  rcases h with ⟨h0, h1, rfl | rfl⟩ | ⟨i, cap, rfl, hi⟩
  · rw [h1]; exact ⟨rfl, fun i hi => by simp at hi⟩
  · rw [h1]; exact ⟨rfl, fun i hi => by simp at hi⟩
  · exact ElV.of ⟨by simp, .inr ⟨i, 0, none, cap, .lent c, c, rfl, .inl rfl, hi, rfl, by rw [List.drop_zero, Nat.mul_one, List.take_length]⟩⟩
section
variable {H : Type} {enc : TypeId × Value → H} {P : Program} {w : World} {held : Bool} {t : TypeId} {v : Value}
end
end Go.Am
