/- Slices of slices among arguments: cells that are lent. No program in sight. -/
import Derived.Test.YtkmalbaollffiaaChg
set_option linter.all false
namespace Go.Am
open Go.ChangeShapes Go.WideShapes Go.ChangeAt Go.RowKit
def AllLent (σ : Store) : Prop := ∀ i o, σ.get i = some o → o.own = false
theorem AllLent.empty : AllLent Store.empty := fun i o h => by rw [empty_get] at h; cases h
theorem AllLent.push {σ : Store} (h : AllLent σ) (c : List Value) : AllLent (σ.push (.lent c)) := fun i o hi => by
  rw [Store.get_push] at hi
  split at hi
  · cases hi; rfl
  · exact h i o hi
section
variable {H : Type} {enc : TypeId × Value → H} {P : Program} {w : World} {held : Bool} {r : Reach} {b0 : Nat} {t : TypeId} {v : Value}
/-- A slice among a call's own cells. -/
theorem top_slice {e : TypeId} (ht : P.underlying t = some (.slice e)) (h : Cell.okWide P w r b0 t v) : v = .slice none 0 0 ∨ ∃ b o len cap, v = .slice (some ⟨b, o, none⟩) len cap ∧ b < w.heap.size := by
  have h : Cell.ok P w r b0 t v := by
    unfold Cell.okWide at h
    rw [ht] at h
    simpa using h
  unfold Cell.ok at h
  rw [ht] at h
  split at h
  all_goals first
    | (rename_i e1 _; cases e1; done)
    | (rename_i e1; cases e1; done)
    | (left; rfl)
    | exact h.elim
    | skip
  rename_i a len cap _ _
  obtain ⟨_, _, _, hs, row, cells, hsh, _⟩ := h
  obtain ⟨b, o, s⟩ := a
  have hs : s = none := hs
  subst hs
  refine .inr ⟨b, o, len, cap, rfl, ?_⟩
  unfold World.shape? at hsh
  by_cases hb : b < w.heap.size
  · exact hb
  · rw [Array.getElem?_eq_none (by simpa using hb)] at hsh; cases hsh
theorem cell_at {a : Addr} {x : Value} (h : w.cell? a = some x) : a.spot = none ∧ a.block < w.heap.size := by
  unfold World.cell? at h
  split at h
  · rename_i hb
    refine ⟨?_, (Array.getElem?_eq_some_iff.1 hb).1⟩
    cases hs : a.spot with
    | none => rfl
    | some y => rw [hs] at h; simp at h
  · cases h
theorem add_zero (a : Addr) : a.add 0 = a := by unfold Addr.add; rw [if_pos rfl]
/-- A slice among other cells: it may be hollow. -/
theorem in_slice {e : TypeId} {fuel : Nat} {x : DataW H × List MemPlace} (ht : P.underlying t = some (.slice e)) (hce : 0 < P.cellsOf e) (h : DataW.trod enc P w 0 (fun _ => true) held fuel t [v] = some x) :
    v = .slice none 0 0 ∨ (∃ a, v = .slice (some a) 0 0) ∨ ∃ b o len cap, v = .slice (some ⟨b, o, none⟩) len cap ∧ len ≤ maxLen ∧ b < w.heap.size ∧ ∀ i, i < len → ∃ cs fuel x, w.cells? 0 ⟨b, o + i * P.cellsOf e, none⟩ (P.cellsOf e) = some cs ∧ DataW.trod enc P w 0 (fun _ => true) held fuel e cs = some x := by
  rcases DataW.trod_slice ht h with ⟨e1, _⟩ | ⟨a, len, cap, el, rest, n, _, e1, _, _, hlc, hcm, hl, hx, hsp, _⟩
  · left; simpa using e1
  · have e2 : v = .slice (some a) len cap := by simpa using e1
    subst e2
    rcases Nat.eq_zero_or_pos cap with h0 | h0
    · have : len = 0 := by omega
      subst h0 this
      exact .inr (.inl ⟨a, rfl⟩)
    · have hone : ∃ cs, w.cells? 0 a (P.cellsOf e) = some cs := by
        rcases Nat.eq_zero_or_pos len with h1 | h1
        · obtain ⟨hr, hj⟩ := hsp rfl
          have := hj 0 (by omega)
          rw [h1, Nat.zero_add, Nat.zero_mul, add_zero, List.getElem?_eq_getElem (by omega)] at this
          cases hcs : w.cells? 0 a (P.cellsOf e) with
          | none => rw [hcs] at this; cases this
          | some cs => exact ⟨cs, rfl⟩
        · have := hx 0 h1
          rw [Nat.zero_mul, add_zero, List.getElem?_eq_getElem (by omega)] at this
          cases hcs : w.cells? 0 a (P.cellsOf e) with
          | none => rw [hcs] at this; cases this
          | some cs => exact ⟨cs, rfl⟩
      obtain ⟨cs, hcs⟩ := hone
      have hc0 : ∃ y, w.cell? a = some y := by
        unfold World.cells? at hcs
        rw [if_pos (Nat.zero_le _)] at hcs
        obtain ⟨m, hm⟩ : ∃ m, P.cellsOf e = m + 1 := ⟨P.cellsOf e - 1, by omega⟩
        rw [hm, List.range_succ_eq_map, List.mapM_cons, add_zero] at hcs
        cases hy : w.cell? a with
        | none => rw [hy] at hcs; simp at hcs
        | some y => exact ⟨y, rfl⟩
      obtain ⟨y, hy⟩ := hc0
      obtain ⟨hs, hb⟩ := cell_at hy
      obtain ⟨b, o, s⟩ := a
      have hs : s = none := hs
      subst hs
      refine .inr (.inr ⟨b, o, len, cap, rfl, by omega, hb, fun i hi => ?_⟩)
      have := hx i hi
      rw [List.getElem?_eq_getElem (by omega)] at this
      rw [add_none] at this
      cases hcs : w.cells? 0 ⟨b, o + i * P.cellsOf e, none⟩ (P.cellsOf e) with
      | none => rw [hcs] at this; cases this
      | some cs => rw [hcs] at this; exact ⟨cs, n, _, rfl, this⟩
/-- A world's slice holds these changes. -/
def ChgSl (w : World) (v : Value) (l : List (Int × Int)) : Prop :=
  (l = [] ∧ (v = .slice none 0 0 ∨ ∃ a, v = .slice (some a) 0 0)) ∨ ∃ b o cap, v = .slice (some ⟨b, o, none⟩) l.length cap ∧ b < w.heap.size ∧ ∀ j x, (chgC l)[j]? = some x → w.cell? ⟨b, o + j, none⟩ = some x
theorem in_changes {e : TypeId} {f0 f1 : Field} {fuel : Nat} {x : DataW H × List MemPlace} (ht : P.underlying t = some (.slice e)) (he : P.underlying e = some (.struct #[f0, f1])) (h0 : f0.offset = 0 ∧ P.cellsOf f0.type = 1 ∧ P.underlying f0.type = some (.int .i64)) (h1 : f1.offset = 1 ∧ P.cellsOf f1.type = 1 ∧ P.underlying f1.type = some (.int .u8)) (hce : P.cellsOf e = 2)
    (h : DataW.trod enc P w 0 (fun _ => true) held fuel t [v] = some x) : ∃ l : List (Int × Int), l.length ≤ maxLen ∧ (∀ p ∈ l, 0 ≤ p.2 ∧ p.2 < 256) ∧ ChgSl w v l := by
  rcases in_slice ht (by omega) h with rfl | ⟨a, rfl⟩ | ⟨b, o, len, cap, rfl, hml, hb, hx⟩
  · exact ⟨[], Nat.zero_le _, fun p hp => absurd hp List.not_mem_nil, .inl ⟨rfl, .inl rfl⟩⟩
  · exact ⟨[], Nat.zero_le _, fun p hp => absurd hp List.not_mem_nil, .inl ⟨rfl, .inr ⟨a, rfl⟩⟩⟩
  · have key : ∀ i, i < len → ∃ p : Int × Int, (0 ≤ p.2 ∧ p.2 < 256) ∧ w.cell? ⟨b, o + i * 2, none⟩ = some (.int .i64 p.1) ∧ w.cell? ⟨b, o + i * 2 + 1, none⟩ = some (.int .u8 p.2) := fun i hi => by
      obtain ⟨cs, fuel, x, hcs, htr⟩ := hx i hi
      rw [hce] at hcs
      obtain ⟨xs, m, rfl, rfl, hl, hxl, hf⟩ := DataW.trod_struct he htr
      rw [hce] at hl
      have t0 := hf 0 f0 rfl
      have t1 := hf 1 f1 rfl
      rw [h0.1, h0.2.1, List.getElem?_eq_getElem (by simp at hxl ⊢; omega)] at t0
      rw [h1.1, h1.2.1, List.getElem?_eq_getElem (by simp at hxl ⊢; omega)] at t1
      obtain ⟨n0, e0, _, w0⟩ := DataW.trod_int h0.2.2 t0
      obtain ⟨n1, e1, _, w1⟩ := DataW.trod_int h1.2.2 t1
      exact ⟨(n0, n1), wf_u8 w1, cells_get hcs (take1 e0), cells_get hcs (take1 e1)⟩
    obtain ⟨f, hf⟩ := Go.Deep.choose_lt key
    refine ⟨(List.range len).map f, by simpa using hml, fun p hp => ?_, .inr ⟨b, o, cap, by simp, hb, fun j v hv => ?_⟩⟩
    · obtain ⟨i, hi, rfl⟩ := List.mem_map.1 hp
      exact (hf i (by simpa using hi)).1
    · have hlt : j < len * 2 := by
        have := (List.getElem?_eq_some_iff.1 hv).1
        rw [chgC_len] at this; simpa using this
      have hi : j / 2 < len := by omega
      have hg : ((List.range len).map f)[j / 2]? = some (f (j / 2)) := by rw [List.getElem?_map, List.getElem?_range hi]; rfl
      obtain ⟨g1, g2⟩ := chgC_get hg
      obtain ⟨_, k1, k2⟩ := hf (j / 2) hi
      rcases Nat.mod_two_eq_zero_or_one j with h | h
      · rw [show j = j / 2 * 2 by omega, g1] at hv
        rw [show j = j / 2 * 2 by omega, k1, ← hv]
      · rw [show j = j / 2 * 2 + 1 by omega, g2] at hv
        rw [show o + j = o + j / 2 * 2 + 1 by omega, k2, ← hv]
/-- What a slice of a store holds: none, hollow, or cells that are lent. -/
def LentSl (σ : Store) (v : Value) (l : List (Int × Int)) : Prop := (l = [] ∧ (v = .slice none 0 0 ∨ v = hollow)) ∨ ∃ i cap, v = .slice (some ⟨i, 0, none⟩) l.length cap ∧ σ.get i = some (.lent (chgC l))
theorem LentSl.keep {σ σ' : Store} {v : Value} {l : List (Int × Int)} (h : LentSl σ v l) (k : Keeps σ σ') : LentSl σ' v l := by
  rcases h with h | ⟨i, cap, rfl, hi⟩
  · exact .inl h
  · exact .inr ⟨i, cap, rfl, k.get hi⟩
theorem keeps_lent (σ : Store) (c : List Value) : Keeps σ (σ.push (.lent c)) := (Keeps.refl σ).push _
theorem lend_one {σ : Store} {M : Places} {l : List (Int × Int)} (hr : Rel M σ w) (ha : AllLent σ) (h : ChgSl w v l) : ∃ σ' M' u, Rel M' σ' w ∧ AllLent σ' ∧ Keeps σ σ' ∧ M.le M' ∧ VR M' true u v ∧ LentSl σ' u l := by
  rcases h with ⟨rfl, rfl | ⟨a, rfl⟩⟩ | ⟨b, o, cap, rfl, hb, hc⟩
  · exact ⟨σ, M, .slice none 0 0, hr, ha, Keeps.refl _, M.le_refl, .scalar _ rfl, .inl ⟨rfl, .inl rfl⟩⟩
  · exact ⟨σ, M, hollow, hr, ha, Keeps.refl _, M.le_refl, .hollow a, .inl ⟨rfl, .inr rfl⟩⟩
  · have hr' := hr.lend (c := chgC l) (b := b) (o := o) (fun j x hj => ⟨x, hc j x hj, .scalar x (chgC_scalar l x (List.mem_of_getElem? hj))⟩) hb fun i x l' hi hx => by rw [ha i x hi] at hx; cases hx
    refine ⟨_, _, .slice (some ⟨σ.next, 0, none⟩) l.length cap, hr', ha.push _, keeps_lent _ _, Places.le_upd _ (hr.dom _ (Nat.le_refl _)), .slice σ.next 0 l.length cap ⟨b, o, none⟩ (Places.upd_same _ _ _), .inr ⟨_, cap, rfl, Store.get_push_same _ _⟩⟩
theorem lend_all : ∀ {vs : List Value} {ts : List (List (Int × Int))} {σ : Store} {M : Places}, vs.length = ts.length → (∀ (i : Nat) v t, vs[i]? = some v → ts[i]? = some t → ChgSl w v t) → Rel M σ w → AllLent σ →
    ∃ (σ' : Store) (M' : Places) (us : List Value), Rel M' σ' w ∧ AllLent σ' ∧ Keeps σ σ' ∧ M.le M' ∧ us.length = vs.length ∧ (∀ (i : Nat) u v, us[i]? = some u → vs[i]? = some v → VR M' true u v) ∧ ∀ (i : Nat) u t, us[i]? = some u → ts[i]? = some t → LentSl σ' u t
  | [], [], σ, M, _, _, hr, ha => ⟨σ, M, [], hr, ha, Keeps.refl _, M.le_refl, rfl, fun i u v h => by simp at h, fun i u v h => by simp at h⟩
  | [], _ :: _, _, _, h, _, _, _ => by simp at h
  | _ :: _, [], _, _, h, _, _, _ => by simp at h
  | v :: vs, t :: ts, σ, M, hl, h, hr, ha => by
    obtain ⟨σ1, M1, u, r1, a1, k1, m1, v1, l1⟩ := lend_one hr ha (h 0 v t rfl rfl)
    obtain ⟨σ2, M2, us, r2, a2, k2, m2, l2, v2, s2⟩ := lend_all (by simpa using hl) (fun i v t hv ht => h (i + 1) v t (by simpa using hv) (by simpa using ht)) r1 a1
    refine ⟨σ2, M2, u :: us, r2, a2, k1.trans k2, Places.le_trans m1 m2, by simp [l2], fun i x y hx hy => ?_, fun i x y hx hy => ?_⟩
    · cases i with
      | zero => simp at hx hy; subst hx hy; exact v1.mono m2
      | succ i => exact v2 i x y (by simpa using hx) (by simpa using hy)
    · cases i with
      | zero => simp at hx hy; subst hx hy; exact l1.keep k2
      | succ i => exact s2 i x y (by simpa using hx) (by simpa using hy)
/-- Cells of the world are lent. -/
theorem lend_cells {σ : Store} {M : Places} {b o : Nat} {us : List Value} {len cap : Nat} (hr : Rel M σ w) (ha : AllLent σ) (hb : b < w.heap.size) (hlen : us.length = len) (hc : ∀ (j : Nat) u, us[j]? = some u → ∃ v, w.cell? ⟨b, o + j, none⟩ = some v ∧ VR M true u v) :
    ∃ σ' M' u, Rel M' σ' w ∧ AllLent σ' ∧ Keeps σ σ' ∧ M.le M' ∧ VR M' true u (.slice (some ⟨b, o, none⟩) len cap) ∧ SlR σ' 1 u len us := by
  have hr' := hr.lend (c := us) (b := b) (o := o) hc hb fun i x l' hi hx => by rw [ha i x hi] at hx; cases hx
  exact ⟨_, _, .slice (some ⟨σ.next, 0, none⟩) len cap, hr', ha.push _, keeps_lent _ _, Places.le_upd _ (hr.dom _ (Nat.le_refl _)), .slice σ.next 0 len cap ⟨b, o, none⟩ (Places.upd_same _ _ _),
    by rw [hlen, Nat.mul_one], .inr ⟨σ.next, 0, none, cap, .lent us, us, rfl, .inl rfl, Store.get_push_same _ _, rfl, by rw [List.drop_zero, Nat.mul_one, ← hlen, List.take_length]⟩⟩
end
end Go.Am
