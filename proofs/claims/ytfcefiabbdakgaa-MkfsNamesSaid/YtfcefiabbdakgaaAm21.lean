/- The abstract machine, part 21: what a run says of a call. No program in sight. -/
import Derived.Test.YtfcefiabbdakgaaAm20
import Derived.Below
set_option linter.all false
namespace Go.Am
open Go.RowKit
variable {P : Program}

def yes : Ans → Bool
  | some (.bool true, _) => true
  | _ => false
theorem yes_spec {x : Ans} (h : yes x = true) : ∃ σ', x = some (.bool true, σ') := by
  unfold yes at h
  split at h
  · exact ⟨_, rfl⟩
  · cases h

/-- Nothing that lay there is changed by a call that owns nothing. -/
theorem Sim.below {f : FuncId} {args : List Value} {σ σ' : Store} {r : Value} (h : Sim P f args σ r σ') {M : Places} {w : World} {cargs : Array Value} (hr : Rel M σ w) (ha : VRs M args cargs) (ho : ∀ i o, σ.get i = some o → o.own = false) :
    Calls P f cargs w fun e w' => ∃ M' v, e = .returned v ∧ VR M' false r v ∧ Rel M' σ' w' ∧ Below w.heap.size w w' := by
  refine Calls.mono (h.2 M w cargs hr ha) ?_
  rintro e w' ⟨M', v, h1, h2, h3, h4⟩
  refine ⟨M', v, h1, h2, h3, h4.os, h4.tape, h4.output, h4.size, fun k hk => h4.frame k hk ?_⟩
  rintro ⟨i, o, l, k1, k2, _⟩
  rw [ho i o k1] at k2; cases k2
theorem empty_get (i : Nat) : Store.empty.get i = none := Store.get_none (Nat.zero_le _)
theorem rel_empty (w : World) : Rel (fun _ => none) Store.empty w :=
  ⟨fun i o h => (by rw [empty_get] at h; cases h), fun i j a b l l' h => (by rw [empty_get] at h; cases h), fun _ _ => rfl⟩
theorem calls_of_run {T : Given} (hT : ∀ f g, T f = some g → ∀ args σ v σ', g args σ = some (v, σ') → Sim P f args σ v σ') {n : Nat} {f : FuncId} (h : yes (pcall P T n f [] Store.empty) = true) (w : World) :
    Calls P f #[] w fun e w' => e = .returned (.bool true) ∧ Below w.heap.size w w' := by
  obtain ⟨σ', hx⟩ := yes_spec h
  have hs := pcall_sim hT n f [] Store.empty _ _ hx
  refine Calls.mono (hs.below (rel_empty w) ⟨rfl, fun i v v' hv => by simp at hv⟩ fun i o h => by rw [empty_get] at h; cases h) ?_
  rintro e w' ⟨M', v, rfl, h2, _, h4⟩
  rw [h2.bool_]
  exact ⟨rfl, h4⟩
/-- A call of scalars that answers a scalar does so whatever else lies there, and leaves it. -/
theorem Sim.anywhere {f : FuncId} {args : List Value} {r : Value} {σ' : Store} (h : Sim P f args Store.empty r σ') (ha : ∀ v ∈ args, scalar v = true) (hr : scalar r = true) (σ : Store) : Sim P f args σ r σ := by
  refine ⟨Nat.le_refl _, fun M w cargs hrel hargs => ?_⟩
  have hargs0 : VRs (fun _ => none) args cargs := ⟨hargs.1, fun i v v' hv hv' => by
    have hs := ha v (List.mem_of_getElem? hv)
    rw [VR.scalar_eq hs (hargs.2 i v v' hv hv')]
    exact .cell _ _ (.scalar v hs)⟩
  refine Calls.mono (h.below (rel_empty w) hargs0 fun i o h => by rw [empty_get] at h; cases h) ?_
  rintro e w' ⟨M', v, rfl, h2, _, hb⟩
  rw [VR.scalar_eq hr h2]
  refine ⟨M, r, rfl, .cell _ _ (.scalar r hr), ⟨fun i o hi => ?_, hrel.apart, hrel.dom⟩, ⟨Nat.le_refl _, M.le_refl, hb.size, fun b hb0 _ => hb.block b hb0, fun _ _ h => h, fun _ _ h => h, hb.os, hb.tape, hb.output⟩⟩
  obtain ⟨l, hl, hs⟩ := hrel.shows i o hi
  exact ⟨l, hl, hs.same (hb.block _ hs.lt)⟩
theorem Shows.back {M M' : Places} {w w' : World} {l : Loc} {o : SObj} (hm : M.le M') (h : Shows M w l o) (h' : Shows M' w' l o) : Shows M w' l o := by
  cases o with
  | cells c g =>
    obtain ⟨h1, arr, e, fz, h2, h3, h4, h5⟩ := h
    obtain ⟨k1, arr', e', fz', k2, k3, k4, k5⟩ := h'
    refine ⟨k1, arr', e', fz', k2, fun j v hv => ?_, k4, k5⟩
    obtain ⟨u, a1, a2⟩ := h3 j v hv
    obtain ⟨u', b1, b2⟩ := k3 j v hv
    exact ⟨u', b1, a2.back hm b2⟩
  | map es ck =>
    obtain ⟨h1, es1, h2, h3⟩ := h
    obtain ⟨k1, es2, k2, k3⟩ := h'
    refine ⟨k1, es2, k2, k3.1, fun i e e' he he' => ?_⟩
    have hi : i < es.length := (List.getElem?_eq_some_iff.1 he).1
    have hi1 : i < es1.size := by have := h3.1; omega
    have he1 : es1[i]? = some es1[i] := Array.getElem?_eq_getElem hi1
    obtain ⟨a1, a2, a3⟩ := h3.2 i e _ he he1
    obtain ⟨b1, b2, b3⟩ := k3.2 i e e' he he'
    exact ⟨b1, a2.back hm b2, a3.back hm b3⟩
  | lent c =>
    obtain ⟨h1, h0, h2⟩ := h
    obtain ⟨k1, k0, k2⟩ := h'
    refine ⟨k1, k0, fun j v hv => ?_⟩
    obtain ⟨u, a1, a2⟩ := h2 j v hv
    obtain ⟨u', b1, b2⟩ := k2 j v hv
    exact ⟨u', b1, a2.back hm b2⟩
/-- A call that changes nothing that was there and answers no id leaves the store. -/
theorem Sim.pure {f : FuncId} {args : List Value} {σ σ' : Store} {r : Value} (h : Sim P f args σ r σ') (hr : closed r = true) (hs : ∀ i o, σ.get i = some o → σ'.get i = some o) : Sim P f args σ r σ := by
  refine ⟨Nat.le_refl _, fun M w cargs hrel hargs => Calls.mono (h.2 M w cargs hrel hargs) ?_⟩
  rintro e w' ⟨M', v, rfl, h2, h3, h4⟩
  refine ⟨M, v, rfl, (VR.of_closed hr).back h4.le h2, ⟨fun i o hi => ?_, hrel.apart, hrel.dom⟩, ⟨Nat.le_refl _, M.le_refl, h4.size, h4.frame, fun _ _ h => h, fun _ _ h => h, h4.os, h4.tape, h4.output⟩⟩
  obtain ⟨l, hl, hsh⟩ := hrel.shows i o hi
  obtain ⟨l', hl', hsh'⟩ := h3.shows i o (hs i o hi)
  have := h4.le i l hl
  rw [this] at hl'; cases hl'
  exact ⟨l, hl, hsh.back h4.le hsh'⟩
theorem Does.pure {f : FuncId} {args : List Value} {σ : Store} {r : Value} {Q : Value → Store → Prop} (h : Does P f args σ fun r' σ' => r' = r ∧ ∀ i o, σ.get i = some o → σ'.get i = some o) (hr : closed r = true) (hq : Q r σ) : Does P f args σ Q := by
  obtain ⟨r', σ', h1, rfl, h2⟩ := h
  exact ⟨r', σ, h1.pure hr h2, hq⟩
/-- Nothing is given. -/
def nothing : Given := fun _ => none
theorem nothing_ok : ∀ f g, nothing f = some g → ∀ args σ v σ', g args σ = some (v, σ') → Sim P f args σ v σ' := fun _ _ h => by cases h
end Go.Am
