/- Arguments of a call, as the abstract machine has them. No program in sight. -/
import Derived.Test.YthojojlgmaoecaaGreatAm34
import Derived.Test.YthojojlgmaoecaaGreatMapc
import Derived.ProofKit
import Derived.OpenShut
import Derived.ShutString
import Derived.ChangeOld
import Derived.Deep.Slices
import Derived.Carry
set_option linter.all false
namespace Go.Am
open Go.ChangeShapes Go.WideShapes Go.ChangeAt Go.RowKit
section
variable {H : Type} {enc : TypeId × Value → H} {P : Program} {w : World} {base : Nat} {spare : Nat → Bool} {held : Bool} {r : Reach} {b0 : Nat} {t : TypeId} {v : Value} {d : DataW H} {ps : List MemPlace}
def numOf : Value → Int
  | .int _ n => n
  | _ => 0
theorem trod_agg {cs : List Value} (hd : DataW.Trod enc P w base spare held t (.agg ⟨cs⟩) d ps) : ∃ fuel, DataW.trod enc P w base spare held fuel t cs = some (d, ps) := hd
/-- Cells that are whole numbers of a kind. -/
theorem cells_nums {k : IntKind} {cs : List Value} (h : ∀ i, i < cs.length → ∃ n, cs[i]? = some (.int k n)) : cs = (cs.map numOf).map (.int k) := by
  refine List.ext_getElem? fun i => ?_
  by_cases hi : i < cs.length
  · obtain ⟨n, hn⟩ := h i hi
    rw [List.map_map, List.getElem?_map, hn]; rfl
  · rw [List.getElem?_eq_none (by omega), List.getElem?_eq_none (by simp; omega)]
theorem wf_u8 {n : Int} (h : (Lit.int .u8 n).wf = true) : 0 ≤ n ∧ n < 256 := by
  have : IntKind.u8.min ≤ n ∧ n ≤ IntKind.u8.max := by simpa [Lit.wf] using h
  have e1 : IntKind.u8.min = 0 := rfl
  have e2 : IntKind.u8.max = 255 := rfl
  omega
theorem take1 {cs : List Value} {i : Nat} {v : Value} (h : (cs.drop i).take 1 = [v]) : cs[i]? = some v := by
  have := congrArg (·[0]?) h
  simpa [List.getElem?_take, List.getElem?_drop] using this
/-- An array of bytes, in cells. -/
theorem rd_bytes {n : Nat} {e : TypeId} {cs : List Value} {fuel : Nat} {x : DataW H × List MemPlace} (ht : P.underlying t = some (.array n e)) (he : P.underlying e = some (.int .u8)) (ce : P.cellsOf e = 1) (ct : P.cellsOf t = n) (h : DataW.trod enc P w base spare held fuel t cs = some x) :
    ∃ b : List Int, cs = bc b ∧ b.length = n ∧ ∀ v ∈ b, 0 ≤ v ∧ v < 256 := by
  obtain ⟨xs, m, rfl, rfl, hl, hxl, hx⟩ := DataW.trod_array ht h
  rw [ct] at hl
  have key : ∀ i, i < n → ∃ k, cs[i]? = some (.int .u8 k) ∧ 0 ≤ k ∧ k < 256 := fun i hi => by
    have h1 := hx i hi
    rw [ce, Nat.mul_one, List.getElem?_eq_getElem (by omega)] at h1
    obtain ⟨k, e1, _, hw⟩ := DataW.trod_int he h1
    exact ⟨k, take1 e1, wf_u8 hw⟩
  refine ⟨cs.map numOf, cells_nums fun i hi => ?_, by simp [hl], fun v hv => ?_⟩
  · obtain ⟨k, hk, _⟩ := key i (by omega)
    exact ⟨k, hk⟩
  · obtain ⟨y, hy, rfl⟩ := List.mem_map.1 hv
    obtain ⟨i, hi, rfl⟩ := List.getElem_of_mem hy
    obtain ⟨k, hk, h2⟩ := key i (by omega)
    rw [List.getElem?_eq_getElem hi] at hk
    rw [Option.some.inj hk]; exact h2
end
theorem VRs.two {M : Places} {a b a' b' : Value} (h1 : VR M false a a') (h2 : VR M false b b') : VRs M [a, b] #[a', b'] := by
  refine ⟨rfl, fun i v v' hv hv' => ?_⟩
  match i with
  | 0 => simp at hv hv'; subst hv; subst hv'; exact h1
  | 1 => simp at hv hv'; subst hv; subst hv'; exact h2
  | i + 2 => simp at hv
theorem VRs.one {M : Places} {a a' : Value} (h1 : VR M false a a') : VRs M [a] #[a'] := by
  refine ⟨rfl, fun i v v' hv hv' => ?_⟩
  match i with
  | 0 => simp at hv hv'; subst hv; subst hv'; exact h1
  | i + 1 => simp at hv
end Go.Am
