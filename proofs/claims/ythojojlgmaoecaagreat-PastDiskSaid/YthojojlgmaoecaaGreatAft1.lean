/- What is behind the first k of a list of ops when the power has gone: the pure thing, and the closure that writes. -/
import Derived.Test.YthojojlgmaoecaaGreatMay
import Derived.Test.YthojojlgmaoecaaGreatIm5
set_option linter.all false
set_option maxRecDepth 100000
set_option maxHeartbeats 400000
namespace Go.Proofs.YthojojlgmaoecaaGreat
open Go.Am
variable {σ : Store} {Q : Value → Store → Prop} {n : Int} {v u : Value} {L : List HB} {O : List OP} {f : Int → Option (List Int)} {ks : List Bool}
/-- A slice that holds at least as many as it tells. -/
def CapOk (v : Value) : Prop := ∀ p n k, v = .slice p n k → n ≤ k
theorem SlR_cut {sz m N : Nat} {c : List Value} (h : SlR σ sz v N c) (hc : CapOk v) (hm : m ≤ N) : ∃ w, sliceSl sz v none (some (.int .i64 (m : Nat))) = some w ∧ SlR σ sz w m (c.take (m * sz)) := by
  have hml : m * sz ≤ N * sz := Nat.mul_le_mul_right _ hm
  rcases h.2 with ⟨rfl, k, rfl⟩ | ⟨i, o, g, k, obj, d, rfl, h2, h3, h4, h5⟩
  · have : m = 0 := by omega
    subst this
    refine ⟨.slice none 0 k, by simp [sliceSl, bound], ?_⟩
    rw [Nat.zero_mul, List.take_zero]; exact SlR.nil
  · have hk := hc _ _ _ rfl
    have hmk : m ≤ k := by omega
    have hbl : Nat.ble m k = true := Nat.ble_eq_true_of_le hmk
    refine ⟨.slice (some ⟨i, o, g⟩) m k, by rcases h2 with rfl | rfl <;> simp [sliceSl, bound, hmk, hbl], by rw [List.length_take, h.1]; omega, .inr ⟨i, o, g, k, obj, d, rfl, h2, h3, h4, ?_⟩⟩
    rw [← h5, List.take_take, Nat.min_eq_left hml]
def wrF (f : Int → Option (List Int)) (o : OP) : Int → Option (List Int) := if o.1 = 1 then fun x => if x = o.2.1 then some o.2.2 else f x else f
def sureF (f : Int → Option (List Int)) (O : List OP) : Int → Option (List Int) := O.foldl wrF f
theorem sureF_snoc {i : Nat} {o : OP} (h : O[i]? = some o) : sureF f (O.take (i + 1)) = wrF (sureF f (O.take i)) o := by
  unfold sureF
  rw [List.take_succ, h, List.foldl_append]; rfl
def openF (f : Int → Option (List Int)) (O : List OP) (P : List Nat) (ks : List Bool) : Nat → Int → Option (List Int)
  | 0 => f
  | i + 1 => if ks.getD i false = true then wrF (openF f O P ks i) (O.getD (P.getD i 0) (0, 0, [])) else openF f O P ks i
/-- The blocks by their numbers. -/
def aftF (L : List HB) (O : List OP) (k : Nat) (ks : List Bool) : Int → Option (List Int) := openF (sureF (ldF (fun _ => none) L) (O.take (splitL O k))) O (pendL O k) ks (pendL O k).length
theorem made_ {i r : Nat} {k a : Int} {b : List Int} (hb : b.length = 1024) (hi : σ.get i = some (.cells [.map (some r)] none)) (hm : MapAt σ r fun x => (f x).map bv)
    (hq : ∀ st, σ.next ≤ st.next → (∀ j, j < σ.next → j ≠ r → st.get j = σ.get j) → (MapAt st r fun x => (wrF f (k, a, b) x).map bv) → Q (.tuple #[]) st) :
    Does Tryz.prog 27 [.agg ⟨.int .u8 k :: .int .i64 a :: bc b⟩, .pointer (some ⟨i, 0, none⟩)] σ Q := by
  refine d27 ?_
  obtain ⟨s1, hs1⟩ : ∃ s1, s1 = σ.push (.cells (.int .u8 k :: .int .i64 a :: bc b) none) := ⟨_, rfl⟩
  have k1 : Keeps σ s1 := by rw [hs1]; exact (Keeps.refl _).push _
  have c1 : s1.get σ.next = some (.cells (.int .u8 k :: .int .i64 a :: bc b) none) := by rw [hs1]; exact Store.get_push_same _ _
  have ci := k1.get hi
  have hm1 := hm.same (k1.2 _ hm.lt)
  have n1 : s1.next = σ.next + 1 := by rw [hs1, Store.next_push]
  unfold p27
  rw [box_agg, nop_some, ← hs1]
  by_cases h1 : k = 1
  · have e1 : (k == 1) = true := by simp [h1]
    obtain ⟨ob, u1, u2⟩ := hm1.upd a (bv b)
    unfold bv at u1
    have e2 : rdPart (some (.cells (.int .u8 k :: .int .i64 a :: bc b) none)) 2 1024 = some (.agg ⟨bc b⟩) := by
      have h1 : Nat.ble (2 + 1024) (Value.int .u8 k :: Value.int .i64 a :: bc b).length = true := Nat.ble_eq_true_of_le (by simp [hb])
      simp only [rdPart, part?, h1, cond_true, List.drop_succ_cons, List.drop_zero]
      rw [List.take_of_length_le (by rw [bc_len]; omega)]
    simp -implicitDefEqProofs (maxSteps := 2000000) (disch := first|assumption|omega|rfl|(simp only[RD];done)|(simp only[RD];omega)) only [RN,Int.reduceBEq,Int.reduceBNe,Int.reduceLT,Int.reduceLE,Int.reduceAdd,Int.reduceSub,Int.reduceMul,Nat.reduceAdd,↓bc_flatz,↓bc_flat16,↓agg_bytez, c1, e1, ci, e2, u1]
    refine hq _ (by rw [next_max]; omega) (fun j hj hjr => by rw [get_put_ne' hjr, k1.2 j hj]) ?_
    have e : (fun x => (wrF f (k, a, b) x).map bv) = fun z => if z = a then some (bv b) else (f z).map bv := by
      funext z
      unfold wrF
      rw [if_pos h1]
      by_cases hz : z = a <;> simp [hz]
    rw [e]; exact u2
  · have e1 : (k == 1) = false := by simp [h1]
    simp -implicitDefEqProofs (maxSteps := 2000000) (disch := first|assumption|omega|rfl|(simp only[RD];done)|(simp only[RD];omega)) only [RN,Int.reduceBEq,Int.reduceBNe,Int.reduceLT,Int.reduceLE,Int.reduceAdd,Int.reduceSub,Int.reduceMul,Nat.reduceAdd,↓bc_flatz,↓bc_flat16,↓agg_bytez, c1, e1]
    refine hq _ (by omega) (fun j hj _ => k1.2 j hj) ?_
    have e : wrF f (k, a, b) = f := by unfold wrF; rw [if_neg h1]
    rw [e]; exact hm1
end Go.Proofs.YthojojlgmaoecaaGreat
