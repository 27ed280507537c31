/- The abstract machine, part 22: laws for contracts. No program in sight. -/
import Derived.Test.YtfcefiabbdakgaaAm21
set_option linter.all false
namespace Go.Am
open Go.RowKit
variable {P : Program} {ops : Array Oper} {o : Oper} {rest : List Oper} {K : List Value → Store → Prop} {a a' : List Value} {σ σ' : Store} {v : Value}

theorem st_val (hg : guardA ops a o = some true) (hA : action P o (aev a) = some (.val v)) (ha : aput a o.dst v = a') (h : seqOps (PI P) P ops rest K a' σ) : seqOps (PI P) P ops (o :: rest) K a σ := by
  subst ha
  unfold seqOps; simp only [hg, hA]; exact h
theorem st_rd {f : (Nat → Option SObj) → Option Value} (hg : guardA ops a o = some true) (hA : action P o (aev a) = some (.rd f)) (hf : f σ.get = some v) (ha : aput a o.dst v = a') (h : seqOps (PI P) P ops rest K a' σ) : seqOps (PI P) P ops (o :: rest) K a σ := by
  subst ha
  unfold seqOps; simp only [hg, hA, doAct, hf]; exact h
theorem st_new {ob : SObj} {mk : Nat → Value} (hg : guardA ops a o = some true) (hA : action P o (aev a) = some (.new ob mk)) (ha : aput a o.dst (mk σ.next) = a') (h : seqOps (PI P) P ops rest K a' (σ.push ob)) : seqOps (PI P) P ops (o :: rest) K a σ := by
  subst ha
  unfold seqOps; simp only [hg, hA]; exact h
theorem st_eff {f : Store → Option (Value × Store)} (hg : guardA ops a o = some true) (hA : action P o (aev a) = some (.eff f)) (hf : f σ = some (v, σ')) (ha : aput a o.dst v = a') (h : seqOps (PI P) P ops rest K a' σ') : seqOps (PI P) P ops (o :: rest) K a σ := by
  subst ha
  unfold seqOps; simp only [hg, hA, doAct, hf]; exact h
theorem st_call {f : FuncId} {args : List Value} (hg : guardA ops a o = some true) (hA : action P o (aev a) = some (.call f args)) (h : Does P f args σ fun v σ' => seqOps (PI P) P ops rest K (aput a o.dst v) σ') : seqOps (PI P) P ops (o :: rest) K a σ := by
  unfold seqOps; simp only [hg, hA]; exact h
theorem st_skip (hg : guardA ops a o = some false) (ha : aput a o.dst gone = a') (h : seqOps (PI P) P ops rest K a' σ) : seqOps (PI P) P ops (o :: rest) K a σ := by
  subst ha
  unfold seqOps; simp only [hg]; exact h
theorem set_same {t : Nat} {x : Value} (h : a[t]? = some x) : a.set t x = a := by
  apply List.ext_getElem?
  intro i
  rw [List.getElem?_set]
  by_cases e : t = i
  · subst e
    rw [if_pos rfl, h]
    split
    · rfl
    · rename_i hn
      rw [List.getElem?_eq_none (by omega)] at h
      cases h
  · rw [if_neg e]
theorem st_learn {R : List Value → Store → Prop} {t : Nat} {b : Bool} (ht : a[t]? = some (.bool b)) (h1 : b = true → R (a.set t (.bool true)) σ) (h0 : b = false → R (a.set t (.bool false)) σ) : R a σ := by
  cases b with
  | true => have := h1 rfl; rwa [set_same ht] at this
  | false => have := h0 rfl; rwa [set_same ht] at this

/-! ## what side goals want -/
theorem indexAddr_arr {t e : TypeId} {n c b o : Nat} {k : IntKind} {i : Int} (hu : P.underlying t = some (.array n e)) (hc : tSize P e = some c) (h0 : 0 ≤ i) (h1 : i < n) : indexAddrV P t (.pointer (some ⟨b, o, none⟩)) (.int k i) = some (.pointer (some ⟨b, o + i.toNat * c, none⟩)) := by
  simp only [indexAddrV, hu, hc, h0, h1, and_self, if_true]
theorem indexAddr_slice {t e : TypeId} {n c b o cap : Nat} {s : Option Nat} {k : IntKind} {i : Int} (hu : P.underlying t = some (.slice e)) (hc : tSize P e = some c) (hs : s = none ∨ s = some c) (h0 : 0 ≤ i) (h1 : i < n) : indexAddrV P t (.slice (some ⟨b, o, s⟩) n cap) (.int k i) = some (.pointer (some ⟨b, o + i.toNat * c, none⟩)) := by
  rcases hs with rfl | rfl <;> simp [indexAddrV, hu, hc, h0, h1]
theorem load_cells {n i o : Nat} {g : Nat → Option SObj} {c : List Value} {gr : Option Nat} (h : g i = some (.cells c gr)) (hl : o + n ≤ c.length) : loadV true n (.pointer (some ⟨i, o, none⟩)) g = some (.agg ((c.drop o).take n).toArray) := by
  simp [loadV, h, part?, Nat.ble_eq_true_of_le hl]
theorem load_all {n i : Nat} {g : Nat → Option SObj} {c : List Value} {gr : Option Nat} (h : g i = some (.cells c gr)) (hl : c.length = n) : loadV true n (.pointer (some ⟨i, 0, none⟩)) g = some (.agg c.toArray) := by
  rw [load_cells h (by omega)]
  simp [List.take_of_length_le (Nat.le_of_eq hl)]
theorem load_cell {n i o : Nat} {g : Nat → Option SObj} {c : List Value} {gr : Option Nat} {v : Value} (h : g i = some (.cells c gr)) (hv : c[o]? = some v) : loadV false n (.pointer (some ⟨i, o, none⟩)) g = some v := by
  simp [loadV, h, part?, hv]
theorem store_cells {n i o : Nat} {c vs : List Value} {gr : Option Nat} {v : Value} (h : σ.get i = some (.cells c gr)) (ha : asCells n v = some vs) (hl : o + n ≤ c.length) : storeV n (.pointer (some ⟨i, o, none⟩)) v σ = some (junk, σ.put i (some (.cells (splice c o vs) gr))) := by
  simp [storeV, h, ha, Nat.ble_eq_true_of_le hl]
theorem splice_one {c : List Value} {o : Nat} {v : Value} (h : o < c.length) : splice c o [v] = c.set o v := by
  rw [List.set_eq_take_append_cons_drop, if_pos h]
  unfold splice
  cases o with
  | zero => simp
  | succ o => simp
theorem wrap_i64 {n : Int} (h0 : -9223372036854775808 ≤ n) (h1 : n < 9223372036854775808) : IntKind.i64.wrap n = n := by
  have h2 : (2 : Int) ^ 64 = 18446744073709551616 := rfl
  have h3 : (2 : Int) ^ (64 - 1) = 9223372036854775808 := rfl
  simp only [IntKind.wrap, IntKind.bits, IntKind.signed, Bool.true_and, decide_eq_true_eq, h2, h3]
  split <;> omega
section
variable {b : Array Nat} {i : Nat} {lrest : List Nat} {past : List Store} {cur s : Store} {fl fl' : List (Nat × ((Nat → Option SObj) → Option Value) × Value)}
theorem dr_val (ho : ops[i]? = some o) (he : isEff o.op = false) (hg : guardA ops a o = some true) (hA : action P o (aev a) = some (.val v)) (ha : aput a o.dst v = a') (h : drawOps (PI P) P ops b lrest K a' past cur fl) : drawOps (PI P) P ops b (i :: lrest) K a past cur fl := by
  subst ha
  unfold drawOps; simp only [ho, he, hg, hA, cond_false]; exact h
theorem dr_skip (ho : ops[i]? = some o) (he : isEff o.op = false) (hg : guardA ops a o = some false) (ha : aput a o.dst gone = a') (h : drawOps (PI P) P ops b lrest K a' past cur fl) : drawOps (PI P) P ops b (i :: lrest) K a past cur fl := by
  subst ha
  unfold drawOps; simp only [ho, he, hg, cond_false]; exact h
theorem dr_new {ob : SObj} {mk : Nat → Value} (ho : ops[i]? = some o) (he : isEff o.op = false) (hg : guardA ops a o = some true) (hA : action P o (aev a) = some (.new ob mk)) (ha : aput a o.dst (mk cur.next) = a') (h : drawOps (PI P) P ops b lrest K a' past (cur.push ob) fl) : drawOps (PI P) P ops b (i :: lrest) K a past cur fl := by
  subst ha
  unfold drawOps; simp only [ho, he, hg, hA, cond_false]; exact h
theorem dr_rd {f : (Nat → Option SObj) → Option Value} (ho : ops[i]? = some o) (he : isEff o.op = false) (hg : guardA ops a o = some true) (hA : action P o (aev a) = some (.rd f)) (hs : past.getLastD cur = s) (hf : f s.get = some v) (ha : aput a o.dst v = a')
    (hfl : (bif Nat.blt (highOf ops b i + 1) past.length || Nat.beq (highOf ops b i + 1) past.length then fl else (highOf ops b i, f, v) :: fl) = fl') (h : checkAll (PI P) f v ((past.drop (lowOf ops b i)).dropLast) (drawOps (PI P) P ops b lrest K a' past cur fl')) : drawOps (PI P) P ops b (i :: lrest) K a past cur fl := by
  subst ha hs hfl
  unfold drawOps; simp only [ho, he, hg, hA, hf, cond_false]; exact h
theorem dr_eff {f : Store → Option (Value × Store)} (ho : ops[i]? = some o) (he : isEff o.op = true) (hg : guardA ops a o = some true) (hA : action P o (aev a) = some (.eff f)) (hf : f cur = some (v, s)) (ha : aput a o.dst v = a') (h : recheck (PI P) past.length s fl (drawOps (PI P) P ops b lrest K a' (past ++ [s]) s fl)) : drawOps (PI P) P ops b (i :: lrest) K a past cur fl := by
  subst ha
  unfold drawOps; simp only [ho, he, hg, hA, doAct, hf, cond_true]; exact h
theorem dr_call {f : FuncId} {args : List Value} (ho : ops[i]? = some o) (he : isEff o.op = true) (hg : guardA ops a o = some true) (hA : action P o (aev a) = some (.call f args)) (h : Does P f args cur fun v s => recheck (PI P) past.length s fl (drawOps (PI P) P ops b lrest K (aput a o.dst v) (past ++ [s]) s fl)) : drawOps (PI P) P ops b (i :: lrest) K a past cur fl := by
  unfold drawOps; simp only [ho, he, hg, hA, cond_true]; exact h
theorem dr_effval (ho : ops[i]? = some o) (he : isEff o.op = true) (hg : guardA ops a o = some true) (hA : action P o (aev a) = some (.val v)) (ha : aput a o.dst v = a') (h : recheck (PI P) past.length cur fl (drawOps (PI P) P ops b lrest K a' (past ++ [cur]) cur fl)) : drawOps (PI P) P ops b (i :: lrest) K a past cur fl := by
  subst ha
  unfold drawOps; simp only [ho, he, hg, hA, doAct, cond_true]; exact h
theorem dr_effskip (ho : ops[i]? = some o) (he : isEff o.op = true) (hg : guardA ops a o = some false) (ha : aput a o.dst gone = a') (h : recheck (PI P) past.length cur fl (drawOps (PI P) P ops b lrest K a' (past ++ [cur]) cur fl)) : drawOps (PI P) P ops b (i :: lrest) K a past cur fl := by
  subst ha
  unfold drawOps; simp only [ho, he, hg, cond_true]; exact h
theorem rc_yes {k hi : Nat} {f : (Nat → Option SObj) → Option Value} {r : Prop} (hk : Nat.ble k hi = true) (h0 : f s.get = some v) (h : recheck (PI P) k s fl r) : recheck (PI P) k s ((hi, f, v) :: fl) r := by
  unfold recheck; rw [hk]; exact ⟨h0, h⟩
theorem rc_no {k hi : Nat} {f : (Nat → Option SObj) → Option Value} {r : Prop} (hk : Nat.ble k hi = false) (h : recheck (PI P) k s fl r) : recheck (PI P) k s ((hi, f, v) :: fl) r := by
  unfold recheck; rw [hk]; exact h
theorem ca_cons {f : (Nat → Option SObj) → Option Value} {r : Prop} {ss : List Store} (h0 : f s.get = some v) (h : checkAll (PI P) f v ss r) : checkAll (PI P) f v (s :: ss) r := ⟨h0, h⟩
end
theorem append_nil {sz by_ j m c : Nat} {gj gr : Option Nat} {news : List Value} (hj : σ.get j = some (.cells news gr)) (hl : news.length = (m + 1) * sz) (hb : (m + 1) * by_ ≤ 140737488355328) (hm : m + 1 ≤ 9223372036854775807) :
    appendV sz by_ (.slice none 0 0) (.slice (some ⟨j, 0, gj⟩) (m + 1) c) σ = some (.slice (some ⟨σ.next, 0, some sz⟩) (m + 1) (m + 1), σ.push (.cells news (some sz))) := by
  simp [appendV, lenV, sourceV, cellsAt, hj, Nat.ble_eq_true_of_le (Nat.le_of_eq hl.symm), Nat.ble_eq_true_of_le hb, Nat.ble_eq_true_of_le hm, List.take_of_length_le (Nat.le_of_eq hl)]
theorem append_full {sz by_ i j n m c : Nat} {gj gr : Option Nat} {cs news : List Value} (hi : σ.get i = some (.cells cs (some sz))) (hcl : cs.length = n * sz) (hj : σ.get j = some (.cells news gr)) (hl : news.length = (m + 1) * sz) (hb : (n + (m + 1)) * by_ ≤ 140737488355328) (hm : n + (m + 1) ≤ 9223372036854775807) :
    appendV sz by_ (.slice (some ⟨i, 0, some sz⟩) n n) (.slice (some ⟨j, 0, gj⟩) (m + 1) c) σ = some (.slice (some ⟨σ.next, 0, some sz⟩) (n + (m + 1)) (n + (m + 1)), (σ.put i none).push (.cells (cs ++ news) (some sz))) := by
  have h0 : Nat.ble (n + (m + 1)) n = false := by
    cases hx : Nat.ble (n + (m + 1)) n with
    | false => rfl
    | true => have := Nat.le_of_ble_eq_true hx; omega
  have h1 : Nat.ble (0 + n * sz) cs.length = true := Nat.ble_eq_true_of_le (by omega)
  have h2 : cs.take (n * sz) = cs := List.take_of_length_le (by omega)
  simp [appendV, lenV, sourceV, cellsAt, hi, hj, h0, h2, Nat.ble_eq_true_of_le (Nat.le_of_eq hl.symm), Nat.ble_eq_true_of_le hb, Nat.ble_eq_true_of_le hm, List.take_of_length_le (Nat.le_of_eq hl), hcl, Nat.ble_eq_true_of_le (Nat.le_refl (n * sz))]
/-- A slice that is built. -/
def sliceA (P : Program) (t : TypeId) (n : Nat) (parts : List (Nat × Value)) : Option Action :=
  match P.underlying t with
  | some (.slice el) =>
    (match tZeros P el with
    | some ze =>
      (match buildL (List.replicate n ze) parts with
      | some fs => bif Nat.ble (n * ze.length) 16777216 then some (.new (.cells fs.flatten none) fun i => .slice (some ⟨i, 0, none⟩) n n) else none
      | none => none)
    | none => none)
  | _ => none
theorem slice1_spec {t el : TypeId} {ze c : List Value} {v : Value} (hu : P.underlying t = some (.slice el)) (hz : tZeros P el = some ze) (hc : asCells ze.length v = some c) (hl : ze.length ≤ 16777216) : sliceA P t 1 [(0, v)] = some (.new (.cells c none) fun i => .slice (some ⟨i, 0, none⟩) 1 1) := by
  simp [sliceA, hu, hz, buildL, hc, Nat.ble_eq_true_of_le hl]
theorem build_struct {t : TypeId} {fields : Array Field} {z : List Value} {ns : List Nat} {parts : List (Nat × Value)} {fs : List (List Value)} (hu : P.underlying t = some (.struct fields)) (hz : tZeros P t = some z) (hn : fieldSizes P fields.toList = some ns) (hb : buildL (cutL ns z) parts = some fs) : buildAgg P t parts = some (.agg fs.flatten.toArray) := by
  simp [buildAgg, hu, hz, hn, hb]
theorem res_nil {a : List Value} {σ : Store} : resVs P a σ [] = some [] := rfl
theorem res_tmp {a : List Value} {σ : Store} {t : Nat} {rs : List ResultVar} {vs : List Value} {v : Value} (hv : aget a t = v) (h : resVs P a σ rs = some vs) : resVs P a σ (.tmp t :: rs) = some (v :: vs) := by
  subst hv
  simp [resVs, resV, h]
theorem res_cell {a : List Value} {σ : Store} {t : Nat} {ty : TypeId} {rs : List ResultVar} {vs : List Value} {b : Bool} {n : Nat} {x v : Value} (hb : tAgg P ty = some b) (hn : tSize P ty = some n) (hx : aget a t = x) (hv : loadV b n x σ.get = some v) (h : resVs P a σ rs = some vs) : resVs P a σ (.cell t ty :: rs) = some (v :: vs) := by
  subst hx
  simp [resVs, resV, h, hb, hn, hv]
theorem st_res {X : Option (List Value)} {vs : List Value} {F : Option (List Value) → Prop} (h : X = some vs) (hF : F (some vs)) : F X := by rw [h]; exact hF
/-- The cells of a type's zero value, by name. -/
def zerosOf (P : Program) (t : TypeId) : List Value := (tZeros P t).getD []
/-- A round hands on to one with less to go. -/
def Next (Inv : Nat → List Value → Store → Prop) (n : Nat) (xs : List Value) (σ : Store) : Prop := ∃ m, m < n ∧ Inv m xs σ
/-- How a loop begins. -/
def Start (Inv : Nat → List Value → Store → Prop) (n : Nat) (xs : List Value) (σ : Store) : Prop := Inv n xs σ
theorem rounds_le {F : (List Value → Store → Prop) → List Value → Store → Prop} (h : ∀ N N' : List Value → Store → Prop, (∀ xs s, N xs s → N' xs s) → ∀ xs s, F N xs s → F N' xs s) : ∀ {n m : Nat}, n ≤ m → ∀ xs s, rounds F n xs s → rounds F m xs s
  | 0, _, _, _, _, hh => hh.elim
  | n + 1, 0, hle, _, _, _ => absurd hle (by omega)
  | n + 1, m + 1, hle, xs, s, hh => h _ _ (rounds_le h (by omega)) xs s hh
theorem Start.mk {Inv : Nat → List Value → Store → Prop} {n : Nat} {xs : List Value} {σ : Store} (h : Inv n xs σ) : Start Inv n xs σ := h
theorem Next.mk {Inv : Nat → List Value → Store → Prop} {n : Nat} {xs : List Value} {σ : Store} (m : Nat) (hm : m < n) (h : Inv m xs σ) : Next Inv n xs σ := ⟨m, hm, h⟩
theorem loop_inv {c : Code} {D : List Nat} {Ko : Out → List Value → Store → Prop} (Inv : Nat → List Value → Store → Prop) (n : Nat) (h0 : Start Inv n ((carried D c).map (aget a)) σ)
    (hs : ∀ n xs σ, Inv n xs σ → loopF P c D a Ko (Next Inv n) xs σ) : codeG (PI P) P (.loop c) D Ko a σ := by
  have hm : ∀ N N' : List Value → Store → Prop, (∀ xs s, N xs s → N' xs s) → ∀ xs s, loopF P c D a Ko N xs s → loopF P c D a Ko N' xs s := fun N N' hN xs s hh => by
    unfold loopF at hh ⊢
    refine codeG_mono (fun e a s h1 => ?_) hh
    cases e with
    | normal => exact hN _ _ h1
    | _ => exact h1
  refine codeG_loop.2 ⟨n + 1, ?_⟩
  have key : ∀ n xs s, Inv n xs s → rounds (loopF P c D a Ko) (n + 1) xs s := by
    intro n
    induction n using Nat.strongRecOn with
    | ind n ih =>
      intro xs s hi
      refine hm _ _ ?_ xs s (hs n xs s hi)
      rintro xs' s' ⟨m, hlt, hi'⟩
      exact rounds_le hm (by omega) _ _ (ih m hlt xs' s' hi')
  exact key n _ _ h0

attribute [irreducible] Next Start zerosOf
end Go.Am
