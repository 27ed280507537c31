/- The abstract machine, part 31: how printed functions are gone through. No program in sight. -/
import Derived.Test.YtfcefiabbdakgaaAm30
set_option linter.all false
namespace Go.Am
open Go.RowKit
variable {P : Program}

theorem vop_some (v : Value) (σ : Store) (K : Value → Store → Prop) : vop (some v) σ K = K v σ := rfl
theorem nop_some (o : SObj) (mk : Nat → Value) (σ : Store) (K : Value → Store → Prop) : nop (some (o, mk)) σ K = K (mk σ.next) (σ.push o) := rfl
theorem eop_some (v : Value) (s : Store) (K : Value → Store → Prop) : eop (some (v, s)) K = K v s := rfl
theorem cop_some (f : FuncId) (as : List Value) (σ : Store) (K : Value → Store → Prop) : cop P (some (f, as)) σ K = Does P f as σ K := rfl
theorem jop_eq (n : Nat) (M : NF n → Prop) (k : NF n) : jop n M k = M k := rfl
theorem gop_tt (σ : Store) (A : (Value → Store → Prop) → Prop) (K : Value → Store → Prop) : gop (.bool true) true σ A K = A K := rfl
theorem gop_ff (σ : Store) (A : (Value → Store → Prop) → Prop) (K : Value → Store → Prop) : gop (.bool false) false σ A K = A K := rfl
theorem gop_tf (σ : Store) (A : (Value → Store → Prop) → Prop) (K : Value → Store → Prop) : gop (.bool true) false σ A K = K gone σ := rfl
theorem gop_ft (σ : Store) (A : (Value → Store → Prop) → Prop) (K : Value → Store → Prop) : gop (.bool false) true σ A K = K gone σ := rfl
theorem gop_gone (w : Bool) (σ : Store) (A : (Value → Store → Prop) → Prop) (K : Value → Store → Prop) : gop (.chan (some 0)) w σ A K = K gone σ := rfl
theorem condH_true (p q : Prop) : condH (.bool true) p q = p := rfl
theorem condH_false (p q : Prop) : condH (.bool false) p q = q := rfl
theorem kop_some (v : Value) (p : Prop) : kop (some v) v p = p := by unfold kop; simp
theorem gsel_tt (f : (Nat → Option SObj) → Option Value) (g : Nat → Option SObj) : gsel (.bool true) true f g = f g := rfl
theorem gsel_ff (f : (Nat → Option SObj) → Option Value) (g : Nat → Option SObj) : gsel (.bool false) false f g = f g := rfl
theorem gsel_tf (f : (Nat → Option SObj) → Option Value) (g : Nat → Option SObj) : gsel (.bool true) false f g = some gone := rfl
theorem gsel_ft (f : (Nat → Option SObj) → Option Value) (g : Nat → Option SObj) : gsel (.bool false) true f g = some gone := rfl
theorem gsel_gone (w : Bool) (f : (Nat → Option SObj) → Option Value) (g : Nat → Option SObj) : gsel (.chan (some 0)) w f g = some gone := rfl
theorem pick_true (a b : Value) : pickV (.bool true) a b = some a := rfl
theorem pick_false (a b : Value) : pickV (.bool false) a b = some b := rfl

/-! numbers -/
theorem i_add (k : IntKind) (a b : Int) : binI .add (.int k a) (.int k b) = some (.int k (k.wrap (a + b))) := by simp [binI, intOp]
theorem i_sub (k : IntKind) (a b : Int) : binI .sub (.int k a) (.int k b) = some (.int k (k.wrap (a - b))) := by simp [binI, intOp]
theorem i_mul (k : IntKind) (a b : Int) : binI .mul (.int k a) (.int k b) = some (.int k (k.wrap (a * b))) := by simp [binI, intOp]
theorem i_eql (k : IntKind) (a b : Int) : binI .eql (.int k a) (.int k b) = some (.bool (a == b)) := by simp [binI, intOp]
theorem i_neq (k : IntKind) (a b : Int) : binI .neq (.int k a) (.int k b) = some (.bool (a != b)) := by simp [binI, intOp]
theorem i_lss (k : IntKind) (a b : Int) : binI .lss (.int k a) (.int k b) = some (.bool (decide (a < b))) := by simp [binI, intOp]
theorem i_leq (k : IntKind) (a b : Int) : binI .leq (.int k a) (.int k b) = some (.bool (decide (a ≤ b))) := by simp [binI, intOp]
theorem i_gtr (k : IntKind) (a b : Int) : binI .gtr (.int k a) (.int k b) = some (.bool (decide (b < a))) := by simp [binI, intOp]
theorem i_geq (k : IntKind) (a b : Int) : binI .geq (.int k a) (.int k b) = some (.bool (decide (b ≤ a))) := by simp [binI, intOp]
theorem sh_shr {k j : IntKind} {a b : Int} (h : 0 ≤ b) : shiftV .shr (.int k a) (.int j b) = some (.int k (a.fdiv (2 ^ (min b.toNat k.bits)))) := by
  have : ¬ b < 0 := by omega
  simp [shiftV, shiftOp, this]
theorem sh_shl {k j : IntKind} {a b : Int} (h : 0 ≤ b) : shiftV .shl (.int k a) (.int j b) = some (.int k (k.wrap (a * 2 ^ (min b.toNat k.bits)))) := by
  have : ¬ b < 0 := by omega
  simp [shiftV, shiftOp, this]
theorem i_quo {k : IntKind} {a b : Int} (h : b ≠ 0) : binI .quo (.int k a) (.int k b) = some (.int k (k.wrap (a.tdiv b))) := by simp [binI, intOp, h]
theorem i_rem {k : IntKind} {a b : Int} (h : b ≠ 0) : binI .rem (.int k a) (.int k b) = some (.int k (a.tmod b)) := by simp [binI, intOp, h]
def orI (x y : Int) : Int := IntKind.u8.wrap (BitVec.ofInt 8 x ||| BitVec.ofInt 8 y).toNat
theorem i_or8 (a b : Int) : binI .or (.int .u8 a) (.int .u8 b) = some (.int .u8 (orI a b)) := rfl
theorem tdiv_nat (a b : Nat) : ((a : Nat) : Int).tdiv (b : Nat) = ((a / b : Nat) : Int) := by simp
theorem tmod_nat (a b : Nat) : ((a : Nat) : Int).tmod (b : Nat) = ((a % b : Nat) : Int) := rfl
theorem i_neg (k : IntKind) (a : Int) : unV .neg (.int k a) = some (.int k (k.wrap (0 - a))) := rfl
theorem max2 (k : IntKind) (a b : Int) : minMaxV true [.int k a, .int k b] = some (.int k (max a b)) := by
  simp only [minMaxV, List.foldl_cons, List.foldl_nil, cond_true]
  by_cases h : b > a
  · rw [if_pos h]; congr 2; omega
  · rw [if_neg h]; congr 2; omega
theorem min2 (k : IntKind) (a b : Int) : minMaxV false [.int k a, .int k b] = some (.int k (min a b)) := by
  simp only [minMaxV, List.foldl_cons, List.foldl_nil, cond_false]
  by_cases h : b < a
  · rw [if_pos h]; congr 2; omega
  · rw [if_neg h]; congr 2; omega
theorem i_conv (k j : IntKind) (a : Int) : convI k (.int j a) = some (.int k (k.wrap a)) := rfl
theorem u_not (b : Bool) : unV .not (.bool b) = some (.bool !b) := rfl
theorem eqB_eq (neg a b : Bool) : eqB neg (.bool a) (.bool b) = some (.bool ((a == b) ^^ neg)) := rfl
theorem eqPn_some (neg : Bool) (a : Addr) : eqPn neg (.pointer (some a)) (.pointer none) = some (.bool (false ^^ neg)) := rfl
theorem eqPn_none (neg : Bool) (b : Option Addr) : eqPn neg (.pointer none) (.pointer b) = some (.bool (b.isNone ^^ neg)) := rfl
theorem eqSl_some (neg : Bool) (a : Addr) (n c m d : Nat) : eqSl neg (.slice (some a) n c) (.slice none m d) = some (.bool (false ^^ neg)) := rfl
theorem eqSl_none (neg : Bool) (b : Option Addr) (n c m d : Nat) : eqSl neg (.slice none n c) (.slice b m d) = some (.bool (b.isNone ^^ neg)) := rfl
theorem eqMp_some (neg : Bool) (a : Nat) : eqMp neg (.map (some a)) (.map none) = some (.bool (false ^^ neg)) := rfl
theorem eqMp_none (neg : Bool) (b : Option Nat) : eqMp neg (.map none) (.map b) = some (.bool (b.isNone ^^ neg)) := rfl
theorem s_eql (a b : ByteArray) : binS .eql (.string a) (.string b) = some (.bool (a.data.toList == b.data.toList)) := by simp only [binS, strOp, ByteArray.toList_eq]
theorem s_neq (a b : ByteArray) : binS .neq (.string a) (.string b) = some (.bool !(a.data.toList == b.data.toList)) := by simp only [binS, strOp, ByteArray.toList_eq]
theorem nil_ptr (a : Addr) : nilV (.pointer (some a)) = some (.pointer (some a)) := rfl
theorem ext_0 (v : Value) (r : List Value) : extractV (.tuple ⟨v :: r⟩) 0 = some v := rfl
theorem ext_1 (u v : Value) (r : List Value) : extractV (.tuple ⟨u :: v :: r⟩) 1 = some v := rfl
theorem ext_2 (t u v : Value) (r : List Value) : extractV (.tuple ⟨t :: u :: v :: r⟩) 2 = some v := rfl
/-! addresses -/
theorem faddr_eq (off i o : Nat) : faddr off (.pointer (some ⟨i, o, none⟩)) = some (.pointer (some ⟨i, o + off, none⟩)) := rfl
theorem iaddrA_eq {n c b o : Nat} {k : IntKind} {i : Int} (h0 : 0 ≤ i) (h1 : i < n) : iaddrA n c (.pointer (some ⟨b, o, none⟩)) (.int k i) = some (.pointer (some ⟨b, o + i.toNat * c, none⟩)) := by simp [iaddrA, h0, h1]
theorem iaddrS_eq {c b o n cap : Nat} {k : IntKind} {i : Int} (h0 : 0 ≤ i) (h1 : i < n) : iaddrS c (.slice (some ⟨b, o, none⟩) n cap) (.int k i) = some (.pointer (some ⟨b, o + i.toNat * c, none⟩)) := by simp [iaddrS, h0, h1]
theorem iaddrS_grown {c b o n cap : Nat} {k : IntKind} {i : Int} (h0 : 0 ≤ i) (h1 : i < n) : iaddrS c (.slice (some ⟨b, o, some c⟩) n cap) (.int k i) = some (.pointer (some ⟨b, o + i.toNat * c, none⟩)) := by simp [iaddrS, h0, h1]
theorem index1 {n i : Nat} {k : IntKind} {cs : List Value} (h : i < n) : indexA false 1 n (.agg ⟨cs⟩) (.int k (i : Nat)) = cs[i]? := by
  have h1 : (0 : Int) ≤ (i : Nat) ∧ ((i : Nat) : Int) < n := by omega
  unfold indexA
  simp only [if_pos h1, part?, cond_false, Int.toNat_natCast, Nat.mul_one]
theorem indexN {c n i : Nat} {k : IntKind} {cs : List Value} (h : i < n) (hl : (i + 1) * c ≤ cs.length) : indexA true c n (.agg ⟨cs⟩) (.int k (i : Nat)) = some (.agg ⟨(cs.drop (i * c)).take c⟩) := by
  have h1 : (0 : Int) ≤ (i : Nat) ∧ ((i : Nat) : Int) < n := by omega
  have h2 : Nat.ble (i * c + c) cs.length = true := Nat.ble_eq_true_of_le (by rw [Nat.succ_mul] at hl; exact hl)
  unfold indexA
  simp only [if_pos h1, part?, cond_true, Int.toNat_natCast, h2]
theorem len_sl (a : Option Addr) (n c : Nat) : lenSl (.slice a n c) = some (.int .i64 (n : Nat)) := rfl
theorem len_str (s : ByteArray) : lenStr (.string s) = some (.int .i64 (s.size : Nat)) := rfl
theorem ptrTo_eq (i : Nat) : ptrTo i = .pointer (some ⟨i, 0, none⟩) := rfl
theorem box_agg (c : List Value) : boxN (.agg ⟨c⟩) = some (.cells c none, ptrTo) := rfl
/-! loads and stores -/
theorem load_part {n i o : Nat} {g : Nat → Option SObj} {c : List Value} {gr : Option Nat} (h : g i = some (.cells c gr)) : loadV true n (.pointer (some ⟨i, o, none⟩)) g = part? true n c o := by simp [loadV, h]
theorem load_one {n i o : Nat} {g : Nat → Option SObj} {c : List Value} {gr : Option Nat} (h : g i = some (.cells c gr)) : loadV false n (.pointer (some ⟨i, o, none⟩)) g = c[o]? := by simp [loadV, h, part?]
theorem store_one {i o : Nat} {σ : Store} {c : List Value} {gr : Option Nat} {v : Value} (h : σ.get i = some (.cells c gr)) (hv : cell1 v = true) (hl : o < c.length) : storeV 1 (.pointer (some ⟨i, o, none⟩)) v σ = some (junk, σ.put i (some (.cells (c.set o v) gr))) := by
  rw [store_cells h (vs := [v]) ?_ (by omega), splice_one hl]
  unfold asCells cellsL
  cases v <;> first | rfl | (simp [cell1] at hv; done) | (rename_i x; cases x <;> first | rfl | (simp [cell1] at hv))
theorem store_all {i n : Nat} {σ : Store} {c vs : List Value} {gr : Option Nat} (h : σ.get i = some (.cells c gr)) (hv : vs.length = n) (hl : c.length = n) : storeV n (.pointer (some ⟨i, 0, none⟩)) (.agg ⟨vs⟩) σ = some (junk, σ.put i (some (.cells vs gr))) := by
  rw [store_cells h (vs := vs) (by simp [asCells, cellsL, hv]) (by omega)]
  rw [Am.splice_all _ _ (by omega)]
/-! loads and stores of what is known -/
def rdOne (x : Option SObj) (o : Nat) : Option Value := match x with | some (.cells c _) => c[o]? | some (.lent c) => c[o]? | _ => none
def rdPart (x : Option SObj) (o n : Nat) : Option Value := match x with | some (.cells c _) => part? true n c o | some (.lent c) => part? true n c o | _ => none
def wrOne (x : Option SObj) (σ : Store) (i o : Nat) (v : Value) : Option (Value × Store) := match x with | some (.cells c g) => if o < c.length then some (junk, σ.put i (some (.cells (c.set o v) g))) else none | _ => none
def wrAll (x : Option SObj) (σ : Store) (i n : Nat) (vs : List Value) : Option (Value × Store) := match x with | some (.cells c g) => if c.length = n then some (junk, σ.put i (some (.cells vs g))) else (bif Nat.ble n c.length then some (junk, σ.put i (some (.cells (splice c 0 vs) g))) else none) | _ => none
theorem rdOne_cells (c : List Value) (g : Option Nat) (o : Nat) : rdOne (some (.cells c g)) o = c[o]? := rfl
theorem rdOne_lent (c : List Value) (o : Nat) : rdOne (some (.lent c)) o = c[o]? := rfl
theorem rdPart_cells (c : List Value) (g : Option Nat) (o n : Nat) : rdPart (some (.cells c g)) o n = part? true n c o := rfl
theorem rdPart_all {c : List Value} {g : Option Nat} {n : Nat} (h : c.length = n) : rdPart (some (.cells c g)) 0 n = some (.agg ⟨c⟩) := by
  subst h
  have : Nat.ble c.length c.length = true := Nat.ble_eq_true_of_le (Nat.le_refl _)
  simp [rdPart, part?, this]
theorem wrOne_cells {c : List Value} {g : Option Nat} {σ : Store} {i o : Nat} {v : Value} (h : o < c.length) : wrOne (some (.cells c g)) σ i o v = some (junk, σ.put i (some (.cells (c.set o v) g))) := if_pos h
theorem wrAll_cells {c vs : List Value} {g : Option Nat} {σ : Store} {i n : Nat} (h : c.length = n) : wrAll (some (.cells c g)) σ i n vs = some (junk, σ.put i (some (.cells vs g))) := if_pos h
theorem load_at {n i o : Nat} {σ : Store} : loadV false n (.pointer (some ⟨i, o, none⟩)) σ.get = rdOne (σ.get i) o := by
  unfold loadV rdOne
  simp only
  generalize σ.get i = X
  cases X with
  | none => rfl
  | some x => cases x <;> simp [part?]
theorem load_part_at {n i o : Nat} {σ : Store} : loadV true n (.pointer (some ⟨i, o, none⟩)) σ.get = rdPart (σ.get i) o n := by
  unfold loadV rdPart
  simp only
  generalize σ.get i = X
  cases X with
  | none => rfl
  | some x => cases x <;> rfl
theorem store_at {i o : Nat} {σ : Store} {v : Value} (hv : cell1 v = true) : storeV 1 (.pointer (some ⟨i, o, none⟩)) v σ = wrOne (σ.get i) σ i o v := by
  unfold wrOne storeV
  have h1 : asCells 1 v = some [v] := by
    unfold asCells cellsL
    cases v <;> first | rfl | (simp [cell1] at hv; done) | (rename_i x; cases x <;> first | rfl | (simp [cell1] at hv))
  rw [h1]
  simp only
  generalize σ.get i = X
  cases X with
  | none => rfl
  | some x =>
    cases x with
    | cells c g =>
      simp only
      by_cases h : o < c.length
      · rw [if_pos h, Nat.ble_eq_true_of_le (by omega), cond_true, splice_one h]
      · rw [if_neg h]
        cases hb : Nat.ble (o + 1) c.length with
        | false => rfl
        | true => have := Nat.le_of_ble_eq_true hb; omega
    | _ => rfl
theorem st_int {i o : Nat} {σ : Store} {k : IntKind} {n : Int} : storeV 1 (.pointer (some ⟨i, o, none⟩)) (.int k n) σ = wrOne (σ.get i) σ i o (.int k n) := store_at rfl
theorem st_bool {i o : Nat} {σ : Store} {b : Bool} : storeV 1 (.pointer (some ⟨i, o, none⟩)) (.bool b) σ = wrOne (σ.get i) σ i o (.bool b) := store_at rfl
theorem st_str {i o : Nat} {σ : Store} {b : ByteArray} : storeV 1 (.pointer (some ⟨i, o, none⟩)) (.string b) σ = wrOne (σ.get i) σ i o (.string b) := store_at rfl
theorem st_ptr {i o : Nat} {σ : Store} {a : Option Addr} : storeV 1 (.pointer (some ⟨i, o, none⟩)) (.pointer a) σ = wrOne (σ.get i) σ i o (.pointer a) := store_at rfl
theorem st_slice {i o : Nat} {σ : Store} {a : Option Addr} {n c : Nat} : storeV 1 (.pointer (some ⟨i, o, none⟩)) (.slice a n c) σ = wrOne (σ.get i) σ i o (.slice a n c) := store_at rfl
theorem st_map {i o : Nat} {σ : Store} {a : Option Nat} : storeV 1 (.pointer (some ⟨i, o, none⟩)) (.map a) σ = wrOne (σ.get i) σ i o (.map a) := store_at rfl
theorem store_all_at {i n : Nat} {σ : Store} {vs : List Value} (hv : vs.length = n) : storeV n (.pointer (some ⟨i, 0, none⟩)) (.agg ⟨vs⟩) σ = wrAll (σ.get i) σ i n vs := by
  unfold wrAll storeV
  have h1 : asCells n (.agg ⟨vs⟩) = some vs := by simp [asCells, cellsL, hv]
  rw [h1]
  simp only
  generalize σ.get i = X
  cases X with
  | none => rfl
  | some x =>
    cases x with
    | cells c g =>
      simp only
      by_cases h : c.length = n
      · rw [if_pos h, Nat.ble_eq_true_of_le (by omega), cond_true, Am.splice_all _ _ (by omega)]
      · rw [if_neg h, Nat.zero_add]
    | _ => rfl
/-! loops -/
theorem lop_inv {n : Nat} {F : NF n → NF n} (Inv : Nat → List Value → Store → Prop) (hs : ∀ (k : Nat) (xs : List Value) (s : Store) (next : NF n), xs.length = n → Inv k xs s → (∀ xs' s', xs'.length = n → 0 < k → Inv (k - 1) xs' s' → appN n next xs' s') → appN n (F next) xs s) {k : Nat} {xs : List Value} {σ : Store} (hl : xs.length = n) (h0 : Inv k xs σ) : appN n (lop n F) xs σ := by
  rw [lop_app hl]
  refine ⟨k + 1, ?_⟩
  have key : ∀ k xs σ, xs.length = n → Inv k xs σ → rounds (fun next xs σ => appN n (F (lamN n next)) xs σ) (k + 1) xs σ := by
    intro k
    induction k with
    | zero => intro xs σ hl h; exact hs 0 xs σ _ hl h fun _ _ _ h0 => absurd h0 (Nat.lt_irrefl _)
    | succ k ih =>
      intro xs σ hl h
      exact hs (k + 1) xs σ _ hl h fun xs' s' hl' _ hi => (app_lam hl').2 (ih xs' s' hl' hi)
  exact key k xs σ hl h0
theorem lop0 {F : NF 0 → NF 0} (Inv : Nat → Store → Prop) (k : Nat) {σ : Store} (h0 : Inv k  σ) (hs : ∀ (k : Nat)  (s : Store) (next : Store → Prop), Inv k  s → (∀  (s : Store), 0 < k → Inv (k - 1)  s → next  s) → F next  s) : lop 0 F  σ := by
  refine lop_inv (n := 0) (F := F) (fun k xs s => xs = [] ∧ Inv k  s) (fun k xs s next _ h hn => ?_) (k := k) (xs := []) rfl ⟨rfl, h0⟩
  obtain ⟨rfl, h⟩ := h
  exact hs k  s next h fun  s' hk hi => hn [] s' rfl hk ⟨rfl, hi⟩
theorem lop1 {F : NF 1 → NF 1} (Inv : Nat → Value → Store → Prop) (k : Nat) {v0 : Value} {σ : Store} (h0 : Inv k v0 σ) (hs : ∀ (k : Nat) (v0 : Value) (s : Store) (next : Value → Store → Prop), Inv k v0 s → (∀ (v0 : Value) (s : Store), 0 < k → Inv (k - 1) v0 s → next v0 s) → F next v0 s) : lop 1 F v0 σ := by
  refine lop_inv (n := 1) (F := F) (fun k xs s => ∃ v0, xs = [v0] ∧ Inv k v0 s) (fun k xs s next _ h hn => ?_) (k := k) (xs := [v0]) rfl ⟨v0, rfl, h0⟩
  obtain ⟨v0, rfl, h⟩ := h
  exact hs k v0 s next h fun u0 s' hk hi => hn [u0] s' rfl hk ⟨u0, rfl, hi⟩
theorem lop2 {F : NF 2 → NF 2} (Inv : Nat → Value → Value → Store → Prop) (k : Nat) {v0 v1 : Value} {σ : Store} (h0 : Inv k v0 v1 σ) (hs : ∀ (k : Nat) (v0 : Value) (v1 : Value) (s : Store) (next : Value → Value → Store → Prop), Inv k v0 v1 s → (∀ (v0 : Value) (v1 : Value) (s : Store), 0 < k → Inv (k - 1) v0 v1 s → next v0 v1 s) → F next v0 v1 s) : lop 2 F v0 v1 σ := by
  refine lop_inv (n := 2) (F := F) (fun k xs s => ∃ v0 v1, xs = [v0, v1] ∧ Inv k v0 v1 s) (fun k xs s next _ h hn => ?_) (k := k) (xs := [v0, v1]) rfl ⟨v0, v1, rfl, h0⟩
  obtain ⟨v0, v1, rfl, h⟩ := h
  exact hs k v0 v1 s next h fun u0 u1 s' hk hi => hn [u0, u1] s' rfl hk ⟨u0, u1, rfl, hi⟩
theorem lop3 {F : NF 3 → NF 3} (Inv : Nat → Value → Value → Value → Store → Prop) (k : Nat) {v0 v1 v2 : Value} {σ : Store} (h0 : Inv k v0 v1 v2 σ) (hs : ∀ (k : Nat) (v0 : Value) (v1 : Value) (v2 : Value) (s : Store) (next : Value → Value → Value → Store → Prop), Inv k v0 v1 v2 s → (∀ (v0 : Value) (v1 : Value) (v2 : Value) (s : Store), 0 < k → Inv (k - 1) v0 v1 v2 s → next v0 v1 v2 s) → F next v0 v1 v2 s) : lop 3 F v0 v1 v2 σ := by
  refine lop_inv (n := 3) (F := F) (fun k xs s => ∃ v0 v1 v2, xs = [v0, v1, v2] ∧ Inv k v0 v1 v2 s) (fun k xs s next _ h hn => ?_) (k := k) (xs := [v0, v1, v2]) rfl ⟨v0, v1, v2, rfl, h0⟩
  obtain ⟨v0, v1, v2, rfl, h⟩ := h
  exact hs k v0 v1 v2 s next h fun u0 u1 u2 s' hk hi => hn [u0, u1, u2] s' rfl hk ⟨u0, u1, u2, rfl, hi⟩
theorem lop4 {F : NF 4 → NF 4} (Inv : Nat → Value → Value → Value → Value → Store → Prop) (k : Nat) {v0 v1 v2 v3 : Value} {σ : Store} (h0 : Inv k v0 v1 v2 v3 σ) (hs : ∀ (k : Nat) (v0 : Value) (v1 : Value) (v2 : Value) (v3 : Value) (s : Store) (next : Value → Value → Value → Value → Store → Prop), Inv k v0 v1 v2 v3 s → (∀ (v0 : Value) (v1 : Value) (v2 : Value) (v3 : Value) (s : Store), 0 < k → Inv (k - 1) v0 v1 v2 v3 s → next v0 v1 v2 v3 s) → F next v0 v1 v2 v3 s) : lop 4 F v0 v1 v2 v3 σ := by
  refine lop_inv (n := 4) (F := F) (fun k xs s => ∃ v0 v1 v2 v3, xs = [v0, v1, v2, v3] ∧ Inv k v0 v1 v2 v3 s) (fun k xs s next _ h hn => ?_) (k := k) (xs := [v0, v1, v2, v3]) rfl ⟨v0, v1, v2, v3, rfl, h0⟩
  obtain ⟨v0, v1, v2, v3, rfl, h⟩ := h
  exact hs k v0 v1 v2 v3 s next h fun u0 u1 u2 u3 s' hk hi => hn [u0, u1, u2, u3] s' rfl hk ⟨u0, u1, u2, u3, rfl, hi⟩
theorem lop5 {F : NF 5 → NF 5} (Inv : Nat → Value → Value → Value → Value → Value → Store → Prop) (k : Nat) {v0 v1 v2 v3 v4 : Value} {σ : Store} (h0 : Inv k v0 v1 v2 v3 v4 σ) (hs : ∀ (k : Nat) (v0 : Value) (v1 : Value) (v2 : Value) (v3 : Value) (v4 : Value) (s : Store) (next : Value → Value → Value → Value → Value → Store → Prop), Inv k v0 v1 v2 v3 v4 s → (∀ (v0 : Value) (v1 : Value) (v2 : Value) (v3 : Value) (v4 : Value) (s : Store), 0 < k → Inv (k - 1) v0 v1 v2 v3 v4 s → next v0 v1 v2 v3 v4 s) → F next v0 v1 v2 v3 v4 s) : lop 5 F v0 v1 v2 v3 v4 σ := by
  refine lop_inv (n := 5) (F := F) (fun k xs s => ∃ v0 v1 v2 v3 v4, xs = [v0, v1, v2, v3, v4] ∧ Inv k v0 v1 v2 v3 v4 s) (fun k xs s next _ h hn => ?_) (k := k) (xs := [v0, v1, v2, v3, v4]) rfl ⟨v0, v1, v2, v3, v4, rfl, h0⟩
  obtain ⟨v0, v1, v2, v3, v4, rfl, h⟩ := h
  exact hs k v0 v1 v2 v3 v4 s next h fun u0 u1 u2 u3 u4 s' hk hi => hn [u0, u1, u2, u3, u4] s' rfl hk ⟨u0, u1, u2, u3, u4, rfl, hi⟩
theorem lop6 {F : NF 6 → NF 6} (Inv : Nat → Value → Value → Value → Value → Value → Value → Store → Prop) (k : Nat) {v0 v1 v2 v3 v4 v5 : Value} {σ : Store} (h0 : Inv k v0 v1 v2 v3 v4 v5 σ) (hs : ∀ (k : Nat) (v0 : Value) (v1 : Value) (v2 : Value) (v3 : Value) (v4 : Value) (v5 : Value) (s : Store) (next : Value → Value → Value → Value → Value → Value → Store → Prop), Inv k v0 v1 v2 v3 v4 v5 s → (∀ (v0 : Value) (v1 : Value) (v2 : Value) (v3 : Value) (v4 : Value) (v5 : Value) (s : Store), 0 < k → Inv (k - 1) v0 v1 v2 v3 v4 v5 s → next v0 v1 v2 v3 v4 v5 s) → F next v0 v1 v2 v3 v4 v5 s) : lop 6 F v0 v1 v2 v3 v4 v5 σ := by
  refine lop_inv (n := 6) (F := F) (fun k xs s => ∃ v0 v1 v2 v3 v4 v5, xs = [v0, v1, v2, v3, v4, v5] ∧ Inv k v0 v1 v2 v3 v4 v5 s) (fun k xs s next _ h hn => ?_) (k := k) (xs := [v0, v1, v2, v3, v4, v5]) rfl ⟨v0, v1, v2, v3, v4, v5, rfl, h0⟩
  obtain ⟨v0, v1, v2, v3, v4, v5, rfl, h⟩ := h
  exact hs k v0 v1 v2 v3 v4 v5 s next h fun u0 u1 u2 u3 u4 u5 s' hk hi => hn [u0, u1, u2, u3, u4, u5] s' rfl hk ⟨u0, u1, u2, u3, u4, u5, rfl, hi⟩
theorem lop7 {F : NF 7 → NF 7} (Inv : Nat → Value → Value → Value → Value → Value → Value → Value → Store → Prop) (k : Nat) {v0 v1 v2 v3 v4 v5 v6 : Value} {σ : Store} (h0 : Inv k v0 v1 v2 v3 v4 v5 v6 σ) (hs : ∀ (k : Nat) (v0 : Value) (v1 : Value) (v2 : Value) (v3 : Value) (v4 : Value) (v5 : Value) (v6 : Value) (s : Store) (next : Value → Value → Value → Value → Value → Value → Value → Store → Prop), Inv k v0 v1 v2 v3 v4 v5 v6 s → (∀ (v0 : Value) (v1 : Value) (v2 : Value) (v3 : Value) (v4 : Value) (v5 : Value) (v6 : Value) (s : Store), 0 < k → Inv (k - 1) v0 v1 v2 v3 v4 v5 v6 s → next v0 v1 v2 v3 v4 v5 v6 s) → F next v0 v1 v2 v3 v4 v5 v6 s) : lop 7 F v0 v1 v2 v3 v4 v5 v6 σ := by
  refine lop_inv (n := 7) (F := F) (fun k xs s => ∃ v0 v1 v2 v3 v4 v5 v6, xs = [v0, v1, v2, v3, v4, v5, v6] ∧ Inv k v0 v1 v2 v3 v4 v5 v6 s) (fun k xs s next _ h hn => ?_) (k := k) (xs := [v0, v1, v2, v3, v4, v5, v6]) rfl ⟨v0, v1, v2, v3, v4, v5, v6, rfl, h0⟩
  obtain ⟨v0, v1, v2, v3, v4, v5, v6, rfl, h⟩ := h
  exact hs k v0 v1 v2 v3 v4 v5 v6 s next h fun u0 u1 u2 u3 u4 u5 u6 s' hk hi => hn [u0, u1, u2, u3, u4, u5, u6] s' rfl hk ⟨u0, u1, u2, u3, u4, u5, u6, rfl, hi⟩
theorem lop8 {F : NF 8 → NF 8} (Inv : Nat → Value → Value → Value → Value → Value → Value → Value → Value → Store → Prop) (k : Nat) {v0 v1 v2 v3 v4 v5 v6 v7 : Value} {σ : Store} (h0 : Inv k v0 v1 v2 v3 v4 v5 v6 v7 σ) (hs : ∀ (k : Nat) (v0 : Value) (v1 : Value) (v2 : Value) (v3 : Value) (v4 : Value) (v5 : Value) (v6 : Value) (v7 : Value) (s : Store) (next : Value → Value → Value → Value → Value → Value → Value → Value → Store → Prop), Inv k v0 v1 v2 v3 v4 v5 v6 v7 s → (∀ (v0 : Value) (v1 : Value) (v2 : Value) (v3 : Value) (v4 : Value) (v5 : Value) (v6 : Value) (v7 : Value) (s : Store), 0 < k → Inv (k - 1) v0 v1 v2 v3 v4 v5 v6 v7 s → next v0 v1 v2 v3 v4 v5 v6 v7 s) → F next v0 v1 v2 v3 v4 v5 v6 v7 s) : lop 8 F v0 v1 v2 v3 v4 v5 v6 v7 σ := by
  refine lop_inv (n := 8) (F := F) (fun k xs s => ∃ v0 v1 v2 v3 v4 v5 v6 v7, xs = [v0, v1, v2, v3, v4, v5, v6, v7] ∧ Inv k v0 v1 v2 v3 v4 v5 v6 v7 s) (fun k xs s next _ h hn => ?_) (k := k) (xs := [v0, v1, v2, v3, v4, v5, v6, v7]) rfl ⟨v0, v1, v2, v3, v4, v5, v6, v7, rfl, h0⟩
  obtain ⟨v0, v1, v2, v3, v4, v5, v6, v7, rfl, h⟩ := h
  exact hs k v0 v1 v2 v3 v4 v5 v6 v7 s next h fun u0 u1 u2 u3 u4 u5 u6 u7 s' hk hi => hn [u0, u1, u2, u3, u4, u5, u6, u7] s' rfl hk ⟨u0, u1, u2, u3, u4, u5, u6, u7, rfl, hi⟩
/-! stores -/
theorem next_max (σ : Store) (i : Nat) (o : Option SObj) : (σ.put i o).next = max σ.next (i + 1) := by rw [Store.next_put]; split <;> omega
theorem put_put (σ : Store) (i : Nat) (a b : Option SObj) : (σ.put i a).put i b = σ.put i b := by
  refine Store.ext_ (by simp only [next_max]; omega) fun j => ?_
  simp only [Store.get_put]
  split <;> rfl
theorem push_put (σ : Store) (a b : SObj) : (σ.push a).put σ.next (some b) = σ.push b := put_put _ _ _ _
theorem push_put_eq {σ : Store} {a b : SObj} {j : Nat} (h : j = σ.next) : (σ.push a).put j (some b) = σ.push b := by rw [h]; exact push_put _ _ _
theorem get_push_eq {σ : Store} {o : SObj} {j : Nat} (h : j = σ.next) : (σ.push o).get j = some o := by rw [h]; exact Store.get_push_same _ _
theorem push_put_lt {σ : Store} {a : SObj} {i : Nat} {o : Option SObj} (h : i < σ.next) : (σ.push a).put i o = (σ.put i o).push a := by
  have hn : (σ.put i o).next = σ.next := Store.next_put_lt _ _ h
  refine Store.ext_ (by simp only [next_max, Store.next_push, hn]; omega) fun j => ?_
  simp only [Store.get_put, Store.get_push, hn]
  by_cases h1 : j = i
  · subst h1
    rw [if_pos rfl, if_neg (by omega), if_pos rfl]
  · rw [if_neg h1, if_neg h1]
/-- An id is given out that stands for nothing. -/
def _root_.Go.Am.Store.skip (σ : Store) : Store := σ.put σ.next none
theorem skip_next (σ : Store) : σ.skip.next = σ.next + 1 := by unfold Store.skip; rw [next_max]; omega
theorem skip_get (σ : Store) (j : Nat) : σ.skip.get j = σ.get j := by
  unfold Store.skip
  rw [Store.get_put]
  split
  · rename_i h; rw [h, Store.get_next]
  · rfl
theorem push_none {σ : Store} {a : SObj} {j : Nat} (h : j = σ.next) : (σ.push a).put j none = σ.skip := by
  subst h
  exact put_put _ _ _ _
theorem skip_put_lt {σ : Store} {i : Nat} {o : Option SObj} (h : i < σ.next) : σ.skip.put i o = (σ.put i o).skip := by
  have hn : (σ.put i o).next = σ.next := Store.next_put_lt _ _ h
  refine Store.ext_ (by rw [next_max, skip_next, skip_next, hn]; omega) fun j => ?_
  rw [skip_get, Store.get_put, skip_get, Store.get_put]
theorem put_self {σ : Store} {i : Nat} {o : SObj} (h : σ.get i = some o) : σ.put i (some o) = σ := by
  refine Store.ext_ (Store.next_put_lt _ _ (Store.lt_of_get h)) fun j => ?_
  rw [Store.get_put]
  split
  · rename_i e; rw [e, h]
  · rfl
theorem put_comm {σ : Store} {i j : Nat} {a b : Option SObj} (h : i ≠ j) : (σ.put i a).put j b = (σ.put j b).put i a := by
  refine Store.ext_ (by simp only [next_max]; omega) fun k => ?_
  simp only [Store.get_put]
  by_cases h1 : k = j
  · rw [if_pos h1, if_neg (fun e => h (e.symm.trans h1)), if_pos h1]
  · rw [if_neg h1, if_neg h1]
theorem get_push_ne {σ : Store} {o : SObj} {j : Nat} (h : j < σ.next) : (σ.push o).get j = σ.get j := Store.get_push_lt h
theorem get_put_ne' {σ : Store} {i j : Nat} {o : Option SObj} (h : j ≠ i) : (σ.put i o).get j = σ.get j := Store.get_put_ne _ _ h
/-! blocks of bytes -/
def bc (l : List Int) : List Value := l.map (.int .u8)
@[simp] theorem bc_len (l : List Int) : (bc l).length = l.length := by simp [bc]
theorem bc_get (l : List Int) (i : Nat) : (bc l)[i]? = (l[i]?).map (.int .u8) := by simp [bc]
theorem bc_set (l : List Int) (i : Nat) (x : Int) : (bc l).set i (.int .u8 x) = bc (l.set i x) := by simp [bc, List.map_set]
theorem bc_scalar (l : List Int) : (bc l).all scalar = true := by simp [bc, List.all_eq_true, scalar]
theorem bc_zero {n : Nat} (_ : 1 < n) : unrle [(n, .int .u8 0)] = bc (List.replicate n 0) := by simp [unrle, bc]
theorem bc_take (l : List Int) (n : Nat) : (bc l).take n = bc (l.take n) := by simp [bc]
theorem bc_drop (l : List Int) (n : Nat) : (bc l).drop n = bc (l.drop n) := by simp [bc]
theorem bc_app (l m : List Int) : bc l ++ bc m = bc (l ++ m) := by simp [bc]
theorem bc_inj {l m : List Int} (h : bc l = bc m) : l = m := by
  unfold bc at h
  exact (List.map_inj_right (fun a b hab => by simpa using hab)).1 h
theorem bc_flat0 (n : Nat) : aggOf (buildL (List.replicate n (unrle [(1, .int .u8 0)])) []) = some (.agg ⟨bc (List.replicate n 0)⟩) := by
  have h : unrle [(1, Value.int IntKind.u8 0)] = [Value.int IntKind.u8 0] := rfl
  have h2 : ∀ n, (List.replicate n [Value.int IntKind.u8 0]).flatten = bc (List.replicate n 0) := fun n => by
    induction n with
    | zero => rfl
    | succ n ih => rw [List.replicate_succ, List.flatten_cons, ih]; rfl
  simp [aggOf, buildL, h, h2]
/-- A block of noughts. -/
def zb : List Int := List.replicate 1024 0
theorem zb_len : zb.length = 1024 := List.length_replicate
theorem bc_zb : unrle [(1024, .int .u8 0)] = bc zb := bc_zero (by omega)
theorem bc_z16 : unrle [(16, .int .u8 0)] = bc (List.replicate 16 0) := bc_zero (by omega)
theorem bc_z64 : unrle [(64, .int .u8 0)] = bc (List.replicate 64 0) := bc_zero (by omega)
theorem bc_flat16 : aggOf (buildL (List.replicate 16 (unrle [(1, .int .u8 0)])) []) = some (.agg ⟨bc (List.replicate 16 0)⟩) := bc_flat0 16
theorem bc_flatz : aggOf (buildL (List.replicate 1024 (unrle [(1, .int .u8 0)])) []) = some (.agg ⟨bc zb⟩) := bc_flat0 1024
theorem eqInts_bc : ∀ (n : Nat) (l m : List Int), l.length = n → m.length = n → eqInts .u8 n (bc l) (bc m) = some (decide (l = m))
  | 0, [], [], _, _ => rfl
  | n + 1, a :: l, b :: m, h1, h2 => by
    have ih := eqInts_bc n l m (by simpa using h1) (by simpa using h2)
    have hk : (IntKind.u8 == IntKind.u8 && IntKind.u8 == IntKind.u8) = true := rfl
    simp only [bc, List.map_cons, eqInts, hk, cond_true] at ih ⊢
    rw [ih]
    by_cases h : a = b <;> simp [h]
theorem eqA_bc {n : Nat} (neg : Bool) {l m : List Int} (h1 : l.length = n) (h2 : m.length = n) : eqA (.ints .u8 n) neg (.agg ⟨bc l⟩) (.agg ⟨bc m⟩) = some (.bool (decide (l = m) ^^ neg)) := by
  simp [eqA, eqD, eqInts_bc n l m h1 h2]
theorem rdPart_bc {l : List Int} {g : Option Nat} {o n : Nat} (h : o + n ≤ l.length) : rdPart (some (.cells (bc l) g)) o n = some (.agg ⟨bc ((l.drop o).take n)⟩) := by
  have h1 : Nat.ble (o + n) (bc l).length = true := Nat.ble_eq_true_of_le (by rw [bc_len]; exact h)
  simp only [rdPart, part?, h1, cond_true, bc_drop, bc_take]
theorem slice_upto {n m c b o : Nat} (h : m ≤ n) (h0 : 0 < n) : sliceAr n c (.pointer (some ⟨b, o, none⟩)) none (some (.int .i64 (m : Nat))) = some (.slice (some ⟨b, o, none⟩) m n) := by
  have h1 : (0 : Int) ≤ (m : Nat) ∧ ((m : Nat) : Int) ≤ n := by omega
  have h2 : (n == 0) = false := by simp; omega
  simp [sliceAr, bound, h1, h2]
theorem s2a_eq {n m k b o : Nat} {g : Option Nat} (h : n ≤ m) : s2a n (.slice (some ⟨b, o, g⟩) m k) = some (.pointer (some ⟨b, o, none⟩)) := by
  simp [s2a, Nat.ble_eq_true_of_le h]
/-! composites -/
theorem buildL_nil (fs : List (List Value)) : buildL fs [] = some fs := rfl
theorem buildL_cons {fs : List (List Value)} {i : Nat} {v : Value} {r : List (Nat × Value)} {z c : List Value} (h : fs[i]? = some z) (hc : asCells z.length v = some c) : buildL fs ((i, v) :: r) = buildL (fs.set i c) r := by
  simp [buildL, h, hc]
def putC (x : Option (List Value)) (fs : List (List Value)) (i : Nat) (v : Value) (r : List (Nat × Value)) : Option (List (List Value)) := match x with | some z => (match asCells z.length v with | some c => buildL (fs.set i c) r | none => none) | none => none
theorem buildL_step (fs : List (List Value)) (i : Nat) (v : Value) (r : List (Nat × Value)) : buildL fs ((i, v) :: r) = putC fs[i]? fs i v r := by
  unfold buildL putC
  cases fs[i]? with
  | none => rfl
  | some z => simp only; cases asCells z.length v <;> rfl
def putD (x : Option (List Value)) (fs : List (List Value)) (i : Nat) (r : List (Nat × Value)) : Option (List (List Value)) := match x with | some c => buildL (fs.set i c) r | none => none
theorem putC_some (z : List Value) (fs : List (List Value)) (i : Nat) (v : Value) (r : List (Nat × Value)) : putC (some z) fs i v r = putD (asCells z.length v) fs i r := by
  show (match asCells z.length v with | some c => buildL (fs.set i c) r | none => none) = putD (asCells z.length v) fs i r
  unfold putD
  generalize asCells z.length v = X
  cases X <;> rfl
theorem putD_some (c : List Value) (fs : List (List Value)) (i : Nat) (r : List (Nat × Value)) : putD (some c) fs i r = buildL (fs.set i c) r := rfl
theorem as_int (k : IntKind) (n : Int) : asCells 1 (.int k n) = some [.int k n] := rfl
theorem as_bool (b : Bool) : asCells 1 (.bool b) = some [.bool b] := rfl
theorem as_str (b : ByteArray) : asCells 1 (.string b) = some [.string b] := rfl
theorem as_ptr (a : Option Addr) : asCells 1 (.pointer a) = some [.pointer a] := rfl
theorem as_slice (a : Option Addr) (n c : Nat) : asCells 1 (.slice a n c) = some [.slice a n c] := rfl
theorem as_map (a : Option Nat) : asCells 1 (.map a) = some [.map a] := rfl
theorem as_agg {n : Nat} {l : List Value} (h : l.length = n) : asCells n (.agg ⟨l⟩) = some l := by simp [asCells, cellsL, h]
theorem aggOf_some (fs : List (List Value)) : aggOf (some fs) = some (.agg ⟨fs.flatten⟩) := rfl
theorem sliceOf_some (n : Nat) (fs : List (List Value)) : sliceOf n (some fs) = some (.cells fs.flatten none, fun i => .slice (some ⟨i, 0, none⟩) n n) := rfl
theorem unrle_len (n : Nat) (v : Value) : (unrle [(n, v)]).length = n := by simp [unrle]
theorem unrle_len2 (n m : Nat) (v w : Value) : (unrle [(n, v), (m, w)]).length = n + m := by simp [unrle]
theorem unrle_len3 (n m k : Nat) (v w u : Value) : (unrle [(n, v), (m, w), (k, u)]).length = n + (m + k) := by simp [unrle]
theorem unrle_1 (v : Value) : unrle [(1, v)] = [v] := rfl
theorem rep_1 (z : List Value) : List.replicate 1 z = [z] := rfl
theorem rep_2 (z : List Value) : List.replicate 2 z = [z, z] := rfl
theorem rep_3 (z : List Value) : List.replicate 3 z = [z, z, z] := rfl
theorem rep_4 (z : List Value) : List.replicate 4 z = [z, z, z, z] := rfl
theorem rep_5 (z : List Value) : List.replicate 5 z = [z, z, z, z, z] := rfl
theorem rep_6 (z : List Value) : List.replicate 6 z = [z, z, z, z, z, z] := rfl
theorem rep_7 (z : List Value) : List.replicate 7 z = [z, z, z, z, z, z, z] := rfl
theorem rep_8 (z : List Value) : List.replicate 8 z = [z, z, z, z, z, z, z, z] := rfl
theorem rep_9 (z : List Value) : List.replicate 9 z = [z, z, z, z, z, z, z, z, z] := rfl
theorem rep_10 (z : List Value) : List.replicate 10 z = [z, z, z, z, z, z, z, z, z, z] := rfl
theorem rep_11 (z : List Value) : List.replicate 11 z = [z, z, z, z, z, z, z, z, z, z, z] := rfl
theorem rep_12 (z : List Value) : List.replicate 12 z = [z, z, z, z, z, z, z, z, z, z, z, z] := rfl
theorem rep_single (n : Nat) (z : Value) : List.replicate n [z] = (List.replicate n z).map fun x => [x] := by simp
theorem buildL_single {l : List Value} {i : Nat} {v : Value} {r : List (Nat × Value)} (hi : i < l.length) (hv : cell1 v = true) : buildL (l.map fun x => [x]) ((i, v) :: r) = buildL ((l.set i v).map fun x => [x]) r := by
  have h1 : asCells 1 v = some [v] := by
    unfold asCells cellsL
    cases v <;> first | rfl | (simp [cell1] at hv; done) | (rename_i x; cases x <;> first | rfl | (simp [cell1] at hv))
  rw [buildL_cons (z := [l[i]]) (c := [v]) (by simp [hi]) h1, List.map_set]
theorem flat_single : ∀ l : List Value, (l.map fun x => [x]).flatten = l
  | [] => rfl
  | x :: l => by simp [flat_single l]
theorem agg_byte (n i : Nat) (x : Int) (hi : i < n) : aggOf (buildL (List.replicate n (unrle [(1, .int .u8 0)])) [(i, .int .u8 x)]) = some (.agg ⟨bc ((List.replicate n 0).set i x)⟩) := by
  rw [unrle_1, rep_single, buildL_single (by simpa using hi) rfl, buildL_nil, aggOf_some, flat_single]
  have : List.replicate n (Value.int IntKind.u8 0) = bc (List.replicate n 0) := by simp [bc]
  rw [this, bc_set]
theorem agg_bytez (i : Nat) (x : Int) (hi : i < 1024) : aggOf (buildL (List.replicate 1024 (unrle [(1, .int .u8 0)])) [(i, .int .u8 x)]) = some (.agg ⟨bc (zb.set i x)⟩) := agg_byte 1024 i x hi
theorem hand_at {i n c : Nat} {σ : Store} {cs : List Value} (h : σ.get i = some (.cells cs none)) (h0 : 0 < cs.length) (hl : c ≤ cs.length) : handV (.slice (some ⟨i, 0, none⟩) n c) σ = some (.slice (some ⟨σ.next, 0, some 1⟩) n c, (σ.put i none).push (.cells cs (some 1))) := by
  have h1 : Nat.blt 0 cs.length = true := Nat.ble_eq_true_of_le h0
  have h2 : Nat.ble (0 + c) cs.length = true := Nat.ble_eq_true_of_le (by omega)
  rw [Nat.zero_add] at h2
  simp [handV, h, h1, h2]
/-! answers without ids -/
def closedT : Value → Bool
  | .tuple xs => xs.toList.all closed
  | v => closed v
theorem VR.of_closedT {M : Places} {v : Value} (h : closedT v = true) : VR M false v v := by
  unfold closedT at h
  split at h
  · rename_i xs
    refine .tuple xs xs rfl fun i a b ha hb => ?_
    rw [ha] at hb; cases hb
    rw [List.all_eq_true] at h
    exact VR.of_closed (h a (by
      obtain ⟨hi, e⟩ := Array.getElem?_eq_some_iff.1 ha
      rw [← e]; exact Array.getElem_mem_toList hi))
  · exact VR.of_closed h
theorem Sim.pureT {f : FuncId} {args : List Value} {σ σ' : Store} {r : Value} (h : Sim P f args σ r σ') (hr : closedT r = true) (hs : ∀ i o, σ.get i = some o → σ'.get i = some o) : Sim P f args σ r σ := by
  refine ⟨Nat.le_refl _, fun M w cargs hrel hargs => Calls.mono (h.2 M w cargs hrel hargs) ?_⟩
  rintro e w' ⟨M', v, rfl, h2, h3, h4⟩
  refine ⟨M, v, rfl, (VR.of_closedT hr).back h4.le h2, ⟨fun i o hi => ?_, hrel.apart, hrel.dom⟩, ⟨Nat.le_refl _, M.le_refl, h4.size, h4.frame, fun _ _ h => h, fun _ _ h => h, h4.os, h4.tape, h4.output⟩⟩
  obtain ⟨l, hl, hsh⟩ := hrel.shows i o hi
  obtain ⟨l', hl', hsh'⟩ := h3.shows i o (hs i o hi)
  have := h4.le i l hl
  rw [this] at hl'; cases hl'
  exact ⟨l, hl, hsh.back h4.le hsh'⟩
/-- The store has what it had. -/
def Keeps (σ σ' : Store) : Prop := σ.next ≤ σ'.next ∧ ∀ j, j < σ.next → σ'.get j = σ.get j
theorem Keeps.get' {σ σ' : Store} (h : Keeps σ σ') {i : Nat} (hi : i < σ.next) : σ'.get i = σ.get i := h.2 i hi
theorem Keeps.refl (σ : Store) : Keeps σ σ := ⟨Nat.le_refl _, fun _ _ => rfl⟩
theorem Keeps.trans {a b c : Store} (h : Keeps a b) (k : Keeps b c) : Keeps a c := ⟨Nat.le_trans h.1 k.1, fun j hj => (k.2 j (Nat.lt_of_lt_of_le hj h.1)).trans (h.2 j hj)⟩
theorem Keeps.push {σ σ' : Store} (h : Keeps σ σ') (o : SObj) : Keeps σ (σ'.push o) := ⟨by rw [Store.next_push]; exact Nat.le_succ_of_le h.1, fun j hj => by rw [Store.get_push_lt (Nat.lt_of_lt_of_le hj h.1)]; exact h.2 j hj⟩
theorem Keeps.put {σ σ' : Store} (h : Keeps σ σ') {i : Nat} (o : Option SObj) (hi : σ.next ≤ i) : Keeps σ (σ'.put i o) := ⟨by rw [Store.next_put]; split <;> have := h.1 <;> omega, fun j hj => by rw [Store.get_put_ne _ _ (by omega)]; exact h.2 j hj⟩
theorem Keeps.skip {σ σ' : Store} (h : Keeps σ σ') : Keeps σ σ'.skip := ⟨by rw [skip_next]; exact Nat.le_succ_of_le h.1, fun j hj => by rw [skip_get]; exact h.2 j hj⟩
theorem Keeps.get {σ σ' : Store} (h : Keeps σ σ') {i : Nat} {o : SObj} (hi : σ.get i = some o) : σ'.get i = some o := by rw [h.2 i (Store.lt_of_get hi), hi]
theorem Does.pureT {f : FuncId} {args : List Value} {σ : Store} {r : Value} {Q : Value → Store → Prop} (h : Does P f args σ fun r' σ' => r' = r ∧ Keeps σ σ') (hr : closedT r = true) (hq : Q r σ) : Does P f args σ Q := by
  obtain ⟨r', σ', h1, rfl, h2⟩ := h
  exact ⟨r', σ, h1.pureT hr fun i o hi => h2.get hi, hq⟩
end Go.Am
