/- The abstract machine, part 24: operations with their types resolved. No program in sight. -/
import Derived.Test.YtfcefiabbdakgaaAm23
set_option linter.all false
namespace Go.Am
open Go.RowKit
variable {P : Program}

/-! ## rows of like cells -/
def unrle : List (Nat × Value) → List Value
  | [] => []
  | (n, v) :: r => List.replicate n v ++ unrle r
def comp1 (v : Value) (q : List (Nat × Value)) : List (Nat × Value) :=
  match q with
  | [] => [(1, v)]
  | (n, u) :: q => bif same1 v u then (n + 1, u) :: q else (1, v) :: (n, u) :: q
def comp : List Value → List (Nat × Value)
  | [] => []
  | v :: r => comp1 v (comp r)
theorem unrle_comp : ∀ z : List Value, unrle (comp z) = z
  | [] => rfl
  | v :: r => by
    show unrle (comp1 v (comp r)) = v :: r
    have ih := unrle_comp r
    unfold comp1
    split
    · rename_i h
      rw [h] at ih
      rw [← ih]; rfl
    · rename_i n u q h
      rw [h] at ih
      cases hs : same1 v u with
      | false => rw [cond_false, ← ih]; rfl
      | true =>
        rw [cond_true, ← ih, same1_eq hs]
        simp [unrle, List.replicate_succ]
def rle (z : List Value) : List Value := unrle (comp z)
@[simp] theorem rle_eq (z : List Value) : rle z = z := unrle_comp z
def rleV (z : Value) : Value := match z with | .agg xs => .agg (unrle (comp xs.toList)).toArray | v => v
@[simp] theorem rleV_eq (z : Value) : rleV z = z := by
  unfold rleV
  split
  · rw [unrle_comp]
  · rfl

/-! ## what an operation does, its types resolved -/
inductive ActH where
  | fail
  | mv (v : Value)
  | val (x : Option Value)
  | rd (f : (Nat → Option SObj) → Option Value)
  | new (x : Option (SObj × (Nat → Value)))
  | eff (f : Store → Option (Value × Store))
  | call (x : Option (FuncId × List Value))
def Fits (h : ActH) (x : Option Action) : Prop :=
  match h with
  | .fail => True
  | .mv v => x = some (.val v)
  | .val y => ∀ v, y = some v → x = some (.val v)
  | .rd f => (∃ f', x = some (.rd f') ∧ ∀ g v, f g = some v → f' g = some v) ∨ ∀ g, f g = none
  | .new y => ∀ o mk, y = some (o, mk) → x = some (.new o mk)
  | .eff f => (∃ f', x = some (.eff f') ∧ ∀ σ r, f σ = some r → f' σ = some r) ∨ ∀ σ, f σ = none
  | .call y => ∀ f as, y = some (f, as) → x = some (.call f as)
theorem Fits.rd_same (f : (Nat → Option SObj) → Option Value) : Fits (.rd f) (some (.rd f)) := .inl ⟨f, rfl, fun _ _ h => h⟩
theorem Fits.eff_same (f : Store → Option (Value × Store)) : Fits (.eff f) (some (.eff f)) := .inl ⟨f, rfl, fun _ _ h => h⟩

def pickV (c a b : Value) : Option Value := match c with | .bool t => some (bif t then a else b) | _ => none
def boxN (x : Value) : Option (SObj × (Nat → Value)) := match cellsL x with | some cs => some (.cells cs none, ptrTo) | none => none
def nilV (x : Value) : Option Value := match x with | .pointer (some a) => some (.pointer (some a)) | .func (.func f) xs ys => some (.func (.func f) xs ys) | _ => none
def shiftV (op : BinOp) (x y : Value) : Option Value := match x, y with | .int k a, .int _ b => shiftOp op k a b | _, _ => none
def binI (op : BinOp) (x y : Value) : Option Value := match x, y with | .int k a, .int k' b => bif k == k' then intOp op k a b else none | _, _ => none
def binS (op : BinOp) (x y : Value) : Option Value := match x, y with | .string a, .string b => strOp op a b | _, _ => none
def eqB (neg : Bool) (x y : Value) : Option Value := match x, y with | .bool a, .bool b => some (.bool ((a == b) ^^ neg)) | _, _ => none
/-- One of the two is nil. -/
def eqSl (neg : Bool) (x y : Value) : Option Value :=
  match x, y with
  | .slice none _ _, .slice b _ _ => some (.bool (b.isNone ^^ neg))
  | .slice (some _) _ _, .slice none _ _ => some (.bool (false ^^ neg))
  | _, _ => none
def eqMp (neg : Bool) (x y : Value) : Option Value :=
  match x, y with
  | .map none, .map b => some (.bool (b.isNone ^^ neg))
  | .map (some _), .map none => some (.bool (false ^^ neg))
  | _, _ => none
def eqFn (neg : Bool) (x y : Value) : Option Value :=
  match x, y with
  | .nilFunc, .nilFunc => some (.bool (true ^^ neg))
  | .nilFunc, .func _ _ _ => some (.bool (false ^^ neg))
  | .func _ _ _, .nilFunc => some (.bool (false ^^ neg))
  | _, _ => none
def eqPn (neg : Bool) (x y : Value) : Option Value :=
  match x, y with
  | .pointer none, .pointer b => some (.bool (b.isNone ^^ neg))
  | .pointer (some _), .pointer none => some (.bool (false ^^ neg))
  | _, _ => none
def eqPt (neg : Bool) (x y : Value) (g : Nat → Option SObj) : Option Value :=
  match x, y with
  | .pointer (some a), .pointer (some b) => (eqP a b g).map fun r => .bool (r ^^ neg)
  | _, _ => none
def isNilC (x : Operand) : Bool := match x with | .const (.pointer none) => true | _ => false
/-- How cells are held against each other. -/
inductive EqD where
  | ints (k : IntKind) (n : Nat)
  | one (d : TypeDesc)
  | fields (l : List (Nat × Nat × EqD))
  | elems (c n : Nat) (d : EqD)
mutual
def eqD : EqD → List Value → List Value → Option Bool
  | .ints k n, xs, ys => eqInts k n xs ys
  | .one d, xs, ys => eqLeaf d xs ys
  | .fields l, xs, ys => eqDs l xs ys
  | .elems c n d, xs, ys => eqIs (eqD d) c n xs ys
def eqDs : List (Nat × Nat × EqD) → List Value → List Value → Option Bool
  | [], _, _ => some true
  | (off, n, d) :: l, xs, ys =>
    match eqD d ((xs.drop off).take n) ((ys.drop off).take n), eqDs l xs ys with
    | some a, some b => some (a && b)
    | _, _ => none
end
def descFs (P : Program) (desc : TypeId → Option EqD) : List Field → Option (List (Nat × Nat × EqD))
  | [] => some []
  | fl :: fs =>
    bif fl.name == "_" then none else
    match tSize P fl.type, desc fl.type, descFs P desc fs with
    | some n, some d, some l => some ((fl.offset, n, d) :: l)
    | _, _, _ => none
def desc (P : Program) : Nat → TypeId → Option EqD
  | 0, _ => none
  | f + 1, t =>
    match P.underlying t with
    | some (.struct fs) => bif P.stoodInHeld t then none else (descFs P (desc P f) fs.toList).map .fields
    | some (.array n e) =>
      match P.underlying e, tSize P e with
      | some (.int k), some 1 => some (.ints k n)
      | some _, some c => (desc P f e).map (.elems c n)
      | _, _ => none
    | some d => some (.one d)
    | none => none
theorem descFs_eq {des : TypeId → Option EqD} {eq : TypeId → List Value → List Value → Option Bool} (h : ∀ t d, des t = some d → ∀ xs ys, eq t xs ys = eqD d xs ys) : ∀ {fs : List Field} {l : List (Nat × Nat × EqD)}, descFs P des fs = some l → ∀ xs ys, eqFs P eq fs xs ys = eqDs l xs ys
  | [], l, hl, xs, ys => by cases hl; simp [eqFs, eqDs]
  | fl :: fs, l, hl, xs, ys => by
    unfold descFs at hl
    unfold eqFs
    cases hn : (fl.name == "_") with
    | true => rw [hn] at hl; cases hl
    | false =>
      rw [hn] at hl
      simp only [cond_false] at hl ⊢
      cases hs : tSize P fl.type with
      | none => rw [hs] at hl; cases hl
      | some n =>
        cases hd : des fl.type with
        | none => rw [hs, hd] at hl; cases hl
        | some d =>
          cases hf : descFs P des fs with
          | none => rw [hs, hd, hf] at hl; cases hl
          | some l' =>
            rw [hs, hd, hf] at hl
            cases hl
            simp only [eqDs, h _ _ hd, descFs_eq h hf]
            generalize eqD d _ _ = A
            generalize eqDs l' xs ys = B
            cases A <;> cases B <;> rfl
theorem desc_eq : ∀ {f : Nat} {t : TypeId} {d : EqD}, desc P f t = some d → ∀ xs ys, eqL P f t xs ys = eqD d xs ys
  | 0, _, _, h, _, _ => by cases h
  | f + 1, t, d, h, xs, ys => by
    unfold desc at h
    unfold eqL
    cases hu : P.underlying t with
    | none => rw [hu] at h; cases h
    | some u =>
      rw [hu] at h
      cases u with
      | struct fs =>
        simp only at h ⊢
        cases hst : P.stoodInHeld t with
        | true => rw [hst] at h; cases h
        | false =>
          rw [hst] at h
          simp only [cond_false] at h ⊢
          cases hf : descFs P (desc P f) fs.toList with
          | none => rw [hf] at h; cases h
          | some l =>
            rw [hf] at h; cases h
            rw [descFs_eq (fun t d hd xs ys => desc_eq hd xs ys) hf]
            simp [eqD]
      | array n e =>
        simp only at h ⊢
        split at h
        · rename_i k h1 h2
          cases h
          simp [h1, h2, eqD]
        · rename_i u c hno h1 h2
          cases hd : desc P f e with
          | none => rw [hd] at h; cases h
          | some d' =>
            rw [hd] at h; cases h
            have hfun : eqL P f e = eqD d' := funext fun xs => funext fun ys => desc_eq hd xs ys
            rw [h1, h2]
            simp only [eqD, hfun]
        · cases h
      | _ => cases h; simp [eqD]
def eqA (d : EqD) (neg : Bool) (x y : Value) : Option Value := match x, y with | .agg xs, .agg ys => (eqD d xs.toList ys.toList).map fun b => .bool (b ^^ neg) | _, _ => none
def eqH (P : Program) (nc neg : Bool) (t : TypeId) (x y : Value) : ActH :=
  match P.underlying t with
  | some .bool => .val (eqB neg x y)
  | some (.slice _) => .val (eqSl neg x y)
  | some (.map _ _) => .val (eqMp neg x y)
  | some (.func _ _ _) => .val (eqFn neg x y)
  | some (.pointer el) => bif nc then .val (eqPn neg x y) else (match tSize P el with | some (_ + 1) => .rd (eqPt neg x y) | _ => .fail)
  | some (.struct _) => (match desc P eqFuel t with | some d => .val (eqA d neg x y) | none => .fail)
  | some (.array _ _) => (match desc P eqFuel t with | some d => .val (eqA d neg x y) | none => .fail)
  | _ => .fail
def binH (P : Program) (nc : Bool) (op : BinOp) (t : TypeId) (x y : Value) : ActH :=
  match op with
  | .shl => .val (shiftV .shl x y)
  | .shr => .val (shiftV .shr x y)
  | op =>
    match P.underlying t with
    | some (.int _) => .val (binI op x y)
    | some .string => .val (binS op x y)
    | _ =>
      match op with
      | .eql => eqH P nc false t x y
      | .neq => eqH P nc true t x y
      | _ => .fail
theorem binI_fits {op : BinOp} {t : TypeId} {x y v : Value} (h1 : op ≠ .shl) (h2 : op ≠ .shr) (h : binI op x y = some v) : binA P op t x y = some (.val v) := by
  unfold binI at h
  split at h
  · cases op <;> first | exact absurd rfl h1 | exact absurd rfl h2 | (
      rename_i k a k' b
      unfold binA
      cases hk : (k == k') <;> rw [hk] at h
      · cases h
      · simp only [hk, cond_true] at h ⊢
        rw [h]; rfl)
  · cases h
theorem binS_fits {op : BinOp} {t : TypeId} {x y v : Value} (h : binS op x y = some v) : binA P op t x y = some (.val v) := by
  unfold binS at h
  split at h
  · cases op <;> (unfold binA; simp only; rw [h]; rfl)
  · cases h
theorem eqV_fits {t : TypeId} {x y : Value} {b : Bool} (hs : ∀ k a j c, ¬ (x = .int k a ∧ y = .int j c)) (hst : ∀ a c, ¬ (x = .string a ∧ y = .string c)) (hp : ∀ a c, ¬ (x = .pointer (some a) ∧ y = .pointer (some c))) (h : eqV P t x y = some b) (neg : Bool) :
    binA P (bif neg then .neq else .eql) t x y = some (.val (.bool (b ^^ neg))) := by
  cases neg
  · unfold binA
    simp only [cond_false]
    split <;> first | (rename_i e1 e2 e3; cases e1; done) | skip
    all_goals first
      | exact absurd ⟨rfl, rfl⟩ (hs _ _ _ _)
      | exact absurd ⟨rfl, rfl⟩ (hst _ _)
      | exact absurd ⟨rfl, rfl⟩ (hp _ _)
      | (rw [h]; simp; done)
      | (simp_all; done)
      | (rename_i hh _ _ _; cases hh; done)
      | (rename_i hh _ _ _ _; cases hh; done)
  · unfold binA
    simp only [cond_true]
    split <;> first | (rename_i e1 e2 e3; cases e1; done) | skip
    all_goals first
      | exact absurd ⟨rfl, rfl⟩ (hs _ _ _ _)
      | exact absurd ⟨rfl, rfl⟩ (hst _ _)
      | exact absurd ⟨rfl, rfl⟩ (hp _ _)
      | (rw [h]; simp; done)
      | (simp_all; done)
      | (rename_i hh _ _ _; cases hh; done)
      | (rename_i hh _ _ _ _; cases hh; done)
end Go.Am
