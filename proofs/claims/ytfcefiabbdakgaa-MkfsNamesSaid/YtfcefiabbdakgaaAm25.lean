/- The abstract machine, part 25: operations with their types resolved, all of them. No program in sight. -/
import Derived.Test.YtfcefiabbdakgaaAm24
set_option linter.all false
namespace Go.Am
open Go.RowKit
variable {P : Program}

def convI (k : IntKind) (x : Value) : Option Value := match x with | .int _ n => some (.int k (k.wrap n)) | _ => none
def convS (x : Value) : Option Value := match x with | .string s => some (.string s) | _ => none
def convB (x : Value) : Option (SObj × (Nat → Value)) := match x with | .string s => some (.cells (bytesV s) (some 1), fun i => .slice (some ⟨i, 0, some 1⟩) s.size s.size) | _ => none
def s2a (n : Nat) (x : Value) : Option Value := match x with | .slice (some ⟨i, o, _⟩) len _ => bif Nat.ble n len then some (.pointer (some ⟨i, o, none⟩)) else none | _ => none
def makeS (ze : List Value) (by_ : Nat) (l c : Value) : Option (SObj × (Nat → Value)) :=
  match l, c with
  | .int _ l, .int _ c => if 0 ≤ l ∧ l = c ∧ c ≤ 9223372036854775807 ∧ by_ * c ≤ 281474976710656 then some (.cells (List.replicate c.toNat ze).flatten none, fun i => .slice (some ⟨i, 0, none⟩) c.toNat c.toNat) else none
  | _, _ => none
def sliceAr (n c : Nat) (x : Value) (lo hi : Option Value) : Option Value :=
  match x with
  | .pointer (some ⟨b, o, none⟩) =>
    match bound hi n n with
    | some h =>
      match bound lo 0 h with
      | some l => bif n == l then none else some (.slice (some ⟨b, o + l * c, none⟩) (h - l) (n - l))
      | none => none
    | none => none
  | _ => none
def sliceSl (c : Nat) (x : Value) (lo hi : Option Value) : Option Value :=
  match x with
  | .slice (some ⟨b, o, s⟩) n k =>
    match bound hi n k with
    | some h =>
      bif s == none || s == some c then
        match bound lo 0 h with
        | some l => bif (k == l && !(l == 0)) || !Nat.ble h k then none else some (.slice (some ⟨b, o + l * c, s⟩) (h - l) (k - l))
        | none => none
      else none
    | none => none
  | .slice none n k =>
    match bound hi n k with
    | some h =>
      match bound lo 0 h with
      | some l => some (.slice none (h - l) (k - l))
      | none => none
    | none => none
  | _ => none
def sliceStr (x : Value) (lo hi : Option Value) : Option Value :=
  match x with
  | .string s =>
    match bound hi s.size s.size with
    | some h =>
      match bound lo 0 h with
      | some l => some (.string (s.extract l h))
      | none => none
    | none => none
  | _ => none
def faddr (off : Nat) (x : Value) : Option Value := match x with | .pointer (some ⟨i, o, none⟩) => some (.pointer (some ⟨i, o + off, none⟩)) | _ => none
def fpart (b : Bool) (n off : Nat) (x : Value) : Option Value := match x with | .agg xs => part? b n xs.toList off | _ => none
def iaddrA (n c : Nat) (x i : Value) : Option Value := match i, x with | .int _ i, .pointer (some ⟨b, o, none⟩) => if 0 ≤ i ∧ i < n then some (.pointer (some ⟨b, o + i.toNat * c, none⟩)) else none | _, _ => none
def iaddrS (c : Nat) (x i : Value) : Option Value :=
  match i, x with
  | .int _ i, .slice (some ⟨b, o, s⟩) n _ => bif s == none || s == some c then (if 0 ≤ i ∧ i < n then some (.pointer (some ⟨b, o + i.toNat * c, none⟩)) else none) else none
  | _, _ => none
def indexA (b : Bool) (c n : Nat) (x i : Value) : Option Value := match x, i with | .agg xs, .int _ i => if 0 ≤ i ∧ i < n then part? b c xs.toList (i.toNat * c) else none | _, _ => none
def indexStr (x i : Value) : Option Value := match x, i with | .string s, .int _ i => if 0 ≤ i then (s[i.toNat]?).map fun b => .int .u8 b.toNat else none | _, _ => none
def entsOf (x : Value) (g : Nat → Option SObj) : Option (List MapEntry) :=
  match x with
  | .map none => some []
  | .map (some r) => (match g r with | some (.map es _) => some es | _ => none)
  | _ => none
def lookupH (d : TypeDesc) (z x k : Value) (ok : Bool) (g : Nat → Option SObj) : Option Value :=
  match entsOf x g with
  | none => none
  | some es =>
    match Instr.findNow d k es 0 with
    | none => none
    | some (some (_, v)) => some (bif ok then .tuple #[v, .bool true] else v)
    | some none => some (bif ok then .tuple #[z, .bool false] else z)
def updH (d : TypeDesc) (x k v : Value) (σ : Store) : Option (Value × Store) :=
  match x with
  | .map (some r) =>
    match σ.get r with
    | some (.map es ck) =>
      match Instr.findNow d k es 0 with
      | none => none
      | some (some (i, _)) => some (junk, σ.put r (some (.map (es.modify i fun e => { e with key := k, val := v }) ck)))
      | some none => some (junk, σ.put r (some (.map (es ++ [{ key := k, val := v, born := ck }]) (ck + 1))))
    | _ => none
  | _ => none
def entryH (d : TypeDesc) (z x k : Value) (σ : Store) : Option (Value × Store) :=
  match x with
  | .map (some r) =>
    match σ.get r with
    | some (.map es ck) =>
      match Instr.findNow d k es 0 with
      | none => none
      | some (some (i, v)) => some (.tuple #[v, .int .i64 ((es[i]?.map (·.born)).getD 0 : Nat)], σ.put r (some (.map (es.modify i fun e => { e with key := k }) ck)))
      | some none => some (.tuple #[z, .int .i64 (ck : Nat)], σ.put r (some (.map (es ++ [{ key := k, val := z, born := ck }]) (ck + 1))))
    | _ => none
  | _ => none
def delH (d : TypeDesc) (x k : Value) (σ : Store) : Option (Value × Store) :=
  match x with
  | .map none => some (junk, σ)
  | .map (some r) =>
    match σ.get r with
    | some (.map es ck) =>
      match Instr.findNow d k es 0 with
      | none => none
      | some (some (i, _)) => some (junk, σ.put r (some (.map (es.eraseIdx i) ck)))
      | some none => some (junk, σ.put r (some (.map es ck)))
    | _ => none
  | _ => none
def extractV (x : Value) (i : Nat) : Option Value := match x with | .tuple vs => vs[i]? | _ => none
def lenStr (x : Value) : Option Value := match x with | .string s => some (.int .i64 (s.size : Nat)) | _ => none
def lenSl (x : Value) : Option Value := match x with | .slice _ n _ => some (.int .i64 (n : Nat)) | _ => none
def lenMap (x : Value) (g : Nat → Option SObj) : Option Value :=
  match x with
  | .map (some r) => (match g r with | some (.map es _) => some (.int .i64 (es.length : Nat)) | _ => none)
  | _ => none
def callD (P : Program) (f : Value) (args : List Value) : Option (FuncId × List Value) :=
  match f with
  | .func (.func g) first captured => bif callable P g then some (g, first.toList ++ args ++ captured.toList) else none
  | _ => none
def cutZ (ns : List Nat) (z : List Value) : List (List Value) := (cutL ns z).map rle
theorem cutZ_eq (ns : List Nat) (z : List Value) : cutZ ns z = cutL ns z := by
  unfold cutZ
  rw [show (rle : List Value → List Value) = id from funext rle_eq]
  simp
def aggOf (x : Option (List (List Value))) : Option Value := x.map fun fs => .agg fs.flatten.toArray
def sliceOf (n : Nat) (x : Option (List (List Value))) : Option (SObj × (Nat → Value)) := match x with | some fs => some (.cells fs.flatten none, fun i => .slice (some ⟨i, 0, none⟩) n n) | none => none
def buildH (P : Program) (t : TypeId) (parts : List (Nat × Value)) : ActH :=
  match P.underlying t, tZeros P t with
  | some (.struct fields), some z =>
    match fieldSizes P fields.toList with
    | none => .fail
    | some ns => .val (aggOf (buildL (cutZ ns z) parts))
  | some (.array n elem), some _ =>
    match tZeros P elem with
    | none => .fail
    | some ze => .val (aggOf (buildL (List.replicate n (rle ze)) parts))
  | _, _ => .fail
def builtinH (P : Program) (b : Builtin) (ts : List TypeId) (args : List Value) : ActH :=
  match b, ts, args with
  | .append, [t, t1], [s, x] =>
    match P.underlying t, (match P.underlying t1 with | some (.slice _) => true | some .string => true | _ => false) with
    | some (.slice e), true =>
      (match tSize P e, tBytes P e, tZeros P e with
      | some (sz + 1), some by_, some ze => bif ze.length == sz + 1 then .eff (appendV (sz + 1) by_ s x) else .fail
      | _, _, _ => .fail)
    | _, _ => .fail
  | .len, [t], [x] =>
    match P.underlying t with
    | some .string => .val (lenStr x)
    | some (.array n _) => .mv (.int .i64 (n : Nat))
    | some (.slice _) => .val (lenSl x)
    | some (.map _ _) => .rd (lenMap x)
    | _ => .fail
  | .copy, [t, _], [d, x] =>
    match P.underlying t with
    | some (.slice e) => (match tSize P e with | some sz => .eff (copyV sz d x) | none => .fail)
    | _ => .fail
  | .clear, [t], [x] => (match P.underlying t with | some (.map _ _) => .eff (clearV x) | _ => .fail)
  | .delete, [t, _], [m, k] => (match P.underlying t with | some (.map kt _) => (match keyDesc P kt with | some d => .eff (delH d m k) | none => .fail) | _ => .fail)
  | .delete, [t], [m, k] => (match P.underlying t with | some (.map kt _) => (match keyDesc P kt with | some d => .eff (delH d m k) | none => .fail) | _ => .fail)
  | .max, _, args => .val (minMaxV true args)
  | .min, _, args => .val (minMaxV false args)
  | _, _, _ => .fail
def actH (P : Program) (o : Oper) (e : Operand → Value) : ActH :=
  match o.op with
  | .move x => .mv (e x)
  | .assign x => .mv (e x)
  | .pick c a b => .val (pickV (e c) (e a) (e b))
  | .alloc t => (match tZeros P t with | some z => .new (some (.cells (rle z) none, ptrTo)) | none => .fail)
  | .box _ x => .new (boxN (e x))
  | .build t parts => buildH P t (parts.toList.map fun (i, x) => (i, e x))
  | .buildSlice t n parts =>
    (match P.underlying t with
    | some (.slice el) =>
      (match tZeros P el with
      | some ze => bif Nat.ble (n * ze.length) 16777216 then .new (sliceOf n (buildL (List.replicate n (rle ze)) (parts.toList.map fun (i, x) => (i, e x)))) else .fail
      | none => .fail)
    | _ => .fail)
  | .load t a => (match tAgg P t, tSize P t with | some b, some n => .rd (loadV b n (e a)) | _, _ => .fail)
  | .store t a v => (match tSize P t with | some n => .eff (storeV n (e a) (e v)) | none => .fail)
  | .nilCheck x => .val (nilV (e x))
  | .binOp op t x y _ => binH P (isNilC x || isNilC y) op t (e x) (e y)
  | .unOp op _ x => .val (unV op (e x))
  | .convert src dst x =>
    (match P.underlying src, P.underlying dst with
    | some (.int _), some (.int k) => .val (convI k (e x))
    | some .string, some .string => .val (convS (e x))
    | some .string, some (.slice el) => (match P.underlying el with | some (.int .u8) => .new (convB (e x)) | _ => .fail)
    | some (.slice _), some (.slice el) => (match P.underlying el with | some (.int .u8) => bif Nat.beq src dst then .eff (handV (e x)) else .fail | _ => .fail)
    | _, _ => .fail)
  | .sliceToArrayPointer t x => (match P.underlying t with | some (.array n _) => .val (s2a n (e x)) | _ => .fail)
  | .makeFunc (.func f) first captured => .mv (.func (.func f) (first.map e) (captured.map e))
  | .makeMap _ none => .new (some (.map [] 0, fun i => .map (some i)))
  | .makeSlice t l c =>
    (match P.underlying t with
    | some (.slice el) => (match tZeros P el, tBytes P el with | some ze, some by_ => .new (makeS (rle ze) by_ (e l) (e c)) | _, _ => .fail)
    | _ => .fail)
  | .slice t x lo hi none =>
    (match P.underlying t with
    | some (.array n el) => (match tSize P el with | some c => .val (sliceAr n c (e x) (lo.map e) (hi.map e)) | none => .fail)
    | some (.slice el) => (match tSize P el with | some c => .val (sliceSl c (e x) (lo.map e) (hi.map e)) | none => .fail)
    | some .string => .val (sliceStr (e x) (lo.map e) (hi.map e))
    | _ => .fail)
  | .fieldAddr t x f =>
    (match P.underlying t with
    | some (.struct fs) => (match fs[f]? with | some fl => (match tSize P fl.type with | some (_ + 1) => .val (faddr fl.offset (e x)) | _ => .fail) | none => .fail)
    | _ => .fail)
  | .field t x f =>
    (match P.underlying t with
    | some (.struct fs) => (match fs[f]? with | some fl => (match tAgg P fl.type, tSize P fl.type with | some b, some n => .val (fpart b n fl.offset (e x)) | _, _ => .fail) | none => .fail)
    | _ => .fail)
  | .indexAddr t x i =>
    (match P.underlying t with
    | some (.array n el) => (match tSize P el with | some c => .val (iaddrA n c (e x) (e i)) | none => .fail)
    | some (.slice el) => (match tSize P el with | some c => .val (iaddrS c (e x) (e i)) | none => .fail)
    | _ => .fail)
  | .index t x i =>
    (match P.underlying t with
    | some (.array n el) => (match tAgg P el, tSize P el with | some b, some c => .val (indexA b c n (e x) (e i)) | _, _ => .fail)
    | some .string => .val (indexStr (e x) (e i))
    | _ => .fail)
  | .lookup t x k ok => (match P.underlying t with | some (.map kt et) => (match keyDesc P kt, tZero P et with | some d, some z => .rd (lookupH d (rleV z) (e x) (e k) ok) | _, _ => .fail) | _ => .fail)
  | .mapUpdate t m k v => (match P.underlying t with | some (.map kt _) => (match keyDesc P kt with | some d => .eff (updH d (e m) (e k) (e v)) | none => .fail) | _ => .fail)
  | .mapEntry t m k => (match P.underlying t with | some (.map kt et) => (match keyDesc P kt, tZero P et with | some d, some z => .eff (entryH d (rleV z) (e m) (e k)) | _, _ => .fail) | _ => .fail)
  | .entryStore _ m s v => .eff (entryStoreV (e m) (e s) (e v))
  | .extract x i => .val (extractV (e x) i)
  | .call c =>
    (match c.callee with
    | .builtin b => builtinH P b c.argTypes.toList (c.args.toList.map e)
    | .value f => .call (callD P (e f) (c.args.toList.map e))
    | .invoke _ _ => .fail)
  | _ => .fail

theorem ofVal_val {x : Option Value} {v : Value} (h : x = some v) : ofVal x = some (.val v) := by rw [h]; rfl
theorem eqH_fits {nc neg : Bool} {t : TypeId} {x y : Value} : Fits (eqH P nc neg t x y) (binA P (bif neg then .neq else .eql) t x y) := by
  unfold eqH
  cases hu : P.underlying t with
  | none => trivial
  | some d =>
    cases d with
    | bool =>
      intro v hv
      unfold eqB at hv
      split at hv
      · cases hv
        refine eqV_fits (by simp) (by simp) (by simp) ?_ neg
        simp [eqV, hu, eq1]
      · cases hv
    | slice e =>
      intro v hv
      unfold eqSl at hv
      split at hv <;> cases hv
      all_goals (refine eqV_fits (by simp) (by simp) (by simp) ?_ neg; simp [eqV, hu, eq1])
    | map k e =>
      intro v hv
      unfold eqMp at hv
      split at hv <;> cases hv
      all_goals (refine eqV_fits (by simp) (by simp) (by simp) ?_ neg; simp [eqV, hu, eq1])
    | func a b c =>
      intro v hv
      unfold eqFn at hv
      split at hv <;> cases hv
      all_goals (refine eqV_fits (by simp) (by simp) (by simp) ?_ neg; simp [eqV, hu, eq1])
    | pointer el =>
      cases nc with
      | true =>
        intro v hv
        unfold eqPn at hv
        split at hv
        · cases hv
          refine eqV_fits (by simp) (by simp) (by simp) ?_ neg
          simp [eqV, hu, eq1]
        · cases hv
          refine eqV_fits (by simp) (by simp) (by simp) ?_ neg
          simp [eqV, hu, eq1]
        · cases hv
      | false =>
      simp only [cond_false]
      split
      · rename_i n hn
        by_cases hp : ∃ a c, x = .pointer (some a) ∧ y = .pointer (some c)
        · obtain ⟨a, c, rfl, rfl⟩ := hp
          cases neg
          · refine .inl ⟨fun g => (eqP a c g).map .bool, by simp [binA, hu, hn], fun g v h => ?_⟩
            simp only [eqPt] at h
            cases hq : eqP a c g with
            | none => rw [hq] at h; cases h
            | some r => rw [hq] at h; show (eqP a c g).map _ = _; rw [hq]; simpa using h
          · refine .inl ⟨fun g => (eqP a c g).map fun r => .bool !r, by simp [binA, hu, hn], fun g v h => ?_⟩
            simp only [eqPt] at h
            cases hq : eqP a c g with
            | none => rw [hq] at h; cases h
            | some r => rw [hq] at h; show (eqP a c g).map _ = _; rw [hq]; simpa using h
        · refine .inr fun g => ?_
          unfold eqPt
          split
          · exact absurd ⟨_, _, rfl, rfl⟩ hp
          · rfl
      · trivial
    | struct fs =>
      simp only
      split
      · rename_i d hd
        intro v hv
        unfold eqA at hv
        split at hv
        · rename_i xs ys
          cases hb : eqD d xs.toList ys.toList with
          | none => rw [hb] at hv; cases hv
          | some b =>
            rw [hb] at hv; cases hv
            refine eqV_fits (by simp) (by simp) (by simp) ?_ neg
            simp [eqV, hu, desc_eq hd, hb]
        · cases hv
      · trivial
    | array n e =>
      simp only
      split
      · rename_i d hd
        intro v hv
        unfold eqA at hv
        split at hv
        · rename_i xs ys
          cases hb : eqD d xs.toList ys.toList with
          | none => rw [hb] at hv; cases hv
          | some b =>
            rw [hb] at hv; cases hv
            refine eqV_fits (by simp) (by simp) (by simp) ?_ neg
            simp [eqV, hu, desc_eq hd, hb]
        · cases hv
      · trivial
    | _ => trivial
theorem binH_fits {nc : Bool} {op : BinOp} {t : TypeId} {x y : Value} : Fits (binH P nc op t x y) (binA P op t x y) := by
  have key : op ≠ .shl → op ≠ .shr → Fits (match P.underlying t with
    | some (.int _) => .val (binI op x y)
    | some .string => .val (binS op x y)
    | _ =>
      match op with
      | .eql => eqH P nc false t x y
      | .neq => eqH P nc true t x y
      | _ => .fail) (binA P op t x y) := fun h1 h2 => by
    split
    · exact fun v hv => binI_fits h1 h2 hv
    · exact fun v hv => binS_fits hv
    · cases op <;> first | trivial | exact eqH_fits (neg := false) | exact eqH_fits (neg := true)
  cases op <;> first | exact key (by simp) (by simp) | skip
  all_goals
    intro v hv
    unfold shiftV at hv
    split at hv
    · unfold binA
      simp only [hv]; rfl
    · cases hv
theorem buildH_fits {t : TypeId} {parts : List (Nat × Value)} : Fits (buildH P t parts) (ofVal (buildAgg P t parts)) := by
  unfold buildH buildAgg
  split
  · rename_i fs z h1 h2
    split
    · trivial
    · rename_i ns hn
      intro v hv
      rw [cutZ_eq] at hv
      refine ofVal_val ?_
      rw [h1, h2]; simp only [hn]
      exact hv
  · rename_i n el z h1 h2
    split
    · trivial
    · rename_i ze hz
      intro v hv
      rw [rle_eq] at hv
      refine ofVal_val ?_
      rw [h1, h2]; simp only [hz]
      exact hv
  · trivial
end Go.Am
