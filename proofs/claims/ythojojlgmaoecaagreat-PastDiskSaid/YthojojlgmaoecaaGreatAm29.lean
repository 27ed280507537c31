import Derived.Test.YthojojlgmaoecaaGreatAm24
section
/- The abstract machine, part 25: operations with their types resolved, all of them. No program in sight. -/
set_option linter.all false
namespace Go.Am
open Go.RowKit
variable {P : Program}

def convI (k : IntKind) (x : Value) : Option Value := match x with | .int _ n => some (.int k (k.wrap n)) | _ => none
def convS (x : Value) : Option Value := match x with | .string s => some (.string s) | _ => none
def convB (x : Value) : Option (SObj × (Nat → Value)) := match x with | .string s => some (.cells (bytesV s) (some 1), fun i => .slice (some ⟨i, 0, some 1⟩) s.size s.size) | _ => none
def s2a (n : Nat) (x : Value) : Option Value := match x with | .slice (some ⟨i, o, _⟩) len _ => bif Nat.ble n len then some (.pointer (some ⟨i, o, none⟩)) else none | _ => none
def makeS (ze : List Value) (by_ : Nat) (l c : Value) : Option (SObj × (Nat → Value)) :=
  match l, c with
  | .int _ l, .int _ c => if 0 ≤ l ∧ l = c ∧ c ≤ 9223372036854775807 ∧ by_ * c ≤ 281474976710656 then some (.cells (List.replicate c.toNat ze).flatten none, fun i => .slice (some ⟨i, 0, none⟩) c.toNat c.toNat) else none
  | _, _ => none
def sliceAr (n c : Nat) (x : Value) (lo hi : Option Value) : Option Value :=
  match x with
  | .pointer (some ⟨b, o, none⟩) =>
    match bound hi n n with
    | some h =>
      match bound lo 0 h with
      | some l => bif n == l then none else some (.slice (some ⟨b, o + l * c, none⟩) (h - l) (n - l))
      | none => none
    | none => none
  | _ => none
def sliceSl (c : Nat) (x : Value) (lo hi : Option Value) : Option Value :=
  match x with
  | .slice (some ⟨b, o, s⟩) n k =>
    match bound hi n k with
    | some h =>
      bif s == none || s == some c then
        match bound lo 0 h with
        | some l => bif (k == l && !(l == 0)) || !Nat.ble h k then none else some (.slice (some ⟨b, o + l * c, s⟩) (h - l) (k - l))
        | none => none
      else none
    | none => none
  | .slice none n k =>
    match bound hi n k with
    | some h =>
      match bound lo 0 h with
      | some l => some (.slice none (h - l) (k - l))
      | none => none
    | none => none
  | _ => none
def sliceStr (x : Value) (lo hi : Option Value) : Option Value :=
  match x with
  | .string s =>
    match bound hi s.size s.size with
    | some h =>
      match bound lo 0 h with
      | some l => some (.string (s.extract l h))
      | none => none
    | none => none
  | _ => none
def faddr (off : Nat) (x : Value) : Option Value := match x with | .pointer (some ⟨i, o, none⟩) => some (.pointer (some ⟨i, o + off, none⟩)) | _ => none
def fpart (b : Bool) (n off : Nat) (x : Value) : Option Value := match x with | .agg xs => part? b n xs.toList off | _ => none
def iaddrA (n c : Nat) (x i : Value) : Option Value := match i, x with | .int _ i, .pointer (some ⟨b, o, none⟩) => if 0 ≤ i ∧ i < n then some (.pointer (some ⟨b, o + i.toNat * c, none⟩)) else none | _, _ => none
def iaddrS (c : Nat) (x i : Value) : Option Value :=
  match i, x with
  | .int _ i, .slice (some ⟨b, o, s⟩) n _ => bif s == none || s == some c then (if 0 ≤ i ∧ i < n then some (.pointer (some ⟨b, o + i.toNat * c, none⟩)) else none) else none
  | _, _ => none
def indexA (b : Bool) (c n : Nat) (x i : Value) : Option Value := match x, i with | .agg xs, .int _ i => if 0 ≤ i ∧ i < n then part? b c xs.toList (i.toNat * c) else none | _, _ => none
def indexStr (x i : Value) : Option Value := match x, i with | .string s, .int _ i => if 0 ≤ i then (s[i.toNat]?).map fun b => .int .u8 b.toNat else none | _, _ => none
def entsOf (x : Value) (g : Nat → Option SObj) : Option (List MapEntry) :=
  match x with
  | .map none => some []
  | .map (some r) => (match g r with | some (.map es _) => some es | _ => none)
  | _ => none
def lookupH (d : TypeDesc) (z x k : Value) (ok : Bool) (g : Nat → Option SObj) : Option Value :=
  match entsOf x g with
  | none => none
  | some es =>
    match Instr.findNow d k es 0 with
    | none => none
    | some (some (_, v)) => some (bif ok then .tuple #[v, .bool true] else v)
    | some none => some (bif ok then .tuple #[z, .bool false] else z)
def updH (d : TypeDesc) (x k v : Value) (σ : Store) : Option (Value × Store) :=
  match x with
  | .map (some r) =>
    match σ.get r with
    | some (.map es ck) =>
      match Instr.findNow d k es 0 with
      | none => none
      | some (some (i, _)) => some (junk, σ.put r (some (.map (es.modify i fun e => { e with key := k, val := v }) ck)))
      | some none => some (junk, σ.put r (some (.map (es ++ [{ key := k, val := v, born := ck }]) (ck + 1))))
    | _ => none
  | _ => none
/-- Keys of many cells, held against each other. -/
def eqE (D : EqD) (a b : Value) : Option Bool := match a, b with | .agg xs, .agg ys => eqD D xs.toList ys.toList | _, _ => none
def findE (D : EqD) (k : Value) : List MapEntry → Nat → Option (Option (Nat × Value))
  | [], _ => some none
  | e :: es, i =>
    match eqE D k e.key with
    | some true => some (some (i, e.val))
    | some false => findE D k es (i + 1)
    | none => none
def lookupE (D : EqD) (z x k : Value) (ok : Bool) (g : Nat → Option SObj) : Option Value :=
  match x with
  | .map (some r) =>
    match g r with
    | some (.map es _) =>
      bif (eqE D k k).isSome then
        match findE D k es 0 with
        | none => none
        | some (some (_, v)) => some (bif ok then .tuple #[v, .bool true] else v)
        | some none => some (bif ok then .tuple #[z, .bool false] else z)
      else none
    | _ => none
  | _ => none
def updE (D : EqD) (x k v : Value) (σ : Store) : Option (Value × Store) :=
  match x with
  | .map (some r) =>
    match σ.get r with
    | some (.map es ck) =>
      bif (eqE D k k).isSome then
        match findE D k es 0 with
        | some none => some (junk, σ.put r (some (.map (es ++ [{ key := k, val := v, born := ck }]) (ck + 1))))
        | _ => none
      else none
    | _ => none
  | _ => none
/-- How keys of a type are held against each other, if they are structs of numbers. -/
def deepD (P : Program) (t : TypeId) : Option EqD := bif deepT P t then desc P eqFuel t else none
def entryH (d : TypeDesc) (z x k : Value) (σ : Store) : Option (Value × Store) :=
  match x with
  | .map (some r) =>
    match σ.get r with
    | some (.map es ck) =>
      match Instr.findNow d k es 0 with
      | none => none
      | some (some (i, v)) => some (.tuple #[v, .int .i64 ((es[i]?.map (·.born)).getD 0 : Nat)], σ.put r (some (.map (es.modify i fun e => { e with key := k }) ck)))
      | some none => some (.tuple #[z, .int .i64 (ck : Nat)], σ.put r (some (.map (es ++ [{ key := k, val := z, born := ck }]) (ck + 1))))
    | _ => none
  | _ => none
def delH (d : TypeDesc) (x k : Value) (σ : Store) : Option (Value × Store) :=
  match x with
  | .map none => some (junk, σ)
  | .map (some r) =>
    match σ.get r with
    | some (.map es ck) =>
      match Instr.findNow d k es 0 with
      | none => none
      | some (some (i, _)) => some (junk, σ.put r (some (.map (es.eraseIdx i) ck)))
      | some none => some (junk, σ.put r (some (.map es ck)))
    | _ => none
  | _ => none
def extractV (x : Value) (i : Nat) : Option Value := match x with | .tuple vs => vs[i]? | _ => none
def lenStr (x : Value) : Option Value := match x with | .string s => some (.int .i64 (s.size : Nat)) | _ => none
def lenSl (x : Value) : Option Value := match x with | .slice _ n _ => some (.int .i64 (n : Nat)) | .func (.method _) _ _ => some (.int .i64 ((0 : Nat) : Int)) | _ => none
def lenMap (x : Value) (g : Nat → Option SObj) : Option Value :=
  match x with
  | .map (some r) => (match g r with | some (.map es _) => some (.int .i64 (es.length : Nat)) | _ => none)
  | _ => none
def callD (P : Program) (f : Value) (args : List Value) : Option (FuncId × List Value) :=
  match f with
  | .func (.func g) first captured => bif callable P g then some (g, first.toList ++ args ++ captured.toList) else none
  | _ => none
def cutZ (ns : List Nat) (z : List Value) : List (List Value) := (cutL ns z).map rle
theorem cutZ_eq (ns : List Nat) (z : List Value) : cutZ ns z = cutL ns z := by
  unfold cutZ
  rw [show (rle : List Value → List Value) = id from funext rle_eq]
  simp
def aggOf (x : Option (List (List Value))) : Option Value := x.map fun fs => .agg fs.flatten.toArray
def sliceOf (n : Nat) (x : Option (List (List Value))) : Option (SObj × (Nat → Value)) := match x with | some fs => some (.cells fs.flatten none, fun i => .slice (some ⟨i, 0, none⟩) n n) | none => none
def buildH (P : Program) (t : TypeId) (parts : List (Nat × Value)) : ActH :=
  match P.underlying t, tZeros P t with
  | some (.struct fields), some z =>
    match fieldSizes P fields.toList with
    | none => .fail
    | some ns => .val (aggOf (buildL (cutZ ns z) parts))
  | some (.array n elem), some _ =>
    match tZeros P elem with
    | none => .fail
    | some ze => .val (aggOf (buildL (List.replicate n (rle ze)) parts))
  | _, _ => .fail
def builtinH (P : Program) (b : Builtin) (ts : List TypeId) (args : List Value) : ActH :=
  match b, ts, args with
  | .append, [t, t1], [s, x] =>
    match P.underlying t, (match P.underlying t1 with | some (.slice _) => true | some .string => true | _ => false) with
    | some (.slice e), true =>
      (match tSize P e, tBytes P e, tZeros P e with
      | some (sz + 1), some by_, some ze => bif ze.length == sz + 1 then .eff (appendV (sz + 1) by_ s x) else .fail
      | _, _, _ => .fail)
    | _, _ => .fail
  | .len, [t], [x] =>
    match P.underlying t with
    | some .string => .val (lenStr x)
    | some (.array n _) => .mv (.int .i64 (n : Nat))
    | some (.slice _) => .val (lenSl x)
    | some (.map _ _) => .rd (lenMap x)
    | _ => .fail
  | .copy, [t, _], [d, x] =>
    match P.underlying t with
    | some (.slice e) => (match tSize P e with | some sz => .eff (copyV sz d x) | none => .fail)
    | _ => .fail
  | .clear, [t], [x] => (match P.underlying t with | some (.map _ _) => .eff (clearV x) | _ => .fail)
  | .delete, [t, _], [m, k] => (match P.underlying t with | some (.map kt _) => (match keyDesc P kt with | some d => .eff (delH d m k) | none => .fail) | _ => .fail)
  | .delete, [t], [m, k] => (match P.underlying t with | some (.map kt _) => (match keyDesc P kt with | some d => .eff (delH d m k) | none => .fail) | _ => .fail)
  | .max, _, args => .val (minMaxV true args)
  | .min, _, args => .val (minMaxV false args)
  | _, _, _ => .fail
def rangeH (x : Value) (σ : Store) : Option (Value × Store) :=
  match x with
  | .map none => some (ptrTo σ.next, σ.push (.iter none 0 [] 0))
  | .map (some i) => (match σ.get i with | some (.map _ ck) => some (ptrTo σ.next, σ.push (.iter (some i) ck [] ck)) | _ => none)
  | _ => none
def actH (P : Program) (o : Oper) (e : Operand → Value) : ActH :=
  match o.op with
  | .move x => .mv (e x)
  | .assign x => .mv (e x)
  | .pick c a b => .val (pickV (e c) (e a) (e b))
  | .alloc t => (match tZeros P t with | some z => .new (some (.cells (rle z) none, ptrTo)) | none => .fail)
  | .box _ x => .new (boxN (e x))
  | .build t parts => buildH P t (parts.toList.map fun (i, x) => (i, e x))
  | .buildSlice t n parts =>
    (match P.underlying t with
    | some (.slice el) =>
      (match tZeros P el with
      | some ze => bif Nat.ble (n * ze.length) 16777216 then .new (sliceOf n (buildL (List.replicate n (rle ze)) (parts.toList.map fun (i, x) => (i, e x)))) else .fail
      | none => .fail)
    | _ => .fail)
  | .load t a => (match tAgg P t, tSize P t with | some b, some n => .rd (loadV b n (e a)) | _, _ => .fail)
  | .store t a v => (match tSize P t with | some n => .eff (storeV n (e a) (e v)) | none => .fail)
  | .nilCheck x => .val (nilV (e x))
  | .binOp op t x y _ => binH P (isNilC x || isNilC y) op t (e x) (e y)
  | .unOp op _ x => .val (unV op (e x))
  | .convert src dst x =>
    (match P.underlying src, P.underlying dst with
    | some (.int _), some (.int k) => .val (convI k (e x))
    | some .string, some .string => .val (convS (e x))
    | some .string, some (.slice el) => (match P.underlying el with | some (.int .u8) => .new (convB (e x)) | _ => .fail)
    | some (.slice _), some (.slice el) => (match P.underlying el with | some (.int .u8) => bif Nat.beq src dst then .eff (handV (e x)) else .fail | _ => .fail)
    | _, _ => .fail)
  | .sliceToArrayPointer t x => (match P.underlying t with | some (.array n _) => .val (s2a n (e x)) | _ => .fail)
  | .makeFunc (.func f) first captured => .mv (.func (.func f) (first.map e) (captured.map e))
  | .makeInterface t x => (match P.underlying t with | some (.slice _) => .mv (.iface t (e x)) | _ => .fail)
  | .makeMap _ none => .new (some (.map [] 0, fun i => .map (some i)))
  | .makeSlice t l c =>
    (match P.underlying t with
    | some (.slice el) => (match tZeros P el, tBytes P el with | some ze, some by_ => .new (makeS (rle ze) by_ (e l) (e c)) | _, _ => .fail)
    | _ => .fail)
  | .slice t x lo hi none =>
    (match P.underlying t with
    | some (.array n el) => (match tSize P el with | some c => .val (sliceAr n c (e x) (lo.map e) (hi.map e)) | none => .fail)
    | some (.slice el) => (match tSize P el with | some c => .val (sliceSl c (e x) (lo.map e) (hi.map e)) | none => .fail)
    | some .string => .val (sliceStr (e x) (lo.map e) (hi.map e))
    | _ => .fail)
  | .fieldAddr t x f =>
    (match P.underlying t with
    | some (.struct fs) => (match fs[f]? with | some fl => (match tSize P fl.type with | some (_ + 1) => .val (faddr fl.offset (e x)) | _ => .fail) | none => .fail)
    | _ => .fail)
  | .field t x f =>
    (match P.underlying t with
    | some (.struct fs) => (match fs[f]? with | some fl => (match tAgg P fl.type, tSize P fl.type with | some b, some n => .val (fpart b n fl.offset (e x)) | _, _ => .fail) | none => .fail)
    | _ => .fail)
  | .indexAddr t x i =>
    (match P.underlying t with
    | some (.array n el) => (match tSize P el with | some c => .val (iaddrA n c (e x) (e i)) | none => .fail)
    | some (.slice el) => (match tSize P el with | some c => .val (iaddrS c (e x) (e i)) | none => .fail)
    | _ => .fail)
  | .index t x i =>
    (match P.underlying t with
    | some (.array n el) => (match tAgg P el, tSize P el with | some b, some c => .val (indexA b c n (e x) (e i)) | _, _ => .fail)
    | some .string => .val (indexStr (e x) (e i))
    | _ => .fail)
  | .lookup t x k ok => (match P.underlying t with | some (.map kt et) => (match keyDesc P kt, tZero P et with | some d, some z => .rd (lookupH d (rleV z) (e x) (e k) ok) | none, some z => (match deepD P kt with | some D => .rd (lookupE D (rleV z) (e x) (e k) ok) | none => .fail) | _, _ => .fail) | _ => .fail)
  | .mapUpdate t m k v => (match P.underlying t with | some (.map kt _) => (match keyDesc P kt with | some d => .eff (updH d (e m) (e k) (e v)) | none => (match deepD P kt with | some D => .eff (updE D (e m) (e k) (e v)) | none => .fail)) | _ => .fail)
  | .mapEntry t m k => (match P.underlying t with | some (.map kt et) => (match keyDesc P kt, tZero P et with | some d, some z => .eff (entryH d (rleV z) (e m) (e k)) | _, _ => .fail) | _ => .fail)
  | .entryStore _ m s v => .eff (entryStoreV (e m) (e s) (e v))
  | .range t x => (match P.underlying t with | some (.map _ _) => .eff (rangeH (e x)) | _ => .fail)
  | .entry x => .rd (entryL (e x))
  | .next x false => .pick (nextL (e x))
  | .extract x i => .val (extractV (e x) i)
  | .call c =>
    (match c.callee with
    | .builtin b => builtinH P b c.argTypes.toList (c.args.toList.map e)
    | .value f => .call (callD P (e f) (c.args.toList.map e))
    | .invoke _ _ => .fail)
  | _ => .fail

theorem ofVal_val {x : Option Value} {v : Value} (h : x = some v) : ofVal x = some (.val v) := by rw [h]; rfl
theorem eqH_fits {nc neg : Bool} {t : TypeId} {x y : Value} : Fits (eqH P nc neg t x y) (binA P (bif neg then .neq else .eql) t x y) := by
  unfold eqH
  cases hu : P.underlying t with
  | none => trivial
  | some d =>
    cases d with
    | bool =>
      intro v hv
      unfold eqB at hv
      split at hv
      · cases hv
        refine eqV_fits (by simp) (by simp) (by simp) ?_ neg
        simp [eqV, hu, eq1]
      · cases hv
    | slice e =>
      intro v hv
      unfold eqSl at hv
      split at hv <;> cases hv
      all_goals (refine eqV_fits (by simp) (by simp) (by simp) ?_ neg; simp [eqV, hu, eq1])
    | map k e =>
      intro v hv
      unfold eqMp at hv
      split at hv <;> cases hv
      all_goals (refine eqV_fits (by simp) (by simp) (by simp) ?_ neg; simp [eqV, hu, eq1])
    | func a b c =>
      intro v hv
      unfold eqFn at hv
      split at hv <;> cases hv
      all_goals (refine eqV_fits (by simp) (by simp) (by simp) ?_ neg; simp [eqV, hu, eq1])
    | pointer el =>
      cases nc with
      | true =>
        intro v hv
        unfold eqPn at hv
        split at hv
        · cases hv
          refine eqV_fits (by simp) (by simp) (by simp) ?_ neg
          simp [eqV, hu, eq1]
        · cases hv
          refine eqV_fits (by simp) (by simp) (by simp) ?_ neg
          simp [eqV, hu, eq1]
        · cases hv
      | false =>
      simp only [cond_false]
      split
      · rename_i n hn
        by_cases hp : ∃ a c, x = .pointer (some a) ∧ y = .pointer (some c)
        · obtain ⟨a, c, rfl, rfl⟩ := hp
          cases neg
          · refine .inl ⟨fun g => (eqP a c g).map .bool, by simp [binA, hu, hn], fun g v h => ?_⟩
            simp only [eqPt] at h
            cases hq : eqP a c g with
            | none => rw [hq] at h; cases h
            | some r => rw [hq] at h; show (eqP a c g).map _ = _; rw [hq]; simpa using h
          · refine .inl ⟨fun g => (eqP a c g).map fun r => .bool !r, by simp [binA, hu, hn], fun g v h => ?_⟩
            simp only [eqPt] at h
            cases hq : eqP a c g with
            | none => rw [hq] at h; cases h
            | some r => rw [hq] at h; show (eqP a c g).map _ = _; rw [hq]; simpa using h
        · refine .inr fun g => ?_
          unfold eqPt
          split
          · exact absurd ⟨_, _, rfl, rfl⟩ hp
          · rfl
      · trivial
    | struct fs =>
      simp only
      split
      · rename_i d hd
        intro v hv
        unfold eqA at hv
        split at hv
        · rename_i xs ys
          cases hb : eqD d xs.toList ys.toList with
          | none => rw [hb] at hv; cases hv
          | some b =>
            rw [hb] at hv; cases hv
            refine eqV_fits (by simp) (by simp) (by simp) ?_ neg
            simp [eqV, hu, desc_eq hd, hb]
        · cases hv
      · trivial
    | array n e =>
      simp only
      split
      · rename_i d hd
        intro v hv
        unfold eqA at hv
        split at hv
        · rename_i xs ys
          cases hb : eqD d xs.toList ys.toList with
          | none => rw [hb] at hv; cases hv
          | some b =>
            rw [hb] at hv; cases hv
            refine eqV_fits (by simp) (by simp) (by simp) ?_ neg
            simp [eqV, hu, desc_eq hd, hb]
        · cases hv
      · trivial
    | _ => trivial
theorem binH_fits {nc : Bool} {op : BinOp} {t : TypeId} {x y : Value} : Fits (binH P nc op t x y) (binA P op t x y) := by
  have key : op ≠ .shl → op ≠ .shr → Fits (match P.underlying t with
    | some (.int _) => .val (binI op x y)
    | some .string => .val (binS op x y)
    | _ =>
      match op with
      | .eql => eqH P nc false t x y
      | .neq => eqH P nc true t x y
      | _ => .fail) (binA P op t x y) := fun h1 h2 => by
    split
    · exact fun v hv => binI_fits h1 h2 hv
    · exact fun v hv => binS_fits hv
    · cases op <;> first | trivial | exact eqH_fits (neg := false) | exact eqH_fits (neg := true)
  cases op <;> first | exact key (by simp) (by simp) | skip
  all_goals
    intro v hv
    unfold shiftV at hv
    split at hv
    · unfold binA
      simp only [hv]; rfl
    · cases hv
theorem buildH_fits {t : TypeId} {parts : List (Nat × Value)} : Fits (buildH P t parts) (ofVal (buildAgg P t parts)) := by
  unfold buildH buildAgg
  split
  · rename_i fs z h1 h2
    split
    · trivial
    · rename_i ns hn
      intro v hv
      rw [cutZ_eq] at hv
      refine ofVal_val ?_
      rw [h1, h2]; simp only [hn]
      exact hv
  · rename_i n el z h1 h2
    split
    · trivial
    · rename_i ze hz
      intro v hv
      rw [rle_eq] at hv
      refine ofVal_val ?_
      rw [h1, h2]; simp only [hz]
      exact hv
  · trivial
end Go.Am
end
section
/- The abstract machine, part 26: resolved operations are the machine's. No program in sight. -/
set_option linter.all false
namespace Go.Am
open Go.RowKit
variable {P : Program}

theorem delH_fits {t kt et : TypeId} {d : TypeDesc} {x k : Value} (hu : P.underlying t = some (.map kt et)) (hd : keyDesc P kt = some d) (f : Store → Option (Value × Store)) (hf : f = fun σ => deleteV P t x k σ) : Fits (.eff (delH d x k)) (some (.eff f)) := by
  refine .inl ⟨f, rfl, fun σ r h => ?_⟩
  subst hf
  unfold delH at h
  unfold deleteV
  rw [hu]
  split at h
  · simp only [hd]; exact h
  · split at h
    · rename_i hs
      simp only [hd, hs]
      split at h
      · cases h
      · rename_i hn; simp only [hn]; exact h
      · rename_i hn; simp only [hn]; exact h
    · cases h
  · cases h
theorem builtinH_fits {b : Builtin} {ts : List TypeId} {args : List Value} : Fits (builtinH P b ts args) (builtinA P b ts args) := by
  unfold builtinH builtinA
  split
  · rename_i t t1 s x
    split
    · rename_i e h1 h2
      have key : Fits (match tSize P e, tBytes P e, tZeros P e with
          | some (sz + 1), some by_, some ze => bif ze.length == sz + 1 then .eff (appendV (sz + 1) by_ s x) else .fail
          | _, _, _ => .fail) (match tSize P e, tBytes P e, tZeros P e with
          | some (sz + 1), some by_, some ze => bif ze.length == sz + 1 then some (.eff fun σ => appendV (sz + 1) by_ s x σ) else none
          | _, _, _ => none) := by
        split
        · rename_i sz by_ ze h3 h4 h5
          cases hb : (ze.length == sz + 1) with
          | true => exact Fits.eff_same _
          | false => trivial
        · trivial
      dsimp only
      rw [h1]
      cases hu1 : P.underlying t1 with
      | none => rw [hu1] at h2; cases h2
      | some d1 =>
        rw [hu1] at h2
        cases d1 with
        | slice e1 => exact key
        | string => exact key
        | _ => cases h2
    · trivial
  · rename_i t x
    cases hu : P.underlying t with
    | none => trivial
    | some d =>
      cases d with
      | string =>
        intro v hv
        unfold lenStr at hv
        split at hv <;> cases hv
        simp only [hu]
      | array n e => simp only [hu]; exact rfl
      | slice e =>
        intro v hv
        unfold lenSl at hv
        split at hv <;> cases hv
        all_goals simp only [hu]
      | map k e =>
        simp only [hu]
        by_cases h : ∃ g v, lenMap x g = some v
        · obtain ⟨g, v, hg⟩ := h
          unfold lenMap at hg
          split at hg
          · exact .inl ⟨_, rfl, fun g v h => h⟩
          · cases hg
        · refine .inr fun g => ?_
          cases hg : lenMap x g with
          | none => rfl
          | some v => exact absurd ⟨g, v, hg⟩ h
      | _ => trivial
  · rename_i t _ d x
    split
    · rename_i e h1
      try simp only [h1]
      split
      · rename_i sz h2
        try simp only [h2]
        exact Fits.eff_same _
      · trivial
    · trivial
  · rename_i t x
    split
    · rename_i k e h1
      try simp only [h1]
      exact Fits.eff_same _
    · trivial
  · rename_i t _ m k
    split
    · rename_i kt et h1
      split
      · rename_i d h2
        exact delH_fits h1 h2 _ rfl
      · trivial
    · trivial
  · rename_i t m k
    split
    · rename_i kt et h1
      split
      · rename_i d h2
        exact delH_fits h1 h2 _ rfl
      · trivial
    · trivial
  · rename_i args
    intro v hv
    exact ofVal_val hv
  · rename_i args
    intro v hv
    exact ofVal_val hv
  · trivial
theorem lookupH_fits {t kt et : TypeId} {d : TypeDesc} {z x k : Value} {ok : Bool} (hu : P.underlying t = some (.map kt et)) (hd : keyDesc P kt = some d) (hz : tZero P et = some z) : Fits (.rd (lookupH d (rleV z) x k ok)) (some (.rd fun g => lookupV P t x k ok g)) := by
  refine .inl ⟨_, rfl, fun g v h => ?_⟩
  rw [rleV_eq] at h
  unfold lookupH entsOf at h
  have h0 : lookupV0 P t x k ok g = some v := by
    unfold lookupV0
    simp only [hu, hd, hz]
    exact h
  unfold lookupV
  rw [h0]
theorem updH_fits {t kt et : TypeId} {d : TypeDesc} {x k u : Value} (hu : P.underlying t = some (.map kt et)) (hd : keyDesc P kt = some d) : Fits (.eff (updH d x k u)) (some (.eff fun σ => mapUpdateV P t x k u σ)) := by
  refine .inl ⟨_, rfl, fun σ v h => ?_⟩
  have h0 : mapUpdateV0 P t x k u σ = some v := by
    unfold updH at h
    unfold mapUpdateV0
    split at h
    · split at h
      · rename_i hs
        simp only [hu, hd, hs]
        exact h
      · cases h
    · cases h
  unfold mapUpdateV
  rw [h0]
theorem deepD_eq {t : TypeId} {D : EqD} (h : deepD P t = some D) : deepT P t = true ∧ ∀ a b, eqV P t a b = eqE D a b := by
  unfold deepD at h
  cases hd : deepT P t <;> rw [hd] at h <;> simp only [cond_true, cond_false] at h
  · cases h
  refine ⟨rfl, fun a b => ?_⟩
  obtain ⟨fs, hu, _⟩ := deep_struct hd
  cases a <;> cases b <;> simp [eqV, hu, eqE, eq1, desc_eq h]
theorem findE_eq {t : TypeId} {D : EqD} (h : ∀ a b, eqV P t a b = eqE D a b) (k : Value) : ∀ (es : List MapEntry) (i : Nat), findDeep P t k es i = findE D k es i
  | [], _ => rfl
  | e :: es, i => by
    unfold findDeep findE
    rw [h k e.key, findE_eq h k es (i + 1)]
    cases eqE D k e.key with
    | none => rfl
    | some b => cases b <;> rfl
theorem lookupE_fits {t kt et : TypeId} {D : EqD} {z x k : Value} {ok : Bool} (hu : P.underlying t = some (.map kt et)) (hk : keyDesc P kt = none) (hd : deepD P kt = some D) (hz : tZero P et = some z) : Fits (.rd (lookupE D (rleV z) x k ok)) (some (.rd fun g => lookupV P t x k ok g)) := by
  refine .inl ⟨_, rfl, fun g v h => ?_⟩
  rw [rleV_eq] at h
  obtain ⟨h1, h2⟩ := deepD_eq hd
  have h0 : lookupV0 P t x k ok g = none := by unfold lookupV0; simp only [hu, hk]
  unfold lookupV
  rw [h0]
  unfold lookupE at h
  unfold lookupD
  split at h
  · split at h
    · rename_i hg
      simp only [hu, hz, hg, h1, h2, findE_eq h2, Bool.true_and]
      exact h
    · cases h
  · cases h
theorem updE_fits {t kt et : TypeId} {D : EqD} {x k u : Value} (hu : P.underlying t = some (.map kt et)) (hk : keyDesc P kt = none) (hd : deepD P kt = some D) : Fits (.eff (updE D x k u)) (some (.eff fun σ => mapUpdateV P t x k u σ)) := by
  refine .inl ⟨_, rfl, fun σ v h => ?_⟩
  obtain ⟨h1, h2⟩ := deepD_eq hd
  unfold updE at h
  split at h
  · rename_i r
    split at h
    · rename_i es ck hg
      have h0 : mapUpdateV0 P t (.map (some r)) k u σ = none := by unfold mapUpdateV0; simp only [hu, hk]
      unfold mapUpdateV
      rw [h0]
      unfold mapUpdateD
      simp only [hu, hg, h1, h2, findE_eq h2, Bool.true_and]
      exact h
    · cases h
  · cases h
theorem entryH_fits {t kt et : TypeId} {d : TypeDesc} {z x k : Value} (hu : P.underlying t = some (.map kt et)) (hd : keyDesc P kt = some d) (hz : tZero P et = some z) : Fits (.eff (entryH d (rleV z) x k)) (some (.eff fun σ => mapEntryV P t x k σ)) := by
  refine .inl ⟨_, rfl, fun σ v h => ?_⟩
  rw [rleV_eq] at h
  unfold entryH at h
  unfold mapEntryV
  split at h
  · split at h
    · rename_i hs
      simp only [hu, hd, hz, hs]
      exact h
    · cases h
  · cases h
theorem actH_fits {o : Oper} {e : Operand → Value} : Fits (actH P o e) (action P o e) := by
  unfold actH action
  cases o.op with
  | move x => rfl
  | assign x => rfl
  | pick c a b =>
    intro v hv
    unfold pickV at hv
    split at hv <;> cases hv
    rename_i t ht
    simp [ht]
  | alloc t =>
    simp only
    cases tZeros P t with
    | none => trivial
    | some z => intro o mk h; rw [rle_eq] at h; cases h; rfl
  | box _ x =>
    intro o mk h
    unfold boxN at h
    split at h
    · rename_i cs hc
      cases h
      simp [hc]
    · cases h
  | build t parts => exact buildH_fits
  | buildSlice t n parts =>
    simp only
    split
    · rename_i el h1
      split
      · rename_i ze h2
        cases hb : Nat.ble (n * ze.length) 16777216 with
        | false => trivial
        | true =>
          intro o mk h
          rw [rle_eq] at h
          unfold sliceOf at h
          split at h
          · rename_i fs hf
            cases h
            simp only [h1, h2, hf, hb, cond_true]
          · cases h
      · trivial
    · trivial
  | load t a =>
    simp only
    split
    · rename_i h1 h2; simp only [h1, h2]; exact Fits.rd_same _
    · trivial
  | store t a v =>
    simp only
    split
    · rename_i h1; simp only [h1]; exact Fits.eff_same _
    · trivial
  | nilCheck x =>
    intro v hv
    unfold nilV at hv
    split at hv
    · rename_i h; cases hv; simp [h]
    · rename_i h; cases hv; simp [h]
    · cases hv
  | binOp op t x y _ => exact binH_fits
  | unOp op _ x => exact fun v hv => ofVal_val hv
  | convert src dst x =>
    simp only
    split
    · rename_i h1 h2
      intro v hv
      unfold convI at hv
      split at hv
      · rename_i h3; cases hv; simp [h1, h2, h3]
      · cases hv
    · rename_i h1 h2
      intro v hv
      unfold convS at hv
      split at hv
      · rename_i h3; cases hv; simp [h1, h2, h3]
      · cases hv
    · rename_i el h1 h2
      split
      · rename_i h4
        intro o mk h
        unfold convB at h
        split at h
        · rename_i h3; cases h; simp [h1, h2, h3, h4]
        · cases h
      · trivial
    · rename_i el0 el h1 h2
      split
      · rename_i h4
        cases hb : Nat.beq src dst with
        | false => trivial
        | true =>
          refine .inl ⟨fun σ => handV (e x) σ, ?_, fun _ _ h => h⟩
          simp [h1, h2, h4, hb]
      · trivial
    · trivial
  | sliceToArrayPointer t x =>
    simp only
    split
    · rename_i n el h1
      intro v hv
      unfold s2a at hv
      split at hv
      · rename_i i o s len c h3
        cases hb : Nat.ble n len with
        | false => rw [hb] at hv; cases hv
        | true => rw [hb] at hv; cases hv; simp [h1, h3, hb]
      · cases hv
    · trivial
  | makeFunc f first captured =>
    cases f with
    | func f => rfl
    | _ => trivial
  | makeInterface t x =>
    simp only
    split
    · rename_i h1; simp only [h1]; rfl
    · trivial
  | makeMap t r =>
    cases r with
    | none => intro o mk h; cases h; rfl
    | some x => trivial
  | makeSlice t l c =>
    simp only
    split
    · rename_i el h1
      split
      · rename_i ze by_ h2 h3
        intro o mk h
        rw [rle_eq] at h
        unfold makeS at h
        split at h
        · rename_i h4 h5
          simp only [h1, h2, h3, h4, h5]
          split at h
          · rename_i hc; cases h; rw [if_pos hc]
          · cases h
        · cases h
      · trivial
    · trivial
  | slice t x lo hi mx =>
    cases mx with
    | some m => trivial
    | none =>
      simp only
      split
      · rename_i n el h1
        split
        · rename_i c h2
          intro v hv
          refine ofVal_val ?_
          unfold sliceAr at hv
          unfold sliceV
          split at hv
          · rename_i b o h3
            simp only [Option.map_none, h1, h2, h3]
            split at hv
            · rename_i h h4
              simp only [h4]
              exact hv
            · cases hv
          · cases hv
        · trivial
      · rename_i el h1
        split
        · rename_i c h2
          intro v hv
          refine ofVal_val ?_
          unfold sliceSl at hv
          unfold sliceV
          split at hv
          · rename_i b o s n k h3
            simp only [Option.map_none, h1, h2, h3]
            split at hv
            · rename_i h h4
              simp only [h4]
              exact hv
            · cases hv
          · rename_i n k h3
            simp only [Option.map_none, h1, h2, h3]
            split at hv
            · rename_i h h4
              simp only [h4]
              exact hv
            · cases hv
          · cases hv
        · trivial
      · rename_i h1
        intro v hv
        refine ofVal_val ?_
        unfold sliceStr at hv
        unfold sliceV
        split at hv
        · rename_i s h3
          simp only [Option.map_none, h1, h3]
          exact hv
        · cases hv
      · trivial
  | fieldAddr t x f =>
    simp only
    split
    · rename_i fs h1
      split
      · rename_i fl h2
        split
        · rename_i n h3
          intro v hv
          refine ofVal_val ?_
          unfold faddr at hv
          unfold fieldAddrV
          split at hv
          · rename_i i o h4
            simp only [h1, h2, h3, h4]
            exact hv
          · cases hv
        · trivial
      · trivial
    · trivial
  | field t x f =>
    simp only
    split
    · rename_i fs h1
      split
      · rename_i fl h2
        split
        · rename_i b n h3 h4
          intro v hv
          refine ofVal_val ?_
          unfold fpart at hv
          unfold fieldV
          split at hv
          · rename_i xs h5
            simp only [h1, h2, h3, h4, h5]
            exact hv
          · cases hv
        · trivial
      · trivial
    · trivial
  | indexAddr t x i =>
    simp only
    split
    · rename_i n el h1
      split
      · rename_i c h2
        intro v hv
        refine ofVal_val ?_
        unfold iaddrA at hv
        unfold indexAddrV
        split at hv
        · rename_i h4 h5
          simp only [h1, h2, h4, h5]
          exact hv
        · cases hv
      · trivial
    · rename_i el h1
      split
      · rename_i c h2
        intro v hv
        refine ofVal_val ?_
        unfold iaddrS at hv
        unfold indexAddrV
        split at hv
        · rename_i h4 h5
          simp only [h1, h2, h4, h5]
          exact hv
        · cases hv
      · trivial
    · trivial
  | index t x i =>
    simp only
    split
    · rename_i n el h1
      split
      · rename_i b c h2 h3
        intro v hv
        refine ofVal_val ?_
        unfold indexA at hv
        unfold indexV
        split at hv
        · rename_i h4 h5
          simp only [h1, h2, h3, h4, h5]
          exact hv
        · cases hv
      · trivial
    · rename_i h1
      intro v hv
      refine ofVal_val ?_
      unfold indexStr at hv
      unfold indexV
      split at hv
      · rename_i h4 h5
        simp only [h1, h4, h5]
        exact hv
      · cases hv
    · trivial
  | lookup t x k ok =>
    simp only
    split
    · rename_i kt et h1
      split
      · rename_i d z h2 h3
        exact lookupH_fits h1 h2 h3
      · rename_i z h2 h3
        split
        · rename_i D h4
          exact lookupE_fits h1 h2 h4 h3
        · trivial
      · trivial
    · trivial
  | mapUpdate t m k v =>
    simp only
    split
    · rename_i kt et h1
      split
      · rename_i d h2
        exact updH_fits h1 h2
      · rename_i h2
        split
        · rename_i D h4
          exact updE_fits h1 h2 h4
        · trivial
    · trivial
  | mapEntry t m k =>
    simp only
    split
    · rename_i kt et h1
      split
      · rename_i d z h2 h3
        exact entryH_fits h1 h2 h3
      · trivial
    · trivial
  | entryStore _ m s v => exact Fits.eff_same _
  | range t x =>
    simp only
    split
    · rename_i kt et hu
      refine .inl ⟨_, rfl, fun σ r hr => ?_⟩
      unfold rangeH at hr
      unfold rangeV
      rw [hu]
      split at hr
      · rename_i hx; rw [hx]; exact hr
      · rename_i i hx; rw [hx]; exact hr
      · cases hr
    · trivial
  | entry x => exact Fits.rd_same _
  | next x b =>
    cases b with
    | true => trivial
    | false => rfl
  | extract x i =>
    intro v hv
    unfold extractV at hv
    split at hv
    · rename_i h; simp only [h]; exact ofVal_val hv
    · cases hv
  | call c =>
    simp only
    cases c.callee with
    | builtin b => exact builtinH_fits
    | value f =>
      intro g as h
      unfold callD at h
      split at h
      · rename_i g first captured h1
        simp only [h1]
        cases hb : callable P g with
        | false => rw [hb] at h; cases h
        | true => rw [hb] at h; cases h; rfl
      · cases h
    | invoke _ _ => trivial
  | _ => trivial
end Go.Am
end
section
/- The abstract machine, part 27: regions of resolved operations. No program in sight. -/
set_option linter.all false
namespace Go.Am
open Go.RowKit
variable {P : Program}

/-! ## how an operation goes on -/
def vop (x : Option Value) (σ : Store) (K : Value → Store → Prop) : Prop := match x with | some v => K v σ | none => False
def nop (x : Option (SObj × (Nat → Value))) (σ : Store) (K : Value → Store → Prop) : Prop := match x with | some (o, mk) => K (mk σ.next) (σ.push o) | none => False
def eop (x : Option (Value × Store)) (K : Value → Store → Prop) : Prop := match x with | some (v, s) => K v s | none => False
def cop (P : Program) (x : Option (FuncId × List Value)) (σ : Store) (K : Value → Store → Prop) : Prop := match x with | some (f, as) => Does P f as σ K | none => False
/-- One of several. -/
def pop (x : Option (List (Value × Store))) (K : Value → Store → Prop) : Prop := match x with | some l => ∀ v s, (v, s) ∈ l → K v s | none => False
def gv (v : Value) (want : Bool) : Option Bool := match v with | .bool b => some (b == want) | .chan (some _) => some false | _ => none
def gop (v : Value) (want : Bool) (σ : Store) (A : (Value → Store → Prop) → Prop) (K : Value → Store → Prop) : Prop :=
  (match gv v want with
  | some true => A
  | some false => fun K => K gone σ
  | none => fun _ => False) K
/-- What was read is read again. -/
def kop (x : Option Value) (v : Value) (p : Prop) : Prop := x = some v ∧ p
def doH (P : Program) (h : ActH) (σ : Store) (K : Value → Store → Prop) : Prop :=
  match h with
  | .fail => False
  | .mv v => K v σ
  | .val x => vop x σ K
  | .rd f => vop (f σ.get) σ K
  | .new x => nop x σ K
  | .eff f => eop (f σ) K
  | .call x => cop P x σ K
  | .pick f => pop (f σ) K
theorem doH_sound {h : ActH} {x : Option Action} {σ : Store} {K : Value → Store → Prop} (hf : Fits h x) (hh : doH P h σ K) : doAct (PI P) x σ K := by
  cases h with
  | fail => exact hh.elim
  | mv v => rw [show x = _ from hf]; exact hh
  | val y =>
    simp only [doH, vop] at hh
    split at hh
    · rw [hf _ rfl]; exact hh
    · exact hh.elim
  | rd f =>
    simp only [doH, vop] at hh
    split at hh
    · rename_i v hv
      rcases hf with ⟨f', rfl, h2⟩ | h2
      · simp only [doAct, h2 _ _ hv]; exact hh
      · rw [h2] at hv; cases hv
    · exact hh.elim
  | new y =>
    simp only [doH, nop] at hh
    split at hh
    · rw [hf _ _ rfl]; exact hh
    · exact hh.elim
  | eff f =>
    simp only [doH, eop] at hh
    split at hh
    · rename_i v s hv
      rcases hf with ⟨f', rfl, h2⟩ | h2
      · simp only [doAct, h2 _ _ hv]; exact hh
      · rw [h2] at hv; cases hv
    · exact hh.elim
  | call y =>
    simp only [doH, cop] at hh
    split at hh
    · rw [hf _ _ rfl]; exact hh
    · exact hh.elim
  | pick f =>
    rw [show x = _ from hf]
    simp only [doH, pop] at hh
    simp only [doAct]
    split at hh
    · rename_i l hl; rw [hl]; exact hh
    · exact hh.elim
theorem doH_mono {h : ActH} {σ : Store} {K K' : Value → Store → Prop} (hk : ∀ v s, K v s → K' v s) (hh : doH P h σ K) : doH P h σ K' := by
  cases h with
  | fail => exact hh
  | mv v => exact hk _ _ hh
  | val y => simp only [doH, vop] at hh ⊢; split at hh <;> first | exact hk _ _ hh | exact hh
  | rd f => simp only [doH, vop] at hh ⊢; split at hh <;> first | exact hk _ _ hh | exact hh
  | new y => simp only [doH, nop] at hh ⊢; split at hh <;> first | exact hk _ _ hh | exact hh
  | eff f => simp only [doH, eop] at hh ⊢; split at hh <;> first | exact hk _ _ hh | exact hh
  | call y => simp only [doH, cop] at hh ⊢; split at hh <;> first | exact Does.mono hh hk | exact hh
  | pick f => simp only [doH, pop] at hh ⊢; split at hh <;> first | exact (fun v s hm => hk _ _ (hh v s hm)) | exact hh
theorem doH_lin {h : ActH} {σ : Store} {K : Value → Store → Prop} (hp : ∀ f, h ≠ .pick f) (hh : doH P h σ K) : ∃ v σ', K v σ' ∧ doH P h σ fun v2 σ2 => v2 = v ∧ σ2 = σ' := by
  cases h with
  | fail => exact hh.elim
  | mv v => exact ⟨_, _, hh, rfl, rfl⟩
  | val y => simp only [doH, vop] at hh ⊢; split at hh <;> first | exact ⟨_, _, hh, rfl, rfl⟩ | exact hh.elim
  | rd f => simp only [doH, vop] at hh ⊢; split at hh <;> first | exact ⟨_, _, hh, rfl, rfl⟩ | exact hh.elim
  | new y => simp only [doH, nop] at hh ⊢; split at hh <;> first | exact ⟨_, _, hh, rfl, rfl⟩ | exact hh.elim
  | eff f => simp only [doH, eop] at hh ⊢; split at hh <;> first | exact ⟨_, _, hh, rfl, rfl⟩ | exact hh.elim
  | call y =>
    simp only [doH, cop] at hh ⊢
    split at hh
    · obtain ⟨r, σ', h1, h2⟩ := hh
      exact ⟨r, σ', h2, r, σ', h1, rfl, rfl⟩
    · exact hh.elim
  | pick f => exact absurd rfl (hp f)

/-! ## a region in the order of its text -/
def gslot (ops : Array Oper) (o : Oper) : Option (Option (Nat × Bool)) :=
  match o.guard with
  | none => some none
  | some (j, want) => match (ops[j]?).bind (·.dst) with | some t => some (some (t, want)) | none => none
theorem gop_eq {v : Value} {want : Bool} {σ : Store} {A : (Value → Store → Prop) → Prop} {K : Value → Store → Prop} : gop v want σ A K = match gv v want with
      | some true => A K
      | some false => K gone σ
      | none => False := by
  unfold gop
  cases gv v want with
  | none => rfl
  | some b => cases b <;> rfl
theorem gslot_none {ops : Array Oper} {a : List Value} {o : Oper} (h : gslot ops o = some none) : guardA ops a o = some true := by
  unfold gslot at h
  unfold guardA
  split at h
  · rename_i h0; rw [h0]
  · split at h <;> cases h
theorem gslot_some {ops : Array Oper} {a : List Value} {o : Oper} {t : Nat} {want : Bool} (h : gslot ops o = some (some (t, want))) : guardA ops a o = gv (aget a t) want := by
  unfold gslot at h
  unfold guardA
  split at h
  · cases h
  · rename_i j w h0
    rw [h0]
    simp only
    split at h
    · rename_i t' ht'
      simp only [Option.some.injEq, Prod.mk.injEq] at h
      obtain ⟨rfl, rfl⟩ := h
      rw [ht']
      rfl
    · cases h
/-- An operation, if it is wanted. -/
def oneE (P : Program) (ops : Array Oper) (e : Operand → Value) (g : Nat → Value) (o : Oper) (σ : Store) (K : Value → Store → Prop) : Prop :=
  match gslot ops o with
  | some none => doH P (actH P o e) σ K
  | some (some (t, want)) => gop (g t) want σ (fun K => doH P (actH P o e) σ K) K
  | none => False
def oneH (P : Program) (ops : Array Oper) (a : List Value) (o : Oper) (σ : Store) (K : Value → Store → Prop) : Prop := oneE P ops (aev a) (aget a) o σ K
theorem oneH_eq {ops : Array Oper} {a : List Value} {o : Oper} {σ : Store} {K : Value → Store → Prop} (h : oneH P ops a o σ K) : (guardA ops a o = some true ∧ doH P (actH P o (aev a)) σ K) ∨ (guardA ops a o = some false ∧ K gone σ) := by
  unfold oneH oneE at h
  split at h
  · rename_i hs; exact .inl ⟨gslot_none hs, h⟩
  · rename_i t want hs
    rw [gslot_some hs]
    rw [gop_eq] at h
    split at h
    · rename_i hv; exact .inl ⟨hv, h⟩
    · rename_i hv; exact .inr ⟨hv, h⟩
    · exact h.elim
  · exact h.elim
theorem oneH_true {ops : Array Oper} {a : List Value} {o : Oper} {σ : Store} {K K' : Value → Store → Prop} (h : oneH P ops a o σ K) (hg : guardA ops a o = some true) (h' : doH P (actH P o (aev a)) σ K') : oneH P ops a o σ K' := by
  unfold oneH oneE at h ⊢
  split at h
  · exact h'
  · rename_i hs
    rw [gslot_some hs] at hg
    rw [gop_eq, hg]
    exact h'
  · exact h.elim
theorem oneH_false {ops : Array Oper} {a : List Value} {o : Oper} {σ : Store} {K K' : Value → Store → Prop} (h : oneH P ops a o σ K) (hg : guardA ops a o = some false) (h' : K' gone σ) : oneH P ops a o σ K' := by
  unfold oneH oneE at h ⊢
  split at h
  · rename_i hs; rw [gslot_none hs] at hg; cases hg
  · rename_i hs
    rw [gslot_some hs] at hg
    rw [gop_eq, hg]
    exact h'
  · exact h.elim
theorem oneH_sound {ops : Array Oper} {a : List Value} {o : Oper} {σ : Store} {K : Value → Store → Prop} (h : oneH P ops a o σ K) : match guardA ops a o with
      | some true => doAct (PI P) (action P o (aev a)) σ K
      | some false => K gone σ
      | none => False := by
  rcases oneH_eq h with ⟨h1, h2⟩ | ⟨h1, h2⟩
  · rw [h1]; exact doH_sound actH_fits h2
  · rw [h1]; exact h2
theorem oneH_mono {ops : Array Oper} {a : List Value} {o : Oper} {σ : Store} {K K' : Value → Store → Prop} (hk : ∀ v s, K v s → K' v s) (h : oneH P ops a o σ K) : oneH P ops a o σ K' := by
  rcases oneH_eq h with ⟨h1, h2⟩ | ⟨h1, h2⟩
  · exact oneH_true h h1 (doH_mono hk h2)
  · exact oneH_false h h1 (hk _ _ h2)
theorem actH_nopick {o : Oper} {e : Operand → Value} (hp : isNext o.op = false) (f : Store → Option (List (Value × Store))) : actH P o e ≠ .pick f := fun h => by
  have h1 := actH_fits (P := P) (o := o) (e := e)
  rw [h] at h1
  rw [pick_next h1] at hp
  cases hp
theorem oneH_lin {ops : Array Oper} {a : List Value} {o : Oper} {σ : Store} {K : Value → Store → Prop} (hp : ∀ f, actH P o (aev a) ≠ .pick f) (h : oneH P ops a o σ K) : ∃ v σ', K v σ' ∧ oneH P ops a o σ fun v2 σ2 => v2 = v ∧ σ2 = σ' := by
  rcases oneH_eq h with ⟨h1, h2⟩ | ⟨h1, h2⟩
  · obtain ⟨v, σ', k1, k2⟩ := doH_lin hp h2
    exact ⟨v, σ', k1, oneH_true h h1 k2⟩
  · exact ⟨gone, σ, h2, oneH_false h h1 ⟨rfl, rfl⟩⟩
def seqH (P : Program) (ops : Array Oper) : List Oper → (List Value → Store → Prop) → List Value → Store → Prop
  | [], K, a, σ => K a σ
  | o :: rest, K, a, σ => oneH P ops a o σ fun v σ' => seqH P ops rest K (aput a o.dst v) σ'
theorem seqH_sound {ops : Array Oper} : ∀ {l : List Oper} {K : List Value → Store → Prop} {a : List Value} {σ : Store}, seqH P ops l K a σ → seqOps (PI P) P ops l K a σ
  | [], _, _, _, h => h
  | o :: rest, K, a, σ, h => by
    have h := oneH_sound (oneH_mono (fun v s hh => seqH_sound hh) h)
    unfold seqOps
    exact h
theorem seqH_mono {ops : Array Oper} : ∀ {l : List Oper} {K K' : List Value → Store → Prop} {a : List Value} {σ : Store}, (∀ a s, K a s → K' a s) → seqH P ops l K a σ → seqH P ops l K' a σ
  | [], _, _, _, _, hk, h => hk _ _ h
  | o :: rest, K, K', a, σ, hk, h => oneH_mono (fun v s hh => seqH_mono hk hh) h
theorem seqH_lin {ops : Array Oper} : ∀ {l : List Oper} {K : List Value → Store → Prop} {a : List Value} {σ : Store}, (∀ o ∈ l, isNext o.op = false) → seqH P ops l K a σ → ∃ a' σ', K a' σ' ∧ seqH P ops l (fun a2 σ2 => a2 = a' ∧ σ2 = σ') a σ
  | [], K, a, σ, _, h => ⟨a, σ, h, rfl, rfl⟩
  | o :: rest, K, a, σ, hp, h => by
    obtain ⟨v, σ1, h1, h2⟩ := oneH_lin (actH_nopick (hp o List.mem_cons_self)) h
    obtain ⟨a', σ', k1, k2⟩ := seqH_lin (fun o ho => hp o (List.mem_cons_of_mem _ ho)) h1
    refine ⟨a', σ', k1, oneH_mono (fun v2 s2 hh => ?_) h2⟩
    obtain ⟨rfl, rfl⟩ := hh
    exact k2

/-! ## a region that draws its order -/
abbrev Fl := List (Nat × ((Nat → Option SObj) → Option Value) × Value)
def checkAllH (f : (Nat → Option SObj) → Option Value) (v : Value) : List Store → Prop → Prop
  | [], r => r
  | s :: ss, r => kop (f s.get) v (checkAllH f v ss r)
def recheckH (k : Nat) (s : Store) : Fl → Prop → Prop
  | [], r => r
  | (hi, f, v) :: fl, r => bif Nat.ble k hi then kop (f s.get) v (recheckH k s fl r) else recheckH k s fl r
/-- What is read, if it is wanted. -/
def gsel (c : Value) (want : Bool) (f : (Nat → Option SObj) → Option Value) (g : Nat → Option SObj) : Option Value := match gv c want with | some true => f g | some false => some gone | none => none
def drawH (P : Program) (ops : Array Oper) (b : Array Nat) : List Nat → (List Value → Store → Prop) → List Value → List Store → Store → Fl → Prop
  | [], K, a, _, cur, _ => K a cur
  | i :: rest, K, a, past, cur, fl =>
    match ops[i]? with
    | none => False
    | some o =>
      bif isEff o.op then oneH P ops a o cur fun v s => recheckH past.length s fl (drawH P ops b rest K (aput a o.dst v) (past ++ [s]) s fl)
      else
        match actH P o (aev a) with
        | .rd f =>
          (fun (nofl : Bool) =>
            match gslot ops o with
            | some none => vop (f (past.getLastD cur).get) cur fun v _ => checkAllH f v ((past.drop (lowOf ops b i)).dropLast) (drawH P ops b rest K (aput a o.dst v) past cur (bif nofl then fl else (highOf ops b i, f, v) :: fl))
            | some (some (t, want)) => gop (aget a t) want cur (fun K => vop (f (past.getLastD cur).get) cur K) fun v _ => checkAllH (gsel (aget a t) want f) v ((past.drop (lowOf ops b i)).dropLast) (drawH P ops b rest K (aput a o.dst v) past cur (bif nofl then fl else (highOf ops b i, gsel (aget a t) want f, v) :: fl))
            | none => False) (Nat.blt (highOf ops b i + 1) past.length || Nat.beq (highOf ops b i + 1) past.length)
        | .eff _ => False
        | .call _ => False
        | .pick _ => False
        | .fail => False
        | _ => oneH P ops a o cur fun v s => drawH P ops b rest K (aput a o.dst v) past s fl
inductive FlLe : Fl → Fl → Prop
  | nil : FlLe [] []
  | skip (hi : Nat) (f : (Nat → Option SObj) → Option Value) (v : Value) (fl fl' : Fl) (hl : FlLe fl fl') : FlLe ((hi, f, v) :: fl) fl'
  | cons (hi : Nat) (f f' : (Nat → Option SObj) → Option Value) (v : Value) (fl fl' : Fl) (h : ∀ g v, f g = some v → f' g = some v) (hl : FlLe fl fl') : FlLe ((hi, f, v) :: fl) ((hi, f', v) :: fl')
theorem recheckH_sound {k : Nat} {s : Store} {r r' : Prop} {fl fl' : Fl} (hl : FlLe fl fl') (hr : r → r') (h : recheckH k s fl r) : recheck (PI P) k s fl' r' := by
  induction hl with
  | nil => exact hr h
  | skip hi f v fl fl' hl ih =>
    unfold recheckH at h
    cases hb : Nat.ble k hi with
    | true => rw [hb] at h; exact ih h.2
    | false => rw [hb] at h; exact ih h
  | cons hi f f' v fl fl' hff hl ih =>
    unfold recheckH at h
    unfold recheck
    cases hb : Nat.ble k hi with
    | true => rw [hb] at h; exact ⟨hff _ _ h.1, ih h.2⟩
    | false => rw [hb] at h; exact ih h
theorem checkAllH_sound {f f' : (Nat → Option SObj) → Option Value} {v : Value} (hff : ∀ g v, f g = some v → f' g = some v) : ∀ {ss : List Store} {r r' : Prop}, (r → r') → checkAllH f v ss r → checkAll (PI P) f' v ss r'
  | [], _, _, hr, h => hr h
  | s :: ss, r, r', hr, h => ⟨hff _ _ h.1, checkAllH_sound hff hr h.2⟩
theorem recheckH_mk {k : Nat} {s : Store} : ∀ {fl : Fl} {r r' : Prop}, recheckH k s fl r → (r → r') → recheckH k s fl r'
  | [], _, _, h, hr => hr h
  | (hi, f, v) :: fl, r, r', h, hr => by
    unfold recheckH at h ⊢
    cases hb : Nat.ble k hi <;> rw [hb] at h
    · exact recheckH_mk h hr
    · exact ⟨h.1, recheckH_mk h.2 hr⟩
theorem recheckH_out {k : Nat} {s : Store} : ∀ {fl : Fl} {r : Prop}, recheckH k s fl r → r
  | [], _, h => h
  | (hi, f, v) :: fl, r, h => by
    unfold recheckH at h
    cases hb : Nat.ble k hi <;> rw [hb] at h
    · exact recheckH_out h
    · exact recheckH_out h.2
theorem checkAllH_mk {f : (Nat → Option SObj) → Option Value} {v : Value} : ∀ {ss : List Store} {r r' : Prop}, checkAllH f v ss r → (r → r') → checkAllH f v ss r'
  | [], _, _, h, hr => hr h
  | s :: ss, r, r', h, hr => ⟨h.1, checkAllH_mk h.2 hr⟩
theorem checkAllH_out {f : (Nat → Option SObj) → Option Value} {v : Value} : ∀ {ss : List Store} {r : Prop}, checkAllH f v ss r → r
  | [], _, h => h
  | s :: ss, r, h => checkAllH_out h.2
theorem drawH_sound {ops : Array Oper} {b : Array Nat} : ∀ {l : List Nat} {K : List Value → Store → Prop} {a : List Value} {past : List Store} {cur : Store} {fl fl' : Fl}, FlLe fl fl' → drawH P ops b l K a past cur fl → drawOps (PI P) P ops b l K a past cur fl'
  | [], _, _, _, _, _, _, _, h => h
  | i :: rest, K, a, past, cur, fl, fl', hfl, h => by
    unfold drawH at h
    unfold drawOps
    cases ho : ops[i]? with
    | none => rw [ho] at h; exact h.elim
    | some o =>
      rw [ho] at h
      simp only at h ⊢
      cases he : isEff o.op with
      | true =>
        rw [he] at h
        simp only [cond_true] at h ⊢
        exact oneH_sound (oneH_mono (fun v s hh => recheckH_sound hfl (fun h => drawH_sound hfl h) hh) h)
      | false =>
        rw [he] at h
        simp only [cond_false] at h ⊢
        have hfit := actH_fits (P := P) (o := o) (e := aev a)
        have one : (∀ f, actH P o (aev a) ≠ .rd f) → (∀ f, actH P o (aev a) ≠ .eff f) → (∀ f, actH P o (aev a) ≠ .call f) → (∀ f, actH P o (aev a) ≠ .pick f) → oneH P ops a o cur (fun v s => drawH P ops b rest K (aput a o.dst v) past s fl) →
            (match guardA ops a o with
            | none => False
            | some false => drawOps (PI P) P ops b rest K (aput a o.dst gone) past cur fl'
            | some true =>
              match action P o (aev a) with
              | some (.val v) => drawOps (PI P) P ops b rest K (aput a o.dst v) past cur fl'
              | some (.new ob mk) => drawOps (PI P) P ops b rest K (aput a o.dst (mk cur.next)) past (cur.push ob) fl'
              | some (.rd f) =>
                match f (past.getLastD cur).get with
                | none => False
                | some v =>
                  checkAll (PI P) f v ((past.drop (lowOf ops b i)).dropLast)
                    (drawOps (PI P) P ops b rest K (aput a o.dst v) past cur (bif Nat.blt (highOf ops b i + 1) past.length || Nat.beq (highOf ops b i + 1) past.length then fl' else (highOf ops b i, f, v) :: fl'))
              | _ => False) := by
          intro n1 n2 n3 n5 h
          rcases oneH_eq h with ⟨h1, h2⟩ | ⟨h1, h2⟩
          · simp only [h1]
            cases hA : actH P o (aev a) with
            | rd f => exact absurd hA (n1 f)
            | eff f => exact absurd hA (n2 f)
            | call f => exact absurd hA (n3 f)
            | pick f => exact absurd hA (n5 f)
            | fail => rw [hA] at h2; exact h2.elim
            | mv v =>
              rw [hA] at h2 hfit
              rw [show action P o (aev a) = _ from hfit]
              exact drawH_sound hfl h2
            | val y =>
              rw [hA] at h2 hfit
              simp only [doH, vop] at h2
              split at h2
              · rw [hfit _ rfl]; exact drawH_sound hfl h2
              · exact h2.elim
            | new y =>
              rw [hA] at h2 hfit
              simp only [doH, nop] at h2
              split at h2
              · rw [hfit _ _ rfl]; exact drawH_sound hfl h2
              · exact h2.elim
          · simp only [h1]
            exact drawH_sound hfl h2
        cases hA : actH P o (aev a) with
        | rd f =>
          rw [hA] at h hfit
          simp only at h
          split at h
          · rename_i hgs
            simp only [vop] at h
            split at h
            · rename_i v hv
              rcases hfit with ⟨f', hx, hff⟩ | hno
              · simp only [gslot_none hgs, hx, hff _ _ hv]
                refine checkAllH_sound hff (fun hh => drawH_sound ?_ hh) h
                cases hb : (Nat.blt (highOf ops b i + 1) past.length || Nat.beq (highOf ops b i + 1) past.length) with
                | true => exact hfl
                | false => exact .cons _ _ _ _ _ _ hff hfl
              · rw [hno] at hv; cases hv
            · exact h.elim
          · rename_i t want hgs
            rw [gslot_some hgs]
            rw [gop_eq] at h
            cases hgv : gv (aget a t) want with
            | none => rw [hgv] at h; exact h.elim
            | some c =>
              rw [hgv] at h
              cases c with
              | true =>
                simp only [vop] at h
                split at h
                · rename_i v hv
                  rcases hfit with ⟨f', hx, hff⟩ | hno
                  · have hff' : ∀ g v, gsel (aget a t) want f g = some v → f' g = some v := fun g v hh => by
                      unfold gsel at hh
                      rw [hgv] at hh
                      exact hff _ _ hh
                    simp only [hx, hff _ _ hv]
                    refine checkAllH_sound hff' (fun hh => drawH_sound ?_ hh) h
                    cases hb : (Nat.blt (highOf ops b i + 1) past.length || Nat.beq (highOf ops b i + 1) past.length) with
                    | true => exact hfl
                    | false => exact .cons _ _ _ _ _ _ hff' hfl
                  · rw [hno] at hv; cases hv
                · exact h.elim
              | false =>
                refine drawH_sound ?_ (checkAllH_out h)
                cases hb : (Nat.blt (highOf ops b i + 1) past.length || Nat.beq (highOf ops b i + 1) past.length) with
                | true => exact hfl
                | false => exact .skip _ _ _ _ _ hfl
          · exact h.elim
        | eff f => rw [hA] at h; exact h.elim
        | call y => rw [hA] at h; exact h.elim
        | pick y => rw [hA] at h; exact h.elim
        | fail => rw [hA] at h; exact h.elim
        | mv v => rw [hA] at h; exact one (by simp [hA]) (by simp [hA]) (by simp [hA]) (by simp [hA]) h
        | val y => rw [hA] at h; exact one (by simp [hA]) (by simp [hA]) (by simp [hA]) (by simp [hA]) h
        | new y => rw [hA] at h; exact one (by simp [hA]) (by simp [hA]) (by simp [hA]) (by simp [hA]) h
theorem drawH_mono {ops : Array Oper} {b : Array Nat} : ∀ {l : List Nat} {K K' : List Value → Store → Prop} {a : List Value} {past : List Store} {cur : Store} {fl : Fl}, (∀ a s, K a s → K' a s) → drawH P ops b l K a past cur fl → drawH P ops b l K' a past cur fl
  | [], _, _, _, _, _, _, hk, h => hk _ _ h
  | i :: rest, K, K', a, past, cur, fl, hk, h => by
    unfold drawH at h ⊢
    cases ho : ops[i]? with
    | none => rw [ho] at h; exact h
    | some o =>
      rw [ho] at h
      simp only at h ⊢
      cases he : isEff o.op <;> rw [he] at h <;> simp only [cond_true, cond_false] at h ⊢
      · cases hA : actH P o (aev a) with
        | rd f =>
          rw [hA] at h
          simp only at h ⊢
          cases hgs : gslot ops o with
          | none => rw [hgs] at h; exact h
          | some gs =>
            rw [hgs] at h
            cases gs with
            | none =>
              simp only [vop] at h ⊢
              split at h
              · exact checkAllH_mk h fun hh => drawH_mono hk hh
              · exact h
            | some tw =>
              obtain ⟨t, want⟩ := tw
              simp only at h ⊢
              rw [gop_eq] at h ⊢
              cases hgv : gv (aget a t) want with
              | none => rw [hgv] at h; exact h
              | some c =>
                rw [hgv] at h
                cases c with
                | true =>
                  simp only [vop] at h ⊢
                  split at h
                  · exact checkAllH_mk h fun hh => drawH_mono hk hh
                  · exact h
                | false => exact checkAllH_mk h fun hh => drawH_mono hk hh
        | eff f => rw [hA] at h; exact h
        | call y => rw [hA] at h; exact h
        | pick y => rw [hA] at h; exact h
        | fail => rw [hA] at h; exact h
        | mv v => rw [hA] at h; exact oneH_mono (fun v s hh => drawH_mono hk hh) h
        | val y => rw [hA] at h; exact oneH_mono (fun v s hh => drawH_mono hk hh) h
        | new y => rw [hA] at h; exact oneH_mono (fun v s hh => drawH_mono hk hh) h
      · exact oneH_mono (fun v s hh => recheckH_mk hh (drawH_mono hk)) h
theorem drawH_lin {ops : Array Oper} {b : Array Nat} : ∀ {l : List Nat} {K : List Value → Store → Prop} {a : List Value} {past : List Store} {cur : Store} {fl : Fl}, drawH P ops b l K a past cur fl → ∃ a' σ', K a' σ' ∧ drawH P ops b l (fun a2 σ2 => a2 = a' ∧ σ2 = σ') a past cur fl
  | [], K, a, past, cur, fl, h => ⟨a, cur, h, rfl, rfl⟩
  | i :: rest, K, a, past, cur, fl, h => by
    unfold drawH at h
    cases ho : ops[i]? with
    | none => rw [ho] at h; exact h.elim
    | some o =>
      rw [ho] at h
      simp only at h
      cases he : isEff o.op with
      | true =>
        rw [he] at h
        simp only [cond_true] at h
        obtain ⟨v, σ1, h1, h2⟩ := oneH_lin (actH_nopick (eff_notnext he)) h
        obtain ⟨a', σ', k1, k2⟩ := drawH_lin (recheckH_out h1)
        refine ⟨a', σ', k1, ?_⟩
        unfold drawH
        simp only [ho, he, cond_true]
        refine oneH_mono (fun v2 s2 hh => ?_) h2
        obtain ⟨rfl, rfl⟩ := hh
        exact recheckH_mk h1 fun _ => k2
      | false =>
        rw [he] at h
        simp only [cond_false] at h
        have one : (∀ f, actH P o (aev a) ≠ .rd f) → (∀ f, actH P o (aev a) ≠ .eff f) → (∀ f, actH P o (aev a) ≠ .call f) → (∀ f, actH P o (aev a) ≠ .pick f) → actH P o (aev a) ≠ .fail → oneH P ops a o cur (fun v s => drawH P ops b rest K (aput a o.dst v) past s fl) → ∃ a' σ', K a' σ' ∧ drawH P ops b (i :: rest) (fun a2 σ2 => a2 = a' ∧ σ2 = σ') a past cur fl := by
          intro n1 n2 n3 n5 n4 h
          obtain ⟨v, σ1, h1, h2⟩ := oneH_lin n5 h
          obtain ⟨a', σ', k1, k2⟩ := drawH_lin h1
          refine ⟨a', σ', k1, ?_⟩
          unfold drawH
          simp only [ho, he, cond_false]
          have h3 : oneH P ops a o cur fun v s => drawH P ops b rest (fun a2 σ2 => a2 = a' ∧ σ2 = σ') (aput a o.dst v) past s fl := oneH_mono (fun v2 s2 hh => by obtain ⟨rfl, rfl⟩ := hh; exact k2) h2
          cases hA : actH P o (aev a) with
          | rd f => exact absurd hA (n1 f)
          | eff f => exact absurd hA (n2 f)
          | call f => exact absurd hA (n3 f)
          | pick f => exact absurd hA (n5 f)
          | fail => exact absurd hA n4
          | _ => exact h3
        cases hA : actH P o (aev a) with
        | rd f =>
          rw [hA] at h
          simp only at h
          cases hgs : gslot ops o with
          | none => rw [hgs] at h; exact h.elim
          | some gs =>
            rw [hgs] at h
            cases gs with
            | none =>
              simp only [vop] at h
              split at h
              · rename_i v hv
                obtain ⟨a', σ', k1, k2⟩ := drawH_lin (checkAllH_out h)
                refine ⟨a', σ', k1, ?_⟩
                unfold drawH
                simp only [ho, he, cond_false, hA, hgs, vop, hv]
                exact checkAllH_mk h fun _ => k2
              · exact h.elim
            | some tw =>
              obtain ⟨t, want⟩ := tw
              simp only at h
              rw [gop_eq] at h
              have fin : ∀ v, checkAllH (gsel (aget a t) want f) v ((past.drop (lowOf ops b i)).dropLast) (drawH P ops b rest K (aput a o.dst v) past cur (bif Nat.blt (highOf ops b i + 1) past.length || Nat.beq (highOf ops b i + 1) past.length then fl else (highOf ops b i, gsel (aget a t) want f, v) :: fl)) →
                  (∀ K', K' v cur → gop (aget a t) want cur (fun K => vop (f (past.getLastD cur).get) cur K) K') → ∃ a' σ', K a' σ' ∧ drawH P ops b (i :: rest) (fun a2 σ2 => a2 = a' ∧ σ2 = σ') a past cur fl := by
                intro v h0 hK
                obtain ⟨a', σ', k1, k2⟩ := drawH_lin (checkAllH_out h0)
                refine ⟨a', σ', k1, ?_⟩
                unfold drawH
                simp only [ho, he, cond_false, hA, hgs]
                exact hK _ (checkAllH_mk h0 fun _ => k2)
              cases hgv : gv (aget a t) want with
              | none => rw [hgv] at h; exact h.elim
              | some c =>
                rw [hgv] at h
                cases c with
                | true =>
                  simp only [vop] at h
                  split at h
                  · rename_i v hv
                    exact fin v h fun K' hK' => by rw [gop_eq, hgv]; simp only [vop, hv]; exact hK'
                  · exact h.elim
                | false => exact fin gone h fun K' hK' => by rw [gop_eq, hgv]; exact hK'
        | eff f => rw [hA] at h; exact h.elim
        | call y => rw [hA] at h; exact h.elim
        | pick y => rw [hA] at h; exact h.elim
        | fail => rw [hA] at h; exact h.elim
        | mv v => rw [hA] at h; exact one (by simp [hA]) (by simp [hA]) (by simp [hA]) (by simp [hA]) (by simp [hA]) h
        | val y => rw [hA] at h; exact one (by simp [hA]) (by simp [hA]) (by simp [hA]) (by simp [hA]) (by simp [hA]) h
        | new y => rw [hA] at h; exact one (by simp [hA]) (by simp [hA]) (by simp [hA]) (by simp [hA]) (by simp [hA]) h
end Go.Am
end
section
/- The abstract machine, part 28: code of resolved operations, with joins; its body as a call. No program in sight. -/
set_option linter.all false
namespace Go.Am
open Go.RowKit
variable {P : Program} {ds : List Deferred}

/-! ## what is handed on -/
@[reducible] def NF : Nat → Type
  | 0 => Store → Prop
  | n + 1 => Value → NF n
@[reducible] def appN : (n : Nat) → NF n → List Value → Store → Prop
  | 0, f, _, σ => f σ
  | n + 1, f, xs, σ => appN n (f (xs.headD junk)) xs.tail σ
@[reducible] def lamN : (n : Nat) → (List Value → Store → Prop) → NF n
  | 0, f => fun σ => f [] σ
  | n + 1, f => fun x => lamN n (fun xs => f (x :: xs))
theorem app_lam : ∀ {n : Nat} {f : List Value → Store → Prop} {xs : List Value} {σ : Store}, xs.length = n → (appN n (lamN n f) xs σ ↔ f xs σ)
  | 0, f, [], σ, _ => Iff.rfl
  | n + 1, f, x :: xs, σ, h => by
    show appN n (lamN n (fun xs => f (x :: xs))) xs σ ↔ _
    exact app_lam (f := fun xs => f (x :: xs)) (by simpa using h)
def jop (n : Nat) (M : NF n → Prop) (k : NF n) : Prop := M k
def lop (n : Nat) (F : NF n → NF n) : NF n := lamN n fun xs σ => ∃ k, rounds (fun next xs σ => appN n (F (lamN n next)) xs σ) k xs σ
def condH (v : Value) (p q : Prop) : Prop := match v with | .bool true => p | .bool false => q | _ => False

/-! ## slots -/
def useO (m : Nat) (x : Operand) : Nat := match x with | .tmp t => Nat.lor m (Nat.shiftLeft 1 t) | _ => m
def lessM (m t : Nat) : Nat := Nat.xor m (Nat.land m (Nat.shiftLeft 1 t))
def liveO (ops : Array Oper) (o : Oper) (m : Nat) : Nat :=
  CheckFast.force (o.op.operands.toList.foldl useO (match gslot ops o with
    | some none => (match o.dst with | some d => lessM m d | none => m)
    | some (some (t, _)) => Nat.lor (match o.dst with | some d => lessM m d | none => m) (Nat.shiftLeft 1 t)
    | none => m)) fun n => n
/-- The slots that are read behind some code: u; behind a block: e; at the end: r. -/
structure Lv where
  u : Nat
  e : List (Nat × Nat)
  r : Nat
def exitU (id : Nat) : List (Nat × Nat) → Nat
  | [] => 0
  | (j, m) :: l => bif Nat.beq j id then m else exitU id l
/-- The slots that code reads, and what comes behind it. -/
def liveC (r : Nat) : Code → Nat → List (Nat × Nat) → Nat
  | .region _ ops _, m, _ => ops.toList.foldr (liveO ops) m
  | .seq x y, m, e => liveC r x (liveC r y m e) e
  | .cond c x y, m, e => useO (Nat.lor (liveC r x m e) (liveC r y m e)) c
  | .block id c, m, e => liveC r c m ((id, m) :: e)
  | .loop c, _, e => liveC r c (liveC r c 0 e) e
  | .exit id, _, e => exitU id e
  | .ret, _, _ => r
  | _, m, _ => m
def usesC (c : Code) (U : Lv) : Lv := { U with u := liveC U.r c U.u U.e }
def loopU (c : Code) (U : Lv) : Lv := { U with u := liveC U.r c (liveC U.r c 0 U.e) U.e }
def enterU (id : Nat) (U : Lv) : Lv := { U with e := (id, U.u) :: U.e }
def maskL : List Nat → Nat → Nat
  | [], m => m
  | t :: ts, m => maskL ts (Nat.lor m (Nat.shiftLeft 1 t))
def bit (m t : Nat) : Bool := Nat.beq (Nat.land (Nat.shiftRight m t) 1) 1
/-- Those of a list that are in a set, each once. -/
def lives : List Nat → Nat → List Nat
  | [], _ => []
  | t :: ts, m => bif bit m t then t :: lives ts (Nat.xor m (Nat.shiftLeft 1 t)) else lives ts m
def exitsTo (id : Nat) : Code → Nat
  | .seq x y => exitsTo id x + exitsTo id y
  | .cond _ x y => exitsTo id x + exitsTo id y
  | .block _ c => exitsTo id c
  | .loop c => exitsTo id c
  | .exit j => bif Nat.beq j id then 1 else 0
  | _ => 0
/-- In how many places code comes to its end (two stands for many). -/
def norms : Code → Nat
  | .seq x y => bif Nat.beq (norms x) 0 then 0 else norms y
  | .cond _ x y => norms x + norms y
  | .block id c => bif Nat.beq (norms c + exitsTo id c) 0 then 0 else 1
  | .loop _ => 0
  | .exit _ => 0
  | .ret => 0
  | _ => 1
def keepM (dm : Nat) : Nat → List Value → List Value
  | _, [] => []
  | i, v :: r => (bif bit dm i then junk else v) :: keepM dm (i + 1) r
theorem keepM_len (dm : Nat) : ∀ (i : Nat) (a : List Value), (keepM dm i a).length = a.length
  | _, [] => rfl
  | i, v :: r => by simp [keepM, keepM_len dm (i + 1) r]
theorem keepM_get (dm : Nat) : ∀ (i : Nat) (a : List Value) (t : Nat) (v : Value), (keepM dm i a)[t]? = some v → v = junk ∨ (bit dm (i + t) = false ∧ a[t]? = some v)
  | _, [], t, v, h => by simp [keepM] at h
  | i, x :: r, t, v, h => by
    cases t with
    | zero =>
      simp only [keepM, List.getElem?_cons_zero, Option.some.injEq] at h
      cases hb : bit dm i with
      | true => rw [hb] at h; exact .inl h.symm
      | false => rw [hb] at h; exact .inr ⟨by simpa using hb, by simpa using h⟩
    | succ t =>
      simp only [keepM, List.getElem?_cons_succ] at h
      rcases keepM_get dm (i + 1) r t v h with h1 | ⟨h1, h2⟩
      · exact .inl h1
      · exact .inr ⟨by rw [← h1]; congr 1; omega, by simpa using h2⟩
theorem bit_lor {m t x : Nat} : bit (Nat.lor m (Nat.shiftLeft 1 t)) x = (bit m x || decide (t = x)) := by
  have h : ∀ m x, bit m x = m.testBit x := fun m x => by
    unfold bit Nat.testBit
    have h1 : Nat.land (Nat.shiftRight m x) 1 = 1 &&& (m >>> x) := by
      show (m >>> x) &&& 1 = _
      rw [Nat.and_comm]
    rw [h1]
    have h2 : 1 &&& (m >>> x) = (m >>> x) % 2 := by rw [Nat.and_comm]; exact Nat.and_one_is_mod _
    rw [h2]
    rcases Nat.mod_two_eq_zero_or_one (m >>> x) with h3 | h3 <;> rw [h3] <;> rfl
  rw [h, h]
  show (m ||| 1 <<< t).testBit x = _
  rw [Nat.testBit_or, Nat.shiftLeft_eq, Nat.one_mul, Nat.testBit_two_pow]
theorem bit_maskL {x : Nat} : ∀ {l : List Nat} {m : Nat}, bit (maskL l m) x = (decide (x ∈ l) || bit m x)
  | [], m => by simp [maskL]
  | t :: ts, m => by
    unfold maskL
    rw [bit_maskL, bit_lor]
    by_cases h : x ∈ ts
    · simp [h]
    · by_cases h2 : t = x
      · subst h2; simp
      · have h3 : ¬ x = t := fun e => h2 e.symm
        simp [h, h2, h3]
theorem bit_zero {x : Nat} : bit 0 x = false := by
  unfold bit
  have : Nat.shiftRight 0 x = 0 := Nat.zero_shiftRight x
  rw [this]; rfl
theorem keepM_not (dm : Nat) : ∀ (i : Nat) (a : List Value) (t : Nat), bit dm (i + t) = false → (keepM dm i a)[t]? = a[t]?
  | _, [], t, _ => by simp [keepM]
  | i, x :: r, t, h => by
    cases t with
    | zero =>
      have h : bit dm i = false := h
      simp [keepM, h]
    | succ t =>
      simp only [keepM, List.getElem?_cons_succ]
      exact keepM_not dm (i + 1) r t (by rw [← h]; congr 1; omega)
/-- The frame behind code, of which some slots are known. -/
def rejoin (a : List Value) (c : Code) (L : List Nat) (xs : List Value) : List Value := setAll (keepM (maskL (defsC c) 0) 0 a) L xs
def liveJ (c : Code) (U : Lv) : List Nat := lives (defsC c) U.u
def liveL (c : Code) (D : Nat) (U : Lv) : List Nat := lives (defsC c) (Nat.land D U.u)
theorem lives_sub : ∀ {l : List Nat} {m t : Nat}, t ∈ lives l m → t ∈ l
  | [], _, _, h => by cases h
  | x :: l, m, t, h => by
    unfold lives at h
    cases hb : bit m x with
    | true =>
      rw [hb] at h
      rcases List.mem_cons.1 h with rfl | h
      · exact List.mem_cons_self
      · exact List.mem_cons_of_mem _ (lives_sub h)
    | false => rw [hb] at h; exact List.mem_cons_of_mem _ (lives_sub h)
theorem rejoin_same {c : Code} {a : List Value} {L : List Nat} (hL : ∀ t ∈ L, t ∈ defsC c) {xs : List Value} : Same (defsC c) a (rejoin a c L xs) := by
  refine ⟨by unfold rejoin; rw [setAll_len, keepM_len], fun t ht => ?_⟩
  unfold rejoin
  rw [setAll_not (fun h0 => ht (hL t h0)), keepM_not _ _ _ _ (by rw [Nat.zero_add, bit_maskL, bit_zero]; simp [ht])]
theorem same_rejoin {c : Code} {a a' : List Value} {L : List Nat} (hL : ∀ t ∈ L, t ∈ defsC c) (hs : Same (defsC c) a a') {M : Places} {act : Act} (h : ActR ds M a' act) : ActR ds M (rejoin a c L (L.map (aget a'))) act ∧ (rejoin a c L (L.map (aget a'))).length = a.length := by
  refine ⟨⟨fun t v hv => ?_, h.none_⟩, by unfold rejoin; rw [setAll_len, keepM_len]⟩
  unfold rejoin at hv
  have hlt : t < a'.length := by
    have := (List.getElem?_eq_some_iff.1 hv).1
    rw [setAll_len, keepM_len] at this
    rw [hs.1]; exact this
  obtain ⟨v', k1, k2⟩ := h.vals t a'[t] (List.getElem?_eq_getElem hlt)
  refine ⟨v', k1, ?_⟩
  rcases setAll_spec.2 t v hv with ⟨k3, rfl⟩ | ⟨k3, k4⟩
  · simpa [aget, hlt] using k2
  · rcases keepM_get _ _ _ _ _ k4 with rfl | ⟨h1, h2⟩
    · exact .junk _
    · have ht : t ∉ defsC c := fun hm => by
        rw [Nat.zero_add, bit_maskL] at h1
        simp [hm] at h1
      rw [← hs.2 t ht, List.getElem?_eq_getElem hlt] at h2
      cases h2
      exact k2

/-! ## the order in which a region is gone through, by sets that are numbers -/
def onesM (m : Nat) : List Nat → List Nat → List Nat
  | [], r => r
  | i :: is, r => bif bit m i then i :: onesM m is r else onesM m is r
theorem onesM_eq (m : Nat) : ∀ (l r : List Nat), onesM m l r = l.filter (bit m) ++ r
  | [], r => rfl
  | i :: is, r => by
    unfold onesM
    cases hb : bit m i with
    | true => simp [hb, onesM_eq m is r]
    | false => simp [hb, onesM_eq m is r]
/-- n ones. -/
def fullM (n : Nat) : Nat := Nat.sub (Nat.shiftLeft 1 n) 1
def canonM (anc : Nat → Nat) (n : Nat) (all : List Nat) : List Nat → Nat → List Nat
  | [], m => onesM (Nat.sub (fullM n) m) all []
  | e :: es, m => CheckFast.force (Nat.land (anc e) (Nat.sub (fullM n) m)) fun new => onesM new all (e :: CheckFast.force (Nat.lor (Nat.lor m new) (Nat.shiftLeft 1 e)) (canonM anc n all es))
theorem bit_testBit (m x : Nat) : bit m x = m.testBit x := by
  unfold bit Nat.testBit
  have h1 : Nat.land (Nat.shiftRight m x) 1 = 1 &&& (m >>> x) := by
    show (m >>> x) &&& 1 = _
    rw [Nat.and_comm]
  rw [h1]
  have h2 : 1 &&& (m >>> x) = (m >>> x) % 2 := by rw [Nat.and_comm]; exact Nat.and_one_is_mod _
  rw [h2]
  rcases Nat.mod_two_eq_zero_or_one (m >>> x) with h3 | h3 <;> rw [h3] <;> rfl
theorem bit_sub {n m i : Nat} (hm : m < 2 ^ n) (hi : i < n) : bit (Nat.sub (fullM n) m) i = !bit m i := by
  rw [bit_testBit, bit_testBit]
  have e : Nat.sub (fullM n) m = 2 ^ n - (m + 1) := by
    show (Nat.shiftLeft 1 n - 1) - m = _
    have : Nat.shiftLeft 1 n = 2 ^ n := by show 1 <<< n = _; rw [Nat.shiftLeft_eq, Nat.one_mul]
    rw [this]; omega
  rw [e, Nat.testBit_two_pow_sub_succ hm]
  simp [hi]
theorem canonM_eq {anc : Nat → Nat} {n : Nat} : ∀ {es acc : List Nat} {m : Nat}, (∀ i, bit m i = acc.contains i) → (∀ i ∈ acc, i < n) → (∀ e ∈ es, e < n) → m < 2 ^ n → acc ++ canonM anc n (List.range n) es m = canonGo (fun e i => (anc e).testBit i) n es acc
  | [], acc, m, hm, _, _, hlt => by
    unfold canonM canonGo
    rw [onesM_eq, List.append_nil]
    congr 1
    refine List.filter_congr fun i hi => ?_
    rw [bit_sub hlt (by simpa using hi), hm]
  | e :: es, acc, m, hm, hacc, hes, hlt => by
    unfold canonM canonGo
    rw [CheckFast.force_eq, CheckFast.force_eq, onesM_eq]
    have hf : (List.range n).filter (bit (Nat.land (anc e) (Nat.sub (fullM n) m))) = (List.range n).filter fun i => !acc.contains i && (anc e).testBit i := by
      refine List.filter_congr fun i hi => ?_
      have hi' : i < n := by simpa using hi
      rw [bit_testBit]
      show ((anc e) &&& (Nat.sub (fullM n) m)).testBit i = _
      rw [Nat.testBit_and, ← bit_testBit (Nat.sub (fullM n) m), bit_sub hlt hi', hm, Bool.and_comm]
    have hnb : ∀ i, bit (Nat.land (anc e) (Nat.sub (fullM n) m)) i = true → i < n := fun i hb => by
      rw [bit_testBit] at hb
      have hb : ((anc e) &&& (Nat.sub (fullM n) m)).testBit i = true := hb
      rw [Nat.testBit_and, Bool.and_eq_true] at hb
      by_cases hin : i < n
      · exact hin
      · exfalso
        have h2 : Nat.sub (fullM n) m < 2 ^ i := by
          have e1 : fullM n < 2 ^ n := by
            unfold fullM
            have : Nat.shiftLeft 1 n = 2 ^ n := by show 1 <<< n = _; rw [Nat.shiftLeft_eq, Nat.one_mul]
            rw [this]
            show 2 ^ n - 1 < 2 ^ n
            have := Nat.two_pow_pos n
            omega
          have e2 : 2 ^ n ≤ 2 ^ i := Nat.pow_le_pow_right (by omega) (by omega)
          show fullM n - m < 2 ^ i
          omega
        rw [Nat.testBit_lt_two_pow h2] at hb
        exact absurd hb.2 (by simp)
    rw [hf, ← canonM_eq (es := es) (acc := acc ++ ((List.range n).filter fun i => !acc.contains i && (anc e).testBit i) ++ [e]) (m := Nat.lor (Nat.lor m (Nat.land (anc e) (Nat.sub (fullM n) m))) (Nat.shiftLeft 1 e))]
    · simp
    · intro i
      rw [bit_lor]
      have h1 : bit (Nat.lor m (Nat.land (anc e) (Nat.sub (fullM n) m))) i = (bit m i || bit (Nat.land (anc e) (Nat.sub (fullM n) m)) i) := by
        rw [bit_testBit, bit_testBit, bit_testBit]
        exact Nat.testBit_or _ _ _
      rw [h1, hm]
      have h2 : ((List.range n).filter fun i => !acc.contains i && (anc e).testBit i).contains i = bit (Nat.land (anc e) (Nat.sub (fullM n) m)) i := by
        rw [← hf]
        rw [Bool.eq_iff_iff]
        simp only [List.contains_iff_mem, List.mem_filter, List.mem_range]
        exact ⟨fun h => h.2, fun h => ⟨hnb i h, h⟩⟩
      rw [List.contains_append, List.contains_append, h2]
      by_cases he : e = i
      · subst he; simp
      · have he' : ¬ i = e := fun h => he h.symm
        simp [he, he']
    · intro i hi
      rcases List.mem_append.1 hi with hi | hi
      · rcases List.mem_append.1 hi with hi | hi
        · exact hacc i hi
        · have := (List.mem_filter.1 hi).1; simpa using this
      · have : i = e := by simpa using hi
        rw [this]; exact hes e List.mem_cons_self
    · exact fun e' he' => hes e' (List.mem_cons_of_mem _ he')
    · refine Nat.or_lt_two_pow (Nat.or_lt_two_pow hlt ?_) ?_
      · refine Nat.lt_of_le_of_lt (Nat.and_le_right : Nat.land (anc e) (Nat.sub (fullM n) m) ≤ _) ?_
        show fullM n - m < 2 ^ n
        unfold fullM
        have : Nat.shiftLeft 1 n = 2 ^ n := by show 1 <<< n = _; rw [Nat.shiftLeft_eq, Nat.one_mul]
        rw [this]
        show 2 ^ n - 1 - m < 2 ^ n
        have := Nat.two_pow_pos n
        omega
      · show 1 <<< e < 2 ^ n
        rw [Nat.shiftLeft_eq, Nat.one_mul]
        exact Nat.pow_lt_pow_right (by omega) (hes e List.mem_cons_self)
def canonF (ops : Array Oper) (b : Array Nat) : List Nat := canonM (fun e => b.getD e 0) ops.size (List.range ops.size) (effs ops) 0
theorem canonF_eq (ops : Array Oper) (b : Array Nat) : canonF ops b = canon ops b := by
  unfold canonF canon
  have := canonM_eq (anc := fun e => b.getD e 0) (n := ops.size) (es := effs ops) (acc := []) (m := 0) (fun i => by rw [bit_zero]; rfl) (fun i hi => by cases hi) (fun e he => by unfold effs at he; have := (List.mem_filter.1 he).1; simpa using this) (Nat.two_pow_pos _)
  simpa using this

/-! ## code -/
def codeH (P : Program) : Code → Nat → Lv → (Out → List Value → Store → Prop) → List Value → Store → Prop
  | .skip, _, _, K, a, σ => K .normal a σ
  | .label _, _, _, K, a, σ => K .normal a σ
  | .region _ ops false, _, _, K, a, σ => seqH P ops ops.toList (fun a σ => K .normal a σ) a σ
  | .region _ ops true, _, _, K, a, σ => (fun b => drawH P ops b (canonF ops b) (fun a σ => K .normal a σ) a [σ] σ []) (CheckFast.beforeF ops)
  | .seq x y, D, U, K, a, σ =>
    bif Nat.ble (norms x) 1 then codeH P x D (usesC y U) (fun e a σ => match e with | .normal => codeH P y (maskL (defsC x) D) U K a σ | e => K e a σ) a σ
    else (fun L => jop L.length (fun K2 => codeH P x D (usesC y U) (fun e a' σ' => match e with | .normal => appN L.length K2 (L.map (aget a')) σ' | e => K e a' σ') a σ)
      (lamN L.length fun xs σ' => codeH P y (maskL (defsC x) D) U K (rejoin a x L xs) σ')) (liveJ x (usesC y U))
  | .cond c x y, D, U, K, a, σ => condH (aev a c) (codeH P x D U K a σ) (codeH P y D U K a σ)
  | .block id c, D, U, K, a, σ =>
    bif Nat.ble (norms c + exitsTo id c) 1 then codeH P c D (enterU id U) (fun e a σ => match e with | .exit j => (bif j == id then K .normal a σ else K (.exit j) a σ) | e => K e a σ) a σ
    else (fun L => jop L.length (fun K2 => codeH P c D (enterU id U) (fun e a' σ' => match e with | .exit j => (bif j == id then appN L.length K2 (L.map (aget a')) σ' else K (.exit j) a' σ') | .normal => appN L.length K2 (L.map (aget a')) σ' | .ret => K .ret a' σ') a σ)
      (lamN L.length fun xs σ' => K .normal (rejoin a c L xs) σ')) (liveJ c U)
  | .loop c, D, U, K, a, σ =>
    (fun U' => (fun L => appN L.length (lop L.length fun next => lamN L.length fun xs σ => codeH P c D U' (fun e a' σ' => match e with | .normal => appN L.length next (L.map (aget a')) σ' | e => K e a' σ') (rejoin a c L xs) σ) (L.map (aget a)) σ) (liveL c D U')) (loopU c U)
  | .exit id, _, _, K, a, σ => K (.exit id) a σ
  | .ret, _, _, K, a, σ => K .ret a σ
  | _, _, _, _, _, _ => False

theorem lop_app {n : Nat} {F : NF n → NF n} {xs : List Value} {σ : Store} (h : xs.length = n) : appN n (lop n F) xs σ ↔ ∃ k, rounds (fun next xs σ => appN n (F (lamN n next)) xs σ) k xs σ := app_lam h
theorem codeH_mono : ∀ {c : Code} {D : Nat} {U : Lv} {K K' : Out → List Value → Store → Prop} {a : List Value} {σ : Store}, (∀ e a s, K e a s → K' e a s) → codeH P c D U K a σ → codeH P c D U K' a σ := by
  intro c
  induction c with
  | skip => intro D U K K' a σ hk h; exact hk _ _ _ h
  | label l => intro D U K K' a σ hk h; exact hk _ _ _ h
  | region id ops d =>
    intro D U K K' a σ hk h
    cases d with
    | false => exact seqH_mono (fun a s hh => hk _ _ _ hh) h
    | true => exact drawH_mono (fun a s hh => hk _ _ _ hh) h
  | seq x y ihx ihy =>
    intro D U K K' a σ hk h
    unfold codeH at h ⊢
    cases hb : Nat.ble (norms x) 1 with
    | true =>
      rw [hb] at h
      refine ihx (fun e a s hh => ?_) h
      cases e with
      | normal => exact ihy hk hh
      | _ => exact hk _ _ _ hh
    | false =>
      rw [hb] at h
      simp only [cond_false, jop] at h ⊢
      refine ihx (fun e a s hh => ?_) h
      cases e with
      | normal =>
        simp only at hh ⊢
        rw [app_lam (by simp)] at hh ⊢
        exact ihy hk hh
      | _ => exact hk _ _ _ hh
  | cond c x y ihx ihy =>
    intro D U K K' a σ hk h
    unfold codeH condH at h ⊢
    split at h
    · exact ihx hk h
    · exact ihy hk h
    · exact h
  | block id c ih =>
    intro D U K K' a σ hk h
    unfold codeH at h ⊢
    cases hb : Nat.ble (norms c + exitsTo id c) 1 with
    | true =>
      rw [hb] at h
      refine ih (fun e a s hh => ?_) h
      cases e with
      | exit j =>
        simp only at hh ⊢
        cases hb : j == id <;> rw [hb] at hh <;> simp only [cond_true, cond_false] at hh ⊢ <;> exact hk _ _ _ hh
      | _ => exact hk _ _ _ hh
    | false =>
      rw [hb] at h
      simp only [cond_false, jop] at h ⊢
      refine ih (fun e a s hh => ?_) h
      cases e with
      | exit j =>
        simp only at hh ⊢
        cases hb : j == id <;> rw [hb] at hh <;> simp only [cond_true, cond_false] at hh ⊢
        · exact hk _ _ _ hh
        · rw [app_lam (by simp)] at hh ⊢
          exact hk _ _ _ hh
      | normal =>
        simp only at hh ⊢
        rw [app_lam (by simp)] at hh ⊢
        exact hk _ _ _ hh
      | ret => exact hk _ _ _ hh
  | loop c ih =>
    intro D U K K' a σ hk h
    unfold codeH at h ⊢
    simp only at h ⊢
    rw [lop_app (by simp)] at h ⊢
    obtain ⟨n, hn⟩ := h
    refine ⟨n, ?_⟩
    have key : ∀ n xs s, xs.length = (liveL c D (loopU c U)).length → rounds (fun next xs σ => appN (liveL c D (loopU c U)).length ((fun next => lamN (liveL c D (loopU c U)).length fun xs σ => codeH P c D (loopU c U) (fun e a' σ' => match e with | .normal => appN (liveL c D (loopU c U)).length next ((liveL c D (loopU c U)).map (aget a')) σ' | e => K e a' σ') (rejoin a c (liveL c D (loopU c U)) xs) σ) (lamN (liveL c D (loopU c U)).length next)) xs σ) n xs s →
        rounds (fun next xs σ => appN (liveL c D (loopU c U)).length ((fun next => lamN (liveL c D (loopU c U)).length fun xs σ => codeH P c D (loopU c U) (fun e a' σ' => match e with | .normal => appN (liveL c D (loopU c U)).length next ((liveL c D (loopU c U)).map (aget a')) σ' | e => K' e a' σ') (rejoin a c (liveL c D (loopU c U)) xs) σ) (lamN (liveL c D (loopU c U)).length next)) xs σ) n xs s := by
      intro n
      induction n with
      | zero => intro xs s _ h; exact h
      | succ n ihn =>
        intro xs s hl h
        unfold rounds at h ⊢
        simp only at h ⊢
        rw [app_lam hl] at h ⊢
        refine ih (fun e a s h1 => ?_) h
        cases e with
        | normal =>
          simp only at h1 ⊢
          rw [app_lam (by simp)] at h1 ⊢
          exact ihn _ _ (by simp) h1
        | _ => exact hk _ _ _ h1
    exact key n _ _ (by simp) hn
  | exit id => intro D U K K' a σ hk h; exact hk _ _ _ h
  | ret => intro D U K K' a σ hk h; exact hk _ _ _ h
  | _ => intros; rename_i h; exact h.elim

theorem codeH_lin : ∀ {c : Code} {D : Nat} {U : Lv} {K : Out → List Value → Store → Prop} {a : List Value} {σ : Store}, noNext c = true → codeH P c D U K a σ →
    ∃ e a' σ', K e a' σ' ∧ σ.next ≤ σ'.next ∧ codeH P c D U (fun e2 a2 σ2 => e2 = e ∧ a2 = a' ∧ σ2 = σ') a σ := by
  intro c
  induction c with
  | skip => intro D U K a σ _ h; exact ⟨.normal, a, σ, h, Nat.le_refl _, rfl, rfl, rfl⟩
  | label l => intro D U K a σ _ h; exact ⟨.normal, a, σ, h, Nat.le_refl _, rfl, rfl, rfl⟩
  | exit id => intro D U K a σ _ h; exact ⟨.exit id, a, σ, h, Nat.le_refl _, rfl, rfl, rfl⟩
  | ret => intro D U K a σ _ h; exact ⟨.ret, a, σ, h, Nat.le_refl _, rfl, rfl, rfl⟩
  | region id ops d =>
    intro D U K a σ hp h
    cases d with
    | false =>
      obtain ⟨a', σ', k1, k2⟩ := seqH_lin (fun o ho => by have := List.all_eq_true.1 hp o ho; simpa using this) h
      obtain ⟨_, _, ⟨rfl, rfl⟩, _, k3, _⟩ := seqOps_lin (ds := ops.toList.filterMap (·.dst)) (fun o ho d hd => List.mem_filterMap.2 ⟨o, ho, hd⟩) (fun o ho => by have := List.all_eq_true.1 hp o ho; simpa using this) (seqH_sound k2)
      exact ⟨.normal, _, _, k1, k3, seqH_mono (fun a s hh => ⟨rfl, hh⟩) k2⟩
    | true =>
      obtain ⟨a', σ', k1, k2⟩ := drawH_lin h
      obtain ⟨_, _, ⟨rfl, rfl⟩, _, k3, _⟩ := drawOps_lin (ds := ops.toList.filterMap (·.dst)) (fun i o ho d hd => List.mem_filterMap.2 ⟨o, by rw [← Array.mem_def]; exact Array.mem_of_getElem? ho, hd⟩) (drawH_sound .nil k2)
      exact ⟨.normal, _, _, k1, k3, drawH_mono (fun a s hh => ⟨rfl, hh⟩) k2⟩
  | seq x y ihx ihy =>
    intro D U K a σ hp h
    simp only [noNext, Bool.and_eq_true] at hp
    unfold codeH at h ⊢
    cases hb : Nat.ble (norms x) 1 with
    | true =>
      rw [hb] at h
      simp only [cond_true] at h ⊢
      obtain ⟨e, a1, σ1, h1, hn1, h2⟩ := ihx hp.1 h
      cases e with
      | normal =>
        obtain ⟨e2, a2, σ2, k1, kn, k2⟩ := ihy hp.2 h1
        refine ⟨e2, a2, σ2, k1, Nat.le_trans hn1 kn, codeH_mono (fun e a s hh => ?_) h2⟩
        obtain ⟨rfl, rfl, rfl⟩ := hh
        exact k2
      | exit j => exact ⟨.exit j, a1, σ1, h1, hn1, codeH_mono (fun e a s hh => by obtain ⟨rfl, rfl, rfl⟩ := hh; exact ⟨rfl, rfl, rfl⟩) h2⟩
      | ret => exact ⟨.ret, a1, σ1, h1, hn1, codeH_mono (fun e a s hh => by obtain ⟨rfl, rfl, rfl⟩ := hh; exact ⟨rfl, rfl, rfl⟩) h2⟩
    | false =>
      rw [hb] at h
      simp only [cond_false, jop] at h ⊢
      obtain ⟨e, a1, σ1, h1, hn1, h2⟩ := ihx hp.1 h
      cases e with
      | normal =>
        simp only at h1
        rw [app_lam (by simp)] at h1
        obtain ⟨e2, a2, σ2, k1, kn, k2⟩ := ihy hp.2 h1
        refine ⟨e2, a2, σ2, k1, Nat.le_trans hn1 kn, codeH_mono (fun e a s hh => ?_) h2⟩
        obtain ⟨rfl, rfl, rfl⟩ := hh
        simp only
        rw [app_lam (by simp)]
        exact k2
      | exit j => exact ⟨.exit j, a1, σ1, h1, hn1, codeH_mono (fun e a s hh => by obtain ⟨rfl, rfl, rfl⟩ := hh; exact ⟨rfl, rfl, rfl⟩) h2⟩
      | ret => exact ⟨.ret, a1, σ1, h1, hn1, codeH_mono (fun e a s hh => by obtain ⟨rfl, rfl, rfl⟩ := hh; exact ⟨rfl, rfl, rfl⟩) h2⟩
  | cond c x y ihx ihy =>
    intro D U K a σ hp h
    simp only [noNext, Bool.and_eq_true] at hp
    unfold codeH condH at h ⊢
    split at h
    · exact ihx hp.1 h
    · exact ihy hp.2 h
    · exact h.elim
  | block id c ih =>
    intro D U K a σ hp h
    have hp : noNext c = true := hp
    unfold codeH at h ⊢
    cases hb : Nat.ble (norms c + exitsTo id c) 1 with
    | true =>
      rw [hb] at h
      simp only [cond_true] at h ⊢
      obtain ⟨e, a1, σ1, h1, hn1, h2⟩ := ih hp h
      cases e with
      | normal => exact ⟨.normal, a1, σ1, h1, hn1, codeH_mono (fun e a s hh => by obtain ⟨rfl, rfl, rfl⟩ := hh; exact ⟨rfl, rfl, rfl⟩) h2⟩
      | ret => exact ⟨.ret, a1, σ1, h1, hn1, codeH_mono (fun e a s hh => by obtain ⟨rfl, rfl, rfl⟩ := hh; exact ⟨rfl, rfl, rfl⟩) h2⟩
      | exit j =>
        simp only at h1
        cases hj : j == id with
        | true =>
          rw [hj] at h1
          exact ⟨.normal, a1, σ1, h1, hn1, codeH_mono (fun e a s hh => by obtain ⟨rfl, rfl, rfl⟩ := hh; simp only [hj, cond_true]; exact ⟨trivial, trivial, trivial⟩) h2⟩
        | false =>
          rw [hj] at h1
          exact ⟨.exit j, a1, σ1, h1, hn1, codeH_mono (fun e a s hh => by obtain ⟨rfl, rfl, rfl⟩ := hh; simp only [hj, cond_false]; exact ⟨trivial, trivial, trivial⟩) h2⟩
    | false =>
      rw [hb] at h
      simp only [cond_false, jop] at h ⊢
      obtain ⟨e, a1, σ1, h1, hn1, h2⟩ := ih hp h
      cases e with
      | normal =>
        simp only at h1
        rw [app_lam (by simp)] at h1
        exact ⟨.normal, _, σ1, h1, hn1, codeH_mono (fun e a s hh => by obtain ⟨rfl, rfl, rfl⟩ := hh; simp only; rw [app_lam (by simp)]; exact ⟨trivial, rfl, rfl⟩) h2⟩
      | ret => exact ⟨.ret, a1, σ1, h1, hn1, codeH_mono (fun e a s hh => by obtain ⟨rfl, rfl, rfl⟩ := hh; exact ⟨rfl, rfl, rfl⟩) h2⟩
      | exit j =>
        simp only at h1
        cases hj : j == id with
        | true =>
          rw [hj] at h1
          simp only [cond_true] at h1
          rw [app_lam (by simp)] at h1
          exact ⟨.normal, _, σ1, h1, hn1, codeH_mono (fun e a s hh => by obtain ⟨rfl, rfl, rfl⟩ := hh; simp only [hj, cond_true]; rw [app_lam (by simp)]; exact ⟨trivial, rfl, rfl⟩) h2⟩
        | false =>
          rw [hj] at h1
          exact ⟨.exit j, a1, σ1, h1, hn1, codeH_mono (fun e a s hh => by obtain ⟨rfl, rfl, rfl⟩ := hh; simp only [hj, cond_false]; exact ⟨trivial, trivial, trivial⟩) h2⟩
  | loop c ih =>
    intro D U K a σ hp h
    have hp : noNext c = true := hp
    unfold codeH at h ⊢
    simp only at h ⊢
    rw [lop_app (by simp)] at h
    obtain ⟨n, hn⟩ := h
    have key : ∀ n xs s, xs.length = (liveL c D (loopU c U)).length → rounds (fun next xs σ => appN (liveL c D (loopU c U)).length ((fun next => lamN (liveL c D (loopU c U)).length fun xs σ => codeH P c D (loopU c U) (fun e a' σ' => match e with | .normal => appN (liveL c D (loopU c U)).length next ((liveL c D (loopU c U)).map (aget a')) σ' | e => K e a' σ') (rejoin a c (liveL c D (loopU c U)) xs) σ) (lamN (liveL c D (loopU c U)).length next)) xs σ) n xs s →
        ∃ e a' σ', K e a' σ' ∧ s.next ≤ σ'.next ∧ rounds (fun next xs σ => appN (liveL c D (loopU c U)).length ((fun next => lamN (liveL c D (loopU c U)).length fun xs σ => codeH P c D (loopU c U) (fun e2 a2 σ2 => match e2 with | .normal => appN (liveL c D (loopU c U)).length next ((liveL c D (loopU c U)).map (aget a2)) σ2 | e2 => e2 = e ∧ a2 = a' ∧ σ2 = σ') (rejoin a c (liveL c D (loopU c U)) xs) σ) (lamN (liveL c D (loopU c U)).length next)) xs σ) n xs s := by
      intro n
      induction n with
      | zero => intro xs s _ h; exact h.elim
      | succ n ihn =>
        intro xs s hl h
        unfold rounds at h
        simp only at h
        rw [app_lam hl] at h
        obtain ⟨e, a1, σ1, h1, hn1, h2⟩ := ih hp h
        cases e with
        | normal =>
          simp only at h1
          rw [app_lam (by simp)] at h1
          obtain ⟨e, a', σ', k1, kn, k2⟩ := ihn _ _ (by simp) h1
          refine ⟨e, a', σ', k1, Nat.le_trans hn1 kn, ?_⟩
          unfold rounds
          simp only
          rw [app_lam hl]
          refine codeH_mono (fun e a s hh => ?_) h2
          obtain ⟨rfl, rfl, rfl⟩ := hh
          simp only
          rw [app_lam (by simp)]
          exact k2
        | exit j =>
          refine ⟨.exit j, a1, σ1, h1, hn1, ?_⟩
          unfold rounds
          simp only
          rw [app_lam hl]
          exact codeH_mono (fun e a s hh => by obtain ⟨rfl, rfl, rfl⟩ := hh; exact ⟨rfl, rfl, rfl⟩) h2
        | ret =>
          refine ⟨.ret, a1, σ1, h1, hn1, ?_⟩
          unfold rounds
          simp only
          rw [app_lam hl]
          exact codeH_mono (fun e a s hh => by obtain ⟨rfl, rfl, rfl⟩ := hh; exact ⟨rfl, rfl, rfl⟩) h2
    obtain ⟨e, a', σ', k1, kn, k2⟩ := key n _ _ (by simp) hn
    exact ⟨e, a', σ', k1, kn, (lop_app (by simp)).2 ⟨n, k2⟩⟩
  | _ => intros; rename_i h; exact h.elim

theorem codeH_sound : ∀ {c : Code} {D : Nat} {U : Lv} {K : Out → List Value → Store → Prop} {act : List Value} {σ : Store} {M : Places} {w : World} {a : Act} {Q : Exit → Act → World → Prop}, okCode P c = true → ActR ds M act a → Rel M σ w → codeH P c D U K act σ →
    (∀ e act' σ' M' w' a', K e act' σ' → Same (defsC c) act act' → ActR ds M' act' a' → Rel M' σ' w' → Step σ M w σ' M' w' → Q (exitOf e) a' w') → c.wp P Q a w := by
  intro c
  induction c with
  | skip => intro D U K act σ M w a Q _ ha hr h hq; exact wp_skip (hq .normal act σ M w a h (Same.refl _ _) ha hr (Step.refl _ _ _))
  | label l => intro D U K act σ M w a Q _ ha hr h hq; exact wp_label (hq .normal act σ M w a h (Same.refl _ _) ha hr (Step.refl _ _ _))
  | exit id => intro D U K act σ M w a Q _ ha hr h hq; exact wp_exit (hq (.exit id) act σ M w a h (Same.refl _ _) ha hr (Step.refl _ _ _))
  | ret => intro D U K act σ M w a Q _ ha hr h hq; exact wp_ret (hq .ret act σ M w a h (Same.refl _ _) ha hr (Step.refl _ _ _))
  | region id ops d =>
    intro D U K act σ M w a Q hok ha hr h hq
    cases d with
    | false =>
      have hsq : seqOps (PI P) P ops ops.toList (fun a' σ' => K .normal a' σ' ∧ Same (defsC (Code.region id ops false)) act a' ∧ σ.next ≤ σ'.next) act σ := seqOps_and (ds := defsC (Code.region id ops false)) (fun o ho d hd => by show d ∈ ops.toList.filterMap (·.dst); exact List.mem_filterMap.2 ⟨o, ho, hd⟩) (seqH_sound h)
      exact seq_sound (List.all_eq_true.1 hok) ha hr hsq fun act' σ' M' w' a' h1 h2 h3 h4 =>
        hq .normal act' _ M' w' a' h1.1 h1.2.1 h2 h3 h4
    | true =>
      have h : drawH P ops (CheckFast.beforeF ops) (canonF ops (CheckFast.beforeF ops)) (fun a σ => K .normal a σ) act [σ] σ [] := h
      rw [canonF_eq] at h
      obtain ⟨a', σ', k1, k2, k3, k4⟩ := drawOps_lin (ds := ops.toList.filterMap (·.dst)) (fun i o ho d hd => List.mem_filterMap.2 ⟨o, by rw [← Array.mem_def]; exact Array.mem_of_getElem? ho, hd⟩) (drawH_sound .nil h)
      exact draw_sound hok ha hr k4 fun act' σ' M' w' a' h1 h2 h3 h4 => by
        obtain ⟨rfl, rfl⟩ := h1
        exact hq .normal act' _ M' w' a' k1 k2 h2 h3 h4
  | seq x y ihx ihy =>
    intro D U K act σ M w a Q hok ha hr h hq
    simp only [okCode, Bool.and_eq_true] at hok
    have hx : ∀ t, t ∈ defsC x → t ∈ defsC (.seq x y) := fun t ht => by simp [defsC, ht]
    have hy : ∀ t, t ∈ defsC y → t ∈ defsC (.seq x y) := fun t ht => by simp [defsC, ht]
    unfold codeH at h
    cases hb : Nat.ble (norms x) 1 with
    | true =>
      rw [hb] at h
      simp only [cond_true] at h
      refine wp_seq (ihx hok.1 ha hr h fun e act' σ' M' w' a' h1 hs h2 h3 h4 => ?_)
      cases e with
      | normal => exact ihy hok.2 h2 h3 h1 fun e act2 σ2 M2 w2 a2 k1 ks k2 k3 k4 => hq e act2 σ2 M2 w2 a2 k1 ((hs.more hx).trans (ks.more hy)) k2 k3 (h4.trans k4)
      | exit j => exact hq (.exit j) act' σ' M' w' a' h1 (hs.more hx) h2 h3 h4
      | ret => exact hq .ret act' σ' M' w' a' h1 (hs.more hx) h2 h3 h4
    | false =>
      rw [hb] at h
      simp only [cond_false, jop] at h
      refine wp_seq (ihx hok.1 ha hr h fun e act' σ' M' w' a' h1 hs h2 h3 h4 => ?_)
      cases e with
      | normal =>
        simp only at h1
        rw [app_lam (by simp)] at h1
        obtain ⟨r1, r2⟩ := same_rejoin (L := liveJ x (usesC y U)) (fun t ht => lives_sub ht) hs h2
        exact ihy hok.2 r1 h3 h1 fun e act2 σ2 M2 w2 a2 k1 ks k2 k3 k4 => hq e act2 σ2 M2 w2 a2 k1 (((rejoin_same (fun t ht => lives_sub ht)).more hx).trans (ks.more hy)) k2 k3 (h4.trans k4)
      | exit j => exact hq (.exit j) act' σ' M' w' a' h1 (hs.more hx) h2 h3 h4
      | ret => exact hq .ret act' σ' M' w' a' h1 (hs.more hx) h2 h3 h4
  | cond c x y ihx ihy =>
    intro D U K act σ M w a Q hok ha hr h hq
    simp only [okCode, Bool.and_eq_true] at hok
    have hc := ha.ev hok.1.1
    have hx : ∀ t, t ∈ defsC x → t ∈ defsC (.cond c x y) := fun t ht => by simp [defsC, ht]
    have hy : ∀ t, t ∈ defsC y → t ∈ defsC (.cond c x y) := fun t ht => by simp [defsC, ht]
    unfold codeH condH at h
    split at h
    · rename_i he
      rw [he] at hc
      exact wp_cond_true hc.bool_ (ihx hok.1.2 ha hr h fun e act' σ' M' w' a' h1 hs => hq e act' σ' M' w' a' h1 (hs.more hx))
    · rename_i he
      rw [he] at hc
      exact wp_cond_false hc.bool_ (ihy hok.2 ha hr h fun e act' σ' M' w' a' h1 hs => hq e act' σ' M' w' a' h1 (hs.more hy))
    · exact h.elim
  | block id c ih =>
    intro D U K act σ M w a Q hok ha hr h hq
    unfold codeH at h
    cases hb : Nat.ble (norms c + exitsTo id c) 1 with
    | true =>
      rw [hb] at h
      simp only [cond_true] at h
      refine wp_block (ih hok ha hr h fun e act' σ' M' w' a' h1 hs h2 h3 h4 => ?_)
      cases e with
      | normal => exact hq .normal act' σ' M' w' a' h1 hs h2 h3 h4
      | ret => exact hq .ret act' σ' M' w' a' h1 hs h2 h3 h4
      | exit j =>
        simp only at h1
        show (if j = id then Q .normal a' w' else Q (.exit j) a' w')
        by_cases e : j = id
        · rw [if_pos e]
          have hb : (j == id) = true := by simp [e]
          rw [hb] at h1
          exact hq .normal act' σ' M' w' a' h1 hs h2 h3 h4
        · rw [if_neg e]
          have hb : (j == id) = false := by simp [e]
          rw [hb] at h1
          exact hq (.exit j) act' σ' M' w' a' h1 hs h2 h3 h4
    | false =>
      rw [hb] at h
      simp only [cond_false, jop] at h
      have hin : ∀ t ∈ liveJ c U, t ∈ defsC c := fun t ht => lives_sub ht
      refine wp_block (ih hok ha hr h fun e act' σ' M' w' a' h1 hs h2 h3 h4 => ?_)
      cases e with
      | normal =>
        simp only at h1
        rw [app_lam (by simp)] at h1
        obtain ⟨r1, r2⟩ := same_rejoin hin hs h2
        exact hq .normal _ σ' M' w' a' h1 (rejoin_same hin) r1 h3 h4
      | ret => exact hq .ret act' σ' M' w' a' h1 hs h2 h3 h4
      | exit j =>
        simp only at h1
        show (if j = id then Q .normal a' w' else Q (.exit j) a' w')
        by_cases e : j = id
        · rw [if_pos e]
          have hb : (j == id) = true := by simp [e]
          rw [hb] at h1
          simp only [cond_true] at h1
          rw [app_lam (by simp)] at h1
          obtain ⟨r1, r2⟩ := same_rejoin hin hs h2
          exact hq .normal _ σ' M' w' a' h1 (rejoin_same hin) r1 h3 h4
        · rw [if_neg e]
          have hb : (j == id) = false := by simp [e]
          rw [hb] at h1
          exact hq (.exit j) act' σ' M' w' a' h1 hs h2 h3 h4
  | loop c ih =>
    intro D U K act σ M w a Q hok ha hr h hq
    unfold codeH at h
    simp only at h
    rw [lop_app (by simp)] at h
    obtain ⟨n, hn⟩ := h
    refine wp_loop_rounds n ?_
    have hin : ∀ t ∈ liveL c D (loopU c U), t ∈ defsC c := fun t ht => lives_sub ht
    have key : ∀ (n : Nat) (act1 : List Value) (σ1 : Store) (M1 : Places) (w1 : World) (a1 : Act), ActR ds M1 act1 a1 → Same (defsC c) act act1 → Rel M1 σ1 w1 → Step σ M w σ1 M1 w1 →
        rounds (fun next xs σ => appN (liveL c D (loopU c U)).length ((fun next => lamN (liveL c D (loopU c U)).length fun xs σ => codeH P c D (loopU c U) (fun e a' σ' => match e with | .normal => appN (liveL c D (loopU c U)).length next ((liveL c D (loopU c U)).map (aget a')) σ' | e => K e a' σ') (rejoin act c (liveL c D (loopU c U)) xs) σ) (lamN (liveL c D (loopU c U)).length next)) xs σ) n ((liveL c D (loopU c U)).map (aget act1)) σ1 → Code.rounds P c Q n a1 w1 := by
      intro n
      induction n with
      | zero => intro _ _ _ _ _ _ _ _ _ h; exact h.elim
      | succ n ihn =>
        intro act1 σ1 M1 w1 a1 ha1 hs hr1 hst h1
        unfold rounds at h1
        simp only at h1
        rw [app_lam (by simp)] at h1
        obtain ⟨r1, r2⟩ := same_rejoin hin hs ha1
        rw [rounds_succ]
        refine ih hok r1 hr1 h1 fun e' act' σ' M' w' a' m1 ms m2 m3 m4 => ?_
        have hs' : Same (defsC c) act act' := (rejoin_same hin).trans ms
        cases e' with
        | normal =>
          simp only at m1
          rw [app_lam (by simp)] at m1
          exact ihn act' σ' M' w' a' m2 hs' m3 (hst.trans m4) m1
        | exit j => exact hq (.exit j) act' σ' M' w' a' m1 hs' m2 m3 (hst.trans m4)
        | ret => exact hq .ret act' σ' M' w' a' m1 hs' m2 m3 (hst.trans m4)
    exact key n act σ M w a ha (Same.refl _ _) hr (Step.refl _ _ _) hn
  | _ => intros; rename_i h _; exact h.elim
end Go.Am
end
section
/- The abstract machine, part 29: a function's body, printed, as a call. No program in sight. -/
set_option linter.all false
namespace Go.Am
open Go.RowKit
variable {P : Program}

/-- The results, one behind the other. -/
def resH (P : Program) (a : List Value) (σ : Store) : List ResultVar → (List Value → Prop) → Prop
  | [], K => K []
  | .tmp t :: rs, K => resH P a σ rs fun vs => K (aget a t :: vs)
  | .cell t ty :: rs, K => match tAgg P ty, tSize P ty with
    | some b, some n => vop (loadV b n (aget a t) σ.get) σ fun v _ => resH P a σ rs fun vs => K (v :: vs)
    | _, _ => False
theorem resH_spec {a : List Value} {σ : Store} : ∀ {rs : List ResultVar} {K : List Value → Prop}, resH P a σ rs K → ∃ vs, resVs P a σ rs = some vs ∧ K vs
  | [], K, h => ⟨[], rfl, h⟩
  | .tmp t :: rs, K, h => by
    obtain ⟨vs, h1, h2⟩ := resH_spec (rs := rs) h
    exact ⟨aget a t :: vs, by simp [resVs, resV, h1], h2⟩
  | .cell t ty :: rs, K, h => by
    unfold resH at h
    split at h
    · rename_i b n hb hn
      unfold vop at h
      split at h
      · rename_i v hv
        obtain ⟨vs, h1, h2⟩ := resH_spec (rs := rs) h
        exact ⟨v :: vs, by simp [resVs, resV, hb, hn, hv, h1], h2⟩
      · exact h.elim
    · exact h.elim
def useR (m : Nat) (r : ResultVar) : Nat := match r with | .tmp t => Nat.lor m (Nat.shiftLeft 1 t) | .cell t _ => Nat.lor m (Nat.shiftLeft 1 t)
def startU (fn : Func) : Lv := (fun m => ⟨m, [], m⟩) (fn.results.toList.foldl useR 0)
def bodyH (P : Program) (fn : Func) (args : List Value) (σ : Store) (K : Value → Store → Prop) : Prop :=
  match fn.body with
  | none => False
  | some c => codeH P c (Nat.sub (Nat.shiftLeft 1 args.length) 1) (startU fn) (fun e a σ => match e with
      | .exit _ => False
      | _ => resH P a σ fn.results.toList fun vs => K (resOne vs) σ) (args ++ List.replicate (fn.ntmps - args.length) junk) σ

theorem act_start {M : Places} {args : List Value} {cargs : Array Value} (hargs : VRs M args cargs) {n : Nat} {b : Array Value} (hb : b = cargs ++ Array.replicate (n - cargs.size) undef) : ActR [] M (args ++ List.replicate (n - args.length) junk) ⟨b, []⟩ := by
  subst hb
  have hlen := hargs.1
  refine ⟨fun t v hv => ?_, rfl⟩
  rw [List.getElem?_append] at hv
  split at hv
  · rename_i ht
    have hct : cargs[t]? = some cargs[t] := Array.getElem?_eq_getElem (by omega)
    exact ⟨cargs[t], by rw [Array.getElem?_append_left (by omega)]; exact hct, hargs.2 t v _ hv hct⟩
  · rename_i ht
    rw [List.getElem?_replicate] at hv
    split at hv
    · rename_i ht2
      cases hv
      refine ⟨undef, ?_, .junk _⟩
      rw [Array.getElem?_append_right (by omega), Array.getElem?_replicate, if_pos (by omega)]
    · cases hv
theorem res_rel {M : Places} {vs us : List Value} (hlen : vs.length = us.length) (hvals : ∀ (i : Nat) (v v' : Value), vs[i]? = some v → us[i]? = some v' → VR M false v v') : VR M false (resOne vs) (resOne us) := by
  match vs, us, hlen, hvals with
  | [], [], _, _ => exact .tuple _ _ rfl fun i v v' hv => by simp at hv
  | [v], [u], _, hvals => exact hvals 0 v u rfl rfl
  | v :: v2 :: r, u :: u2 :: q, hlen, hvals =>
    refine .tuple _ _ (by simpa using hlen) fun i v v' hv hv' => ?_
    rw [List.getElem?_toArray] at hv hv'
    exact hvals i v v' hv hv'

/-- Whatever comes of a call is so. -/
def DoesD (P : Program) (f : FuncId) (args : List Value) (σ : Store) (Q : Value → Store → Prop) : Prop :=
  ∀ M w cargs, Rel M σ w → VRs M args cargs → Calls P f cargs w fun e w' => ∃ r σ' M' v, Q r σ' ∧ e = .returned v ∧ VR M' false r v ∧ Rel M' σ' w' ∧ Step σ M w σ' M' w'
theorem doesD_of_body {f : FuncId} {fn : Func} {args : List Value} {σ : Store} {Q : Value → Store → Prop} (hf : P.funcs[f]? = some fn) (hok : okFn P fn = true) (h : bodyH P fn args σ Q) : DoesD P f args σ Q := by
  intro M w cargs hr hargs
  unfold okFn at hok
  unfold bodyH at h
  cases hb : fn.body with
  | none => rw [hb] at h; exact h.elim
  | some c =>
    rw [hb] at hok h
    simp only at hok h
    refine calls_of_wp hf hb (codeH_sound (ds := []) hok (M := M) (act_start hargs rfl) hr h fun e act' σ2 M' w' b' k1 _ k2 k3 k4 => ?_)
    have hpost : ∃ vs, (∀ j, e ≠ .exit j) ∧ resVs P act' σ2 fn.results.toList = some vs ∧ Q (resOne vs) σ2 := by
      cases e with
      | exit j => exact k1.elim
      | normal => obtain ⟨vs, h1, h2⟩ := resH_spec k1; exact ⟨vs, by simp, h1, h2⟩
      | ret => obtain ⟨vs, h1, h2⟩ := resH_spec k1; exact ⟨vs, by simp, h1, h2⟩
    obtain ⟨vs, hne, hvs, hQ⟩ := hpost
    obtain ⟨us, hres, hlen, hvals⟩ := run_results (P := P) k2 k3 hvs
    have fin : bodyPost P fn (fun e w' => ∃ r σ' M' v, Q r σ' ∧ e = .returned v ∧ VR M' false r v ∧ Rel M' σ' w' ∧ Step σ M w σ' M' w') .normal b' w' := ⟨k2.none_, _, hres, _, _, M', _, hQ, rfl, res_rel hlen hvals, k3, k4⟩
    cases e with
    | exit j => exact absurd rfl (hne j)
    | normal => exact fin
    | ret => exact fin
theorem does_of_body {f : FuncId} {fn : Func} {args : List Value} {σ : Store} {Q : Value → Store → Prop} (hf : P.funcs[f]? = some fn) (hok : okFn P fn = true) (hnn : noNextFn fn = true) (h : bodyH P fn args σ Q) : Does P f args σ Q := by
  have hlin : ∃ r σ', Q r σ' ∧ σ.next ≤ σ'.next ∧ bodyH P fn args σ fun r2 σ2 => r2 = r ∧ σ2 = σ' := by
    unfold bodyH at h ⊢
    split at h
    · exact h.elim
    · rename_i c hb
      unfold noNextFn at hnn
      rw [hb] at hnn
      obtain ⟨e, a', σ', h1, hn, h2⟩ := codeH_lin hnn h
      have hpost : ∃ vs, (∀ j, e ≠ .exit j) ∧ resVs P a' σ' fn.results.toList = some vs ∧ Q (resOne vs) σ' ∧ resH P a' σ' fn.results.toList fun us => resOne us = resOne vs := by
        have key : ∀ {rs : List ResultVar} {K : List Value → Prop}, resH P a' σ' rs K → ∃ vs, resVs P a' σ' rs = some vs ∧ K vs ∧ ∀ K' : List Value → Prop, K' vs → resH P a' σ' rs K' := by
          intro rs
          induction rs with
          | nil => intro K h; exact ⟨[], rfl, h, fun K' h => h⟩
          | cons r rs ih =>
            intro K h
            cases r with
            | tmp t =>
              obtain ⟨vs, k1, k2, k3⟩ := ih h
              exact ⟨aget a' t :: vs, by simp [resVs, resV, k1], k2, fun K' hK => k3 (fun vs => K' (aget a' t :: vs)) hK⟩
            | cell t ty =>
              unfold resH at h
              split at h
              · rename_i b n hb hn
                unfold vop at h
                split at h
                · rename_i v hv
                  obtain ⟨vs, k1, k2, k3⟩ := ih h
                  refine ⟨v :: vs, by simp [resVs, resV, hb, hn, hv, k1], k2, fun K' hK => ?_⟩
                  unfold resH
                  simp only [hb, hn, vop, hv]
                  exact k3 (fun vs => K' (v :: vs)) hK
                · exact h.elim
              · exact h.elim
        cases e with
        | exit j => exact h1.elim
        | normal => obtain ⟨vs, k1, k2, k3⟩ := key h1; exact ⟨vs, by simp, k1, k2, k3 _ rfl⟩
        | ret => obtain ⟨vs, k1, k2, k3⟩ := key h1; exact ⟨vs, by simp, k1, k2, k3 _ rfl⟩
      obtain ⟨vs, hne, hvs, hQ, hre⟩ := hpost
      refine ⟨resOne vs, σ', hQ, hn, codeH_mono (fun e2 a2 s2 hh => ?_) h2⟩
      obtain ⟨rfl, rfl, rfl⟩ := hh
      have hre' : resH P a2 s2 fn.results.toList fun us => resOne us = resOne vs ∧ s2 = s2 := by
        have e : (fun us : List Value => resOne us = resOne vs ∧ s2 = s2) = fun us => resOne us = resOne vs := funext fun us => by simp
        rw [e]; exact hre
      cases e2 with
      | exit j => exact absurd rfl (hne j)
      | normal => exact hre'
      | ret => exact hre'
  obtain ⟨r, σ', hQ, hn, hb⟩ := hlin
  refine ⟨r, σ', ⟨hn, fun M w cargs hr hargs => Calls.mono (doesD_of_body hf hok hb M w cargs hr hargs) ?_⟩, hQ⟩
  rintro e w' ⟨r2, σ2, M', v, ⟨rfl, rfl⟩, h1, h2, h3, h4⟩
  exact ⟨M', v, h1, h2, h3, h4⟩
/-- Where all that may come is one thing, but for what is let go. -/
theorem DoesD.does {f : FuncId} {args : List Value} {σ σ' : Store} {r : Value} {Q : Value → Store → Prop} (hn : σ.next ≤ σ'.next) (h : DoesD P f args σ fun r2 σ2 => r2 = r ∧ σ2.next = σ'.next ∧ ∀ i o, σ'.get i = some o → σ2.get i = some o) (hq : Q r σ') : Does P f args σ Q := by
  refine ⟨r, σ', ⟨hn, fun M w cargs hr ha => Calls.mono (h M w cargs hr ha) ?_⟩, hq⟩
  rintro e w' ⟨r2, σ2, M', v, ⟨rfl, h0, hg⟩, h1, h2, h3, h4⟩
  refine ⟨M', v, h1, h2, h3.less h0.symm hg, hn, h4.le, h4.size, h4.frame, fun b hb ho => h4.owned b hb ?_, fun i c hi => h4.lent i c (hg i _ hi), h4.os, h4.tape, h4.output⟩
  obtain ⟨i, o, l, k1, k2, k3, k4⟩ := ho
  exact ⟨i, o, l, hg i o k1, k2, k3, k4⟩
end Go.Am
end
