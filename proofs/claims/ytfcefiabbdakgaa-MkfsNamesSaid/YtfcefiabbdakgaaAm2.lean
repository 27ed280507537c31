/- The abstract machine, part 2: what one operation does. No program in sight. -/
import Derived.Test.YtfcefiabbdakgaaAm1
import Derived.ChangeKeysEq
import Derived.Laws.StructEq
set_option linter.all false
namespace Go.Am

/-! ## types -/
def tAgg (P : Program) (t : TypeId) : Option Bool :=
  match P.underlying t with
  | some (.struct _) | some (.array _ _) => some true
  | some _ => some false
  | none => none
def tSize (P : Program) (t : TypeId) : Option Nat := (P.info? t).map (·.size)
def tBytes (P : Program) (t : TypeId) : Option Nat := (P.info? t).map (·.bytes)
def tZero (P : Program) (t : TypeId) : Option Value := (P.info? t).bind (·.zero)
def tZeros (P : Program) (t : TypeId) : Option (List Value) := (tZero P t).bind cellsL

/-! ## parts -/
/-- A part of a row of cells, as a value. -/
def part? (agg : Bool) (n : Nat) (xs : List Value) (off : Nat) : Option Value :=
  bif agg then (bif Nat.ble (off + n) xs.length then some (.agg ((xs.drop off).take n).toArray) else none) else xs[off]?
/-- A list with others laid over it. -/
def splice (xs : List Value) (off : Nat) (vs : List Value) : List Value :=
  match off with
  | 0 => vs ++ xs.drop vs.length
  | _ => xs.take off ++ vs ++ xs.drop (off + vs.length)
def asCells (n : Nat) (v : Value) : Option (List Value) :=
  match cellsL v with
  | some vs => bif vs.length == n then some vs else none
  | none => none
/-- The parts of a composite. -/
def buildL : List (List Value) → List (Nat × Value) → Option (List (List Value))
  | fs, [] => some fs
  | fs, (i, v) :: r =>
    match fs[i]? with
    | none => none
    | some z =>
      match asCells z.length v with
      | none => none
      | some c => buildL (fs.set i c) r
/-- A row of cells cut by sizes. -/
def cutL : List Nat → List Value → List (List Value)
  | [], _ => []
  | n :: ns, xs => xs.take n :: cutL ns (xs.drop n)
def fieldSizes (P : Program) : List Field → Option (List Nat)
  | [] => some []
  | f :: fs =>
    match tSize P f.type, fieldSizes P fs with
    | some n, some ns => some (n :: ns)
    | _, _ => none
def buildAgg (P : Program) (t : TypeId) (parts : List (Nat × Value)) : Option Value :=
  match P.underlying t, tZeros P t with
  | some (.struct fields), some z =>
    match fieldSizes P fields.toList with
    | none => none
    | some ns => (buildL (cutL ns z) parts).map fun fs => .agg fs.flatten.toArray
  | some (.array n elem), some _ =>
    match tZeros P elem with
    | none => none
    | some ze => (buildL (List.replicate n ze) parts).map fun fs => .agg fs.flatten.toArray
  | _, _ => none

/-! ## equality -/
def eqInts (k : IntKind) : Nat → List Value → List Value → Option Bool
  | 0, _, _ => some true
  | n + 1, .int j a :: xs, .int j' b :: ys =>
    bif j == k && j' == k then
      match eqInts k n xs ys with
      | some r => some (decide (a = b) && r)
      | none => none
    else none
  | _, _, _ => none
/-- Values of one cell, none of them an id. -/
def eq1 : TypeDesc → Value → Value → Option Bool
  | .int _, .int k a, .int k' b => bif k == k' then some (a == b) else none
  | .bool, .bool a, .bool b => some (a == b)
  | .string, .string a, .string b => some (a == b)
  | .pointer _, .pointer none, .pointer b => some b.isNone
  | .pointer _, .pointer (some _), .pointer none => some false
  | _, _, _ => none
def eqFs (P : Program) (eq : TypeId → List Value → List Value → Option Bool) : List Field → List Value → List Value → Option Bool
  | [], _, _ => some true
  | fl :: fs, xs, ys =>
    bif fl.name == "_" then none else
    match tSize P fl.type with
    | none => none
    | some n =>
      match eq fl.type ((xs.drop fl.offset).take n) ((ys.drop fl.offset).take n), eqFs P eq fs xs ys with
      | some a, some b => some (a && b)
      | _, _ => none
def eqIs (eq : List Value → List Value → Option Bool) (c : Nat) : Nat → List Value → List Value → Option Bool
  | 0, _, _ => some true
  | n + 1, xs, ys =>
    match eq (xs.take c) (ys.take c), eqIs eq c n (xs.drop c) (ys.drop c) with
    | some a, some b => some (a && b)
    | _, _ => none
def eqLeaf (d : TypeDesc) : List Value → List Value → Option Bool
  | x :: _, y :: _ => eq1 d x y
  | _, _ => none
def eqL (P : Program) : Nat → TypeId → List Value → List Value → Option Bool
  | 0, _, _, _ => none
  | f + 1, t, xs, ys =>
    match P.underlying t with
    | some (.struct fs) => bif P.stoodInHeld t then none else eqFs P (eqL P f) fs.toList xs ys
    | some (.array n e) =>
      match P.underlying e, tSize P e with
      | some (.int k), some 1 => eqInts k n xs ys
      | some _, some c => eqIs (eqL P f e) c n xs ys
      | _, _ => none
    | some d => eqLeaf d xs ys
    | none => none

/-- How deep equality looks. -/
def eqFuel : Nat := 12
/-- x == y, where no id is looked at. -/
def eqV (P : Program) (t : TypeId) (x y : Value) : Option Bool :=
  match P.underlying t, x, y with
  | some (.slice _), .slice none _ _, .slice b _ _ => some b.isNone
  | some (.slice _), .slice (some _) _ _, .slice none _ _ => some false
  | some (.map _ _), .map none, .map b => some b.isNone
  | some (.map _ _), .map (some _), .map none => some false
  | some (.func _ _ _), .nilFunc, .nilFunc => some true
  | some (.func _ _ _), .nilFunc, .func _ _ _ => some false
  | some (.func _ _ _), .func _ _ _, .nilFunc => some false
  | some (.struct _), .agg xs, .agg ys => eqL P eqFuel t xs.toList ys.toList
  | some (.array _ _), .agg xs, .agg ys => eqL P eqFuel t xs.toList ys.toList
  | some d, x, y => eq1 d x y
  | none, _, _ => none
/-- Are two ids' cells one place? -/
def eqP (a b : Addr) (g : Nat → Option SObj) : Option Bool :=
  bif a.spot.isSome || b.spot.isSome then none else
  match g a.block, g b.block with
  | some (.cells _ none), some (.cells _ none) => some (a.block == b.block && a.off == b.off)
  | _, _ => none

/-! ## numbers -/
def isDiv : BinOp → Bool
  | .quo | .rem => true
  | _ => false
/-- Of numbers. -/
def intOp (op : BinOp) (k : IntKind) (x y : Int) : Option Value :=
  match op with
  | .add => some (.int k (k.wrap (x + y)))
  | .sub => some (.int k (k.wrap (x - y)))
  | .mul => some (.int k (k.wrap (x * y)))
  | .quo => if y = 0 then none else some (.int k (k.wrap (x.tdiv y)))
  | .rem => if y = 0 then none else some (.int k (x.tmod y))
  | .and => some (.int k (k.wrap (BitVec.ofInt k.bits x &&& BitVec.ofInt k.bits y).toNat))
  | .or => some (.int k (k.wrap (BitVec.ofInt k.bits x ||| BitVec.ofInt k.bits y).toNat))
  | .xor => some (.int k (k.wrap (BitVec.ofInt k.bits x ^^^ BitVec.ofInt k.bits y).toNat))
  | .andNot => some (.int k (k.wrap (BitVec.ofInt k.bits x &&& ~~~ BitVec.ofInt k.bits y).toNat))
  | .eql => some (.bool (x == y))
  | .neq => some (.bool (x != y))
  | .lss => some (.bool (x < y))
  | .leq => some (.bool (x ≤ y))
  | .gtr => some (.bool (x > y))
  | .geq => some (.bool (x ≥ y))
  | _ => none
def shiftOp (op : BinOp) (k : IntKind) (x y : Int) : Option Value :=
  if y < 0 then none else
  match op with
  | .shl => some (.int k (k.wrap (x * 2 ^ (min y.toNat k.bits))))
  | .shr => some (.int k (x.fdiv (2 ^ (min y.toNat k.bits))))
  | _ => none
def strOp (op : BinOp) (x y : ByteArray) : Option Value :=
  match op with
  | .add => if ((x.size + y.size : Nat) : Int) > IntKind.i64.max then none else some (.string (x ++ y))
  | .eql => some (.bool (x.toList == y.toList))
  | .neq => some (.bool !(x.toList == y.toList))
  | .lss => some (.bool (Op.bytesLess x.toList y.toList))
  | .leq => some (.bool (Op.bytesLess x.toList y.toList || x.toList == y.toList))
  | .gtr => some (.bool !(Op.bytesLess x.toList y.toList || x.toList == y.toList))
  | .geq => some (.bool !Op.bytesLess x.toList y.toList)
  | _ => none
def unV (op : UnOp) (x : Value) : Option Value :=
  match op, x with
  | .not, .bool b => some (.bool !b)
  | .neg, .int k n => some (.int k (k.wrap (0 - n)))
  | .xor, .int k n => some (.int k (k.wrap (BitVec.ofInt k.bits (if k.signed then -1 else k.max) ^^^ BitVec.ofInt k.bits n).toNat))
  | _, _ => none

/-! ## actions -/
inductive Action where
  /-- A value. -/
  | val (v : Value)
  /-- What is read. -/
  | rd (f : (Nat → Option SObj) → Option Value)
  /-- Something new. -/
  | new (o : SObj) (mk : Nat → Value)
  /-- What writes. -/
  | eff (f : Store → Option (Value × Store))
  | call (f : FuncId) (args : List Value)

def ofVal : Option Value → Option Action
  | some v => some (.val v)
  | none => none

def ptrTo (i : Nat) : Value := .pointer (some ⟨i, 0, none⟩)

def binA (P : Program) (op : BinOp) (t : TypeId) (x y : Value) : Option Action :=
  match op, x, y with
  | .shl, .int k a, .int _ b => ofVal (shiftOp .shl k a b)
  | .shr, .int k a, .int _ b => ofVal (shiftOp .shr k a b)
  | op, .int k a, .int k' b => bif k == k' then ofVal (intOp op k a b) else none
  | op, .string a, .string b => ofVal (strOp op a b)
  | .eql, .pointer (some a), .pointer (some b) =>
    match P.underlying t with
    | some (.pointer el) => (match tSize P el with | some (_ + 1) => some (.rd fun g => (eqP a b g).map .bool) | _ => none)
    | _ => none
  | .neq, .pointer (some a), .pointer (some b) =>
    match P.underlying t with
    | some (.pointer el) => (match tSize P el with | some (_ + 1) => some (.rd fun g => (eqP a b g).map fun r => .bool !r) | _ => none)
    | _ => none
  | .eql, x, y => (eqV P t x y).map fun b => .val (.bool b)
  | .neq, x, y => (eqV P t x y).map fun b => .val (.bool !b)
  | _, _, _ => none

def bytesV (s : ByteArray) : List Value := s.data.toList.map fun b => .int .u8 b.toNat
/-- The cells of a slice become those of a new id, of cells that may not be compared by their place. -/
def handV (v : Value) (σ : Store) : Option (Value × Store) :=
  match v with
  | .slice (some ⟨i, o, none⟩) n c =>
    (match σ.get i with
    | some (.cells cs none) => bif Nat.blt 0 cs.length && Nat.ble (o + c) cs.length then some (.slice (some ⟨σ.next, o, some 1⟩) n c, (σ.put i none).push (.cells cs (some 1))) else none
    | _ => none)
  | _ => none


def fieldAddrV (P : Program) (t : TypeId) (x : Value) (f : Nat) : Option Value :=
  match P.underlying t with
  | some (.struct fs) =>
    match fs[f]?, x with
    | some fl, .pointer (some ⟨i, o, none⟩) =>
      match tSize P fl.type with
      | some (_ + 1) => some (.pointer (some ⟨i, o + fl.offset, none⟩))
      | _ => none
    | _, _ => none
  | _ => none
def fieldV (P : Program) (t : TypeId) (x : Value) (f : Nat) : Option Value :=
  match P.underlying t, x with
  | some (.struct fs), .agg xs =>
    match fs[f]? with
    | none => none
    | some fl =>
      match tAgg P fl.type, tSize P fl.type with
      | some b, some n => part? b n xs.toList fl.offset
      | _, _ => none
  | _, _ => none
def indexAddrV (P : Program) (t : TypeId) (x i : Value) : Option Value :=
  match i, x with
  | .int _ i, .pointer (some ⟨b, o, none⟩) =>
    match P.underlying t with
    | some (.array n e) =>
      match tSize P e with
      | some c => if 0 ≤ i ∧ i < n then some (.pointer (some ⟨b, o + i.toNat * c, none⟩)) else none
      | _ => none
    | _ => none
  | .int _ i, .slice (some ⟨b, o, s⟩) n _ =>
    match P.underlying t with
    | some (.slice e) =>
      match tSize P e with
      | some c => bif s == none || s == some c then (if 0 ≤ i ∧ i < n then some (.pointer (some ⟨b, o + i.toNat * c, none⟩)) else none) else none
      | _ => none
    | _ => none
  | _, _ => none
def indexV (P : Program) (t : TypeId) (x i : Value) : Option Value :=
  match P.underlying t, x, i with
  | some (.array n e), .agg xs, .int _ i =>
    match tAgg P e, tSize P e with
    | some b, some c => if 0 ≤ i ∧ i < n then part? b c xs.toList (i.toNat * c) else none
    | _, _ => none
  | some .string, .string s, .int _ i => if 0 ≤ i then (s[i.toNat]?).map fun b => .int .u8 b.toNat else none
  | _, _, _ => none
def bound (x : Option Value) (dflt top : Nat) : Option Nat :=
  match x with
  | none => some dflt
  | some (.int _ i) => if 0 ≤ i ∧ i ≤ top then some i.toNat else none
  | some _ => none
def sliceV (P : Program) (t : TypeId) (x : Value) (lo hi mx : Option Value) : Option Value :=
  match mx, P.underlying t, x with
  | none, some (.array n e), .pointer (some ⟨b, o, none⟩) =>
    match bound hi n n, tSize P e with
    | some h, some c =>
      match bound lo 0 h with
      | some l => bif n == l then none else some (.slice (some ⟨b, o + l * c, none⟩) (h - l) (n - l))
      | none => none
    | _, _ => none
  | none, some (.slice e), .slice (some ⟨b, o, s⟩) n k =>
    match bound hi n k, tSize P e with
    | some h, some c =>
      bif s == none || s == some c then
        match bound lo 0 h with
        | some l => bif (k == l && !(l == 0)) || !Nat.ble h k then none else some (.slice (some ⟨b, o + l * c, s⟩) (h - l) (k - l))
        | none => none
      else none
    | _, _ => none
  | none, some (.slice e), .slice none n k =>
    match bound hi n k, tSize P e with
    | some h, some _ =>
      match bound lo 0 h with
      | some l => some (.slice none (h - l) (k - l))
      | none => none
    | _, _ => none
  | none, some .string, .string s =>
    match bound hi s.size s.size with
    | some h =>
      match bound lo 0 h with
      | some l => some (.string (s.extract l h))
      | none => none
    | none => none
  | _, _, _ => none
/-- The cells from an address on. -/
def cellsAt (a : Addr) (σ : Store) : Option (List Value) :=
  match σ.get a.block with
  | some (.cells c _) => some (c.drop a.off)
  | some (.lent c) => some (c.drop a.off)
  | _ => none
def loadV (agg : Bool) (n : Nat) (x : Value) (g : Nat → Option SObj) : Option Value :=
  match x with
  | .pointer (some ⟨i, o, none⟩) =>
    match g i with
    | some (.cells c _) => part? agg n c o
    | some (.lent c) => part? agg n c o
    | _ => none
  | _ => none
def storeV (n : Nat) (x v : Value) (σ : Store) : Option (Value × Store) :=
  match x, asCells n v with
  | .pointer (some ⟨i, o, none⟩), some vs =>
    match σ.get i with
    | some (.cells c g) => bif Nat.ble (o + n) c.length then some (junk, σ.put i (some (.cells (splice c o vs) g))) else none
    | _ => none
  | _, _ => none
def keyDesc (P : Program) (t : TypeId) : Option TypeDesc :=
  match P.underlying t with
  | some (.int k) => some (.int k)
  | some .string => some .string
  | some .bool => some .bool
  | _ => none
def lookupV (P : Program) (t : TypeId) (x k : Value) (ok : Bool) (g : Nat → Option SObj) : Option Value :=
  match P.underlying t with
  | some (.map kt et) =>
    match keyDesc P kt, tZero P et with
    | some d, some z =>
      match (match x with
        | .map none => some []
        | .map (some r) => (match g r with | some (.map es _) => some es | _ => none)
        | _ => none) with
      | none => none
      | some es =>
        match Instr.findNow d k es 0 with
        | none => none
        | some (some (_, v)) => some (bif ok then .tuple #[v, .bool true] else v)
        | some none => some (bif ok then .tuple #[z, .bool false] else z)
    | _, _ => none
  | _ => none
def mapUpdateV (P : Program) (t : TypeId) (x k v : Value) (σ : Store) : Option (Value × Store) :=
  match P.underlying t, x with
  | some (.map kt _), .map (some r) =>
    match keyDesc P kt, σ.get r with
    | some d, some (.map es ck) =>
      match Instr.findNow d k es 0 with
      | none => none
      | some (some (i, _)) => some (junk, σ.put r (some (.map (es.modify i fun e => { e with key := k, val := v }) ck)))
      | some none => some (junk, σ.put r (some (.map (es ++ [{ key := k, val := v, born := ck }]) (ck + 1))))
    | _, _ => none
  | _, _ => none
def mapEntryV (P : Program) (t : TypeId) (x k : Value) (σ : Store) : Option (Value × Store) :=
  match P.underlying t, x with
  | some (.map kt et), .map (some r) =>
    match keyDesc P kt, σ.get r, tZero P et with
    | some d, some (.map es ck), some z =>
      match Instr.findNow d k es 0 with
      | none => none
      | some (some (i, v)) => some (.tuple #[v, .int .i64 ((es[i]?.map (·.born)).getD 0 : Nat)], σ.put r (some (.map (es.modify i fun e => { e with key := k }) ck)))
      | some none => some (.tuple #[z, .int .i64 (ck : Nat)], σ.put r (some (.map (es ++ [{ key := k, val := z, born := ck }]) (ck + 1))))
    | _, _, _ => none
  | _, _ => none
def entryStoreV (x s v : Value) (σ : Store) : Option (Value × Store) :=
  match x, s with
  | .map (some r), .int _ s =>
    match σ.get r with
    | some (.map es ck) =>
      match es.findIdx? (fun e => decide ((e.born : Int) = s)) with
      | some i => some (junk, σ.put r (some (.map (es.modify i fun e => { e with val := v }) ck)))
      | none => none
    | _ => none
  | _, _ => none
def deleteV (P : Program) (t : TypeId) (x k : Value) (σ : Store) : Option (Value × Store) :=
  match P.underlying t, x with
  | some (.map kt _), .map none => (match keyDesc P kt with | some _ => some (junk, σ) | none => none)
  | some (.map kt _), .map (some r) =>
    match keyDesc P kt, σ.get r with
    | some d, some (.map es ck) =>
      match Instr.findNow d k es 0 with
      | none => none
      | some (some (i, _)) => some (junk, σ.put r (some (.map (es.eraseIdx i) ck)))
      | some none => some (junk, σ.put r (some (.map es ck)))
    | _, _ => none
  | _, _ => none
def clearV (x : Value) (σ : Store) : Option (Value × Store) :=
  match x with
  | .map none => some (junk, σ)
  | .map (some r) =>
    match σ.get r with
    | some (.map _ ck) => some (junk, σ.put r (some (.map [] ck)))
    | _ => none
  | _ => none
/-- So many elements of a slice, or of a string. -/
def sourceV (sz n : Nat) (x : Value) (σ : Store) : Option (List Value) :=
  match x with
  | .slice none _ _ => bif n == 0 then some [] else none
  | .slice (some a) _ _ =>
    match cellsAt a σ with
    | some c => bif Nat.ble (n * sz) c.length then some (c.take (n * sz)) else none
    | none => none
  | .string s => bif sz == 1 && Nat.ble n s.size then some ((s.data.toList.take n).map fun b => .int .u8 b.toNat) else none
  | _ => none
def lenV : Value → Option Nat
  | .slice _ n _ => some n
  | .string s => some s.size
  | _ => none
/-- append: what is put behind may lie in the room that an append made before: then the older id is no more. -/
def appendV (sz bytes : Nat) (s x : Value) (σ : Store) : Option (Value × Store) :=
  match lenV x with
  | none => none
  | some m =>
    match sourceV sz m x σ with
    | none => none
    | some news =>
      match s with
      | .slice none 0 0 =>
        match m with
        | 0 => some (s, σ)
        | _ => bif Nat.ble (m * bytes) 140737488355328 && Nat.ble m 9223372036854775807 then some (.slice (some ⟨σ.next, 0, some sz⟩) m m, σ.push (.cells news (some sz))) else none
      | .slice (some ⟨i, o, g⟩) n c =>
        match σ.get i with
        | some (.cells cs g') =>
          bif g == none || (g == some sz && g' == some sz) then
            match m with
            | 0 => bif Nat.ble n c then some (s, σ) else none
            | _ =>
              bif Nat.ble (n + m) c then
                (bif Nat.ble (o + (n + m) * sz) cs.length then some (.slice (some ⟨i, o, g⟩) (n + m) c, σ.put i (some (.cells (splice cs (o + n * sz) news) g'))) else none)
              else
                bif Nat.ble ((n + m) * bytes) 140737488355328 && Nat.ble (n + m) 9223372036854775807 && Nat.ble (o + n * sz) cs.length then
                  some (.slice (some ⟨σ.next, 0, some sz⟩) (n + m) (n + m),
                    (match g with | none => σ | some _ => σ.put i none).push (.cells ((cs.drop o).take (n * sz) ++ news) (some sz)))
                else none
          else none
        | some (.lent cs) =>
          match m with
          | 0 => bif g.isNone && Nat.ble n c then some (s, σ) else none
          | _ =>
            bif Nat.ble (n + m) c || g.isSome then none
            else
              bif Nat.ble ((n + m) * bytes) 140737488355328 && Nat.ble (n + m) 9223372036854775807 && Nat.ble (o + n * sz) cs.length then
                some (.slice (some ⟨σ.next, 0, some sz⟩) (n + m) (n + m), σ.push (.cells ((cs.drop o).take (n * sz) ++ news) (some sz)))
              else none
        | _ => none
      | _ => none
def copyV (sz : Nat) (d x : Value) (σ : Store) : Option (Value × Store) :=
  match d, lenV x with
  | .slice none n _, some m => bif Nat.min m n == 0 then (match sourceV sz 0 x σ with | some _ => some (.int .i64 (0 : Nat), σ) | none => none) else none
  | .slice (some ⟨i, o, _⟩) n _, some m =>
    match sourceV sz (Nat.min m n) x σ, σ.get i with
    | some news, some (.cells cs g) =>
      bif Nat.ble (o + news.length) cs.length then some (.int .i64 (Nat.min m n : Nat), σ.put i (some (.cells (splice cs o news) g))) else none
    | _, _ => none
  | _, _ => none
def minMaxV (mx : Bool) : List Value → Option Value
  | .int k n :: r => r.foldl (fun acc y => match acc, y with
    | some (.int k a), .int _ b => some (.int k (bif mx then (if b > a then b else a) else (if b < a then b else a)))
    | _, _ => none) (some (.int k n))
  | _ => none
def builtinA (P : Program) (b : Builtin) (ts : List TypeId) (args : List Value) : Option Action :=
  match b, ts, args with
  | .append, [t, t1], [s, x] =>
    match P.underlying t, (match P.underlying t1 with | some (.slice _) => true | some .string => true | _ => false) with
    | some (.slice e), true =>
      (match tSize P e, tBytes P e, tZeros P e with
      | some (sz + 1), some by_, some ze => bif ze.length == sz + 1 then some (.eff fun σ => appendV (sz + 1) by_ s x σ) else none
      | _, _, _ => none)
    | _, _ => none
  | .len, [t], [x] =>
    match P.underlying t, x with
    | some .string, .string s => some (.val (.int .i64 (s.size : Nat)))
    | some (.array n _), _ => some (.val (.int .i64 (n : Nat)))
    | some (.slice _), .slice _ n _ => some (.val (.int .i64 (n : Nat)))
    | some (.map _ _), .map none => some (.val (.int .i64 0))
    | some (.map _ _), .map (some r) => some (.rd fun g => match g r with | some (.map es _) => some (.int .i64 (es.length : Nat)) | _ => none)
    | _, _ => none
  | .copy, [t, _], [d, x] =>
    match P.underlying t with
    | some (.slice e) => (match tSize P e with | some sz => some (.eff fun σ => copyV sz d x σ) | none => none)
    | _ => none
  | .clear, [t], [x] => (match P.underlying t with | some (.map _ _) => some (.eff fun σ => clearV x σ) | _ => none)
  | .delete, [t, _], [m, k] => some (.eff fun σ => deleteV P t m k σ)
  | .delete, [t], [m, k] => some (.eff fun σ => deleteV P t m k σ)
  | .max, _, args => ofVal (minMaxV true args)
  | .min, _, args => ofVal (minMaxV false args)
  | _, _, _ => none
def callable (P : Program) (f : FuncId) : Bool :=
  match P.funcs[f]? with
  | some fn => fn.name != "runtime.NumGoroutine" && fn.body.isSome
  | none => false
def action (P : Program) (o : Oper) (e : Operand → Value) : Option Action :=
  match o.op with
  | .move x => some (.val (e x))
  | .assign x => some (.val (e x))
  | .pick c a b => (match e c with | .bool t => some (.val (bif t then e a else e b)) | _ => none)
  | .alloc t => (match tZeros P t with | some z => some (.new (.cells z none) ptrTo) | none => none)
  | .box _ x => (match cellsL (e x) with | some cs => some (.new (.cells cs none) ptrTo) | none => none)
  | .build t parts => ofVal (buildAgg P t (parts.toList.map fun (i, x) => (i, e x)))
  | .buildSlice t n parts =>
    (match P.underlying t with
    | some (.slice el) =>
      (match tZeros P el with
      | some ze =>
        (match buildL (List.replicate n ze) (parts.toList.map fun (i, x) => (i, e x)) with
        | some fs => bif Nat.ble (n * ze.length) 16777216 then some (.new (.cells fs.flatten none) fun i => .slice (some ⟨i, 0, none⟩) n n) else none
        | none => none)
      | none => none)
    | _ => none)
  | .load t a => (match tAgg P t, tSize P t with | some b, some n => some (.rd fun g => loadV b n (e a) g) | _, _ => none)
  | .store t a v => (match tSize P t with | some n => some (.eff fun σ => storeV n (e a) (e v) σ) | none => none)
  | .nilCheck x => (match e x with | .pointer (some a) => some (.val (.pointer (some a))) | .func (.func f) xs ys => some (.val (.func (.func f) xs ys)) | _ => none)
  | .binOp op t x y _ => binA P op t (e x) (e y)
  | .unOp op _ x => ofVal (unV op (e x))
  | .convert src dst x =>
    (match P.underlying src, P.underlying dst, e x with
    | some _, some (.int k), .int _ n => some (.val (.int k (k.wrap n)))
    | some .string, some .string, .string s => some (.val (.string s))
    | some .string, some (.slice el), .string s => (match P.underlying el with | some (.int .u8) => some (.new (.cells (bytesV s) (some 1)) fun i => .slice (some ⟨i, 0, some 1⟩) s.size s.size) | _ => none)
    | some (.slice _), some (.slice el), v => (match P.underlying el with | some (.int .u8) => bif Nat.beq src dst then some (.eff fun σ => handV v σ) else none | _ => none)
    | _, _, _ => none)
  | .sliceToArrayPointer t x =>
    (match P.underlying t, e x with
    | some (.array n _), .slice (some ⟨i, o, _⟩) len _ => bif Nat.ble n len then some (.val (.pointer (some ⟨i, o, none⟩))) else none
    | _, _ => none)
  | .makeFunc (.func f) first captured => some (.val (.func (.func f) (first.map e) (captured.map e)))
  | .makeMap _ none => some (.new (.map [] 0) fun i => .map (some i))
  | .makeSlice t l c =>
    (match P.underlying t with
    | some (.slice el) =>
      (match tZeros P el, tBytes P el, e l, e c with
      | some ze, some by_, .int _ l, .int _ c => if 0 ≤ l ∧ l = c ∧ c ≤ 9223372036854775807 ∧ by_ * c ≤ 281474976710656 then some (.new (.cells (List.replicate c.toNat ze).flatten none) fun i => .slice (some ⟨i, 0, none⟩) c.toNat c.toNat) else none
      | _, _, _, _ => none)
    | _ => none)
  | .slice t x lo hi mx => ofVal (sliceV P t (e x) (lo.map e) (hi.map e) (mx.map e))
  | .fieldAddr t x f => ofVal (fieldAddrV P t (e x) f)
  | .field t x f => ofVal (fieldV P t (e x) f)
  | .indexAddr t x i => ofVal (indexAddrV P t (e x) (e i))
  | .index t x i => ofVal (indexV P t (e x) (e i))
  | .lookup t x k ok => some (.rd fun g => lookupV P t (e x) (e k) ok g)
  | .mapUpdate t m k v => some (.eff fun σ => mapUpdateV P t (e m) (e k) (e v) σ)
  | .mapEntry t m k => some (.eff fun σ => mapEntryV P t (e m) (e k) σ)
  | .entryStore _ m s v => some (.eff fun σ => entryStoreV (e m) (e s) (e v) σ)
  | .extract x i => (match e x with | .tuple vs => ofVal (vs[i]?) | _ => none)
  | .call c =>
    (match c.callee with
    | .builtin b => builtinA P b c.argTypes.toList (c.args.toList.map e)
    | .value f =>
      (match e f with
      | .func (.func g) first captured => bif callable P g then some (.call g (first.toList ++ c.args.toList.map e ++ captured.toList)) else none
      | _ => none)
    | .invoke _ _ => none)
  | _ => none
end Go.Am
