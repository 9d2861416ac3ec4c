/-
  A symbolic executor for the model's code, part B: one operation.
-/
import Derived.Test.YtpdgklkcjegkfaaGreatSxA
namespace Go.Sx
open Go

def nth {α : Type} : List α → Nat → Option α
  | [], _ => none
  | x :: xs, n => bif Nat.beq n 0 then some x else nth xs (Nat.pred n)

def dropN {α : Type} : Nat → List α → Option (List α)
  | 0, l => some l
  | _ + 1, [] => none
  | n + 1, _ :: xs => dropN n xs

def takeN {α : Type} : Nat → List α → Option (List α)
  | 0, _ => some []
  | _ + 1, [] => none
  | n + 1, x :: xs => match takeN n xs with
    | none => none
    | some l => some (x :: l)

/-- `ys` over the cells from `o` on. -/
def over {α : Type} : Nat → List α → List α → Option (List α)
  | 0, l, [] => some l
  | 0, [], _ :: _ => none
  | 0, _ :: xs, y :: ys => match over 0 xs ys with
    | none => none
    | some l => some (y :: l)
  | _ + 1, [], _ => none
  | n + 1, x :: xs, ys => match over n xs ys with
    | none => none
    | some l => some (x :: l)

def sliceL {α : Type} (o n : Nat) (l : List α) : Option (List α) :=
  match dropN o l with
  | none => none
  | some l => takeN n l

inductive OR where
  | v (x : AV) (s : AS)
  | call (f : FuncId) (args : List AV) (s : AS)
  | dfr (f : FuncId) (args : List AV) (s : AS)
  | fail
  deriving Inhabited

section
variable (P : Program)

def sz (t : TypeId) : Option Nat := (P.info? t).map (·.size)
def byt (t : TypeId) : Option Nat := (P.info? t).map (·.bytes)
def aggT (t : TypeId) : Option Bool := (P.underlying t).map fun | .struct _ | .array _ _ => true | _ => false
def zeroA (t : TypeId) : Option AV := (P.info? t).bind fun i => i.zero.bind ofV

def AS.cellsAt (s : AS) (i : Pos) : Option (List AV) :=
  match PT.get i s.heap with
  | some (.cells cs) => some cs
  | _ => none

def AS.put (s : AS) (i : Pos) (o : AObj) : AS := { s with heap := PT.set o i s.heap }
def AS.new (s : AS) (o : AObj) : AS := { s with heap := PT.set o s.next s.heap, next := s.next.succ }

def loadT (t : TypeId) (x : AV) (s : AS) : Option AV :=
  match x with
  | .ptr i o => match s.cellsAt i with
    | none => none
    | some cs => match aggT P t with
      | some false => nth cs o
      | some true => match sz P t with
        | none => none
        | some n => match sliceL o n cs with
          | some l => some (.agg l)
          | none => none
      | none => none
  | _ => none

def oneAll (l : List AV) : Bool := l.all AV.one

def storeT (t : TypeId) (a x : AV) (s : AS) : Option AS :=
  match a with
  | .ptr i o => match s.cellsAt i with
    | none => none
    | some cs => match sz P t with
      | none => none
      | some n => let xs := x.cells
        bif xs.length == n && oneAll xs then
          match over o cs xs with
          | some l => some (s.put i (.cells l))
          | none => none
        else none
  | _ => none

def fieldOf (t : TypeId) (f : Nat) : Option Field :=
  match P.underlying t with
  | some (.struct fs) => fs[f]?
  | _ => none

def partA (t : TypeId) (cs : List AV) (o : Nat) : Option AV :=
  match aggT P t with
  | some false => nth cs o
  | some true => match sz P t with
    | none => none
    | some n => match sliceL o n cs with
      | some l => some (.agg l)
      | none => none
  | none => none

/-- An index. -/
def idx : AV → Option Nat
  | .int _ (.ofNat n) => some n
  | _ => none

def fillA (place : Nat → Option (Nat × Nat)) : List AV → List (Nat × AV) → Option (List AV)
  | cells, [] => some cells
  | cells, (i, v) :: rest =>
    match place i with
    | none => none
    | some (off, size) =>
      let xs := v.cells
      bif xs.length == size then
        match over off cells xs with
        | some cells => fillA place cells rest
        | none => none
      else none

def placesOf (fs : Array Field) : Option (List (Nat × Nat)) := fs.toList.mapM (fun f => (P.info? f.type).map fun i => (f.offset, i.size))

def repl {α : Type} : Nat → List α → List α
  | 0, _ => []
  | n + 1, l => l ++ repl n l

def kindOf : AV → Option (IntKind × Int × Bool)
  | .int k n => some (k, n, false)
  | .sint k n => some (k, n, true)
  | _ => none

def mkInt (sym : Bool) (k : IntKind) (n : Int) : AV := bif sym then .sint k n else .int k n
def mkBool (sym : Bool) (b : Bool) : AV := bif sym then .sbool b else .bool b

/-- Operators on whole numbers. -/
def intOp (op : BinOp) (k : IntKind) (a : Int) (k' : IntKind) (b : Int) (sym sy : Bool) : Option AV :=
  match op with
  | .shl => bif sy then none else bif decide (b < 0) then none else some (mkInt sym k (k.wrap (a * 2 ^ (min b.toNat k.bits))))
  | .shr => bif sy then none else bif decide (b < 0) then none else some (mkInt sym k (a.fdiv (2 ^ (min b.toNat k.bits))))
  | op =>
    bif decide (k = k') then
      match op with
      | .add => some (mkInt sym k (k.wrap (a + b)))
      | .sub => some (mkInt sym k (k.wrap (a - b)))
      | .mul => some (mkInt sym k (k.wrap (a * b)))
      | .quo => bif sy then none else bif decide (b = 0) then none else some (mkInt sym k (k.wrap (a.tdiv b)))
      | .rem => bif sy then none else bif decide (b = 0) then none else some (mkInt sym k (a.tmod b))
      | .and => some (mkInt sym k (k.wrap (BitVec.ofInt k.bits a &&& BitVec.ofInt k.bits b).toNat))
      | .or => some (mkInt sym k (k.wrap (BitVec.ofInt k.bits a ||| BitVec.ofInt k.bits b).toNat))
      | .xor => some (mkInt sym k (k.wrap (BitVec.ofInt k.bits a ^^^ BitVec.ofInt k.bits b).toNat))
      | .andNot => some (mkInt sym k (k.wrap (BitVec.ofInt k.bits a &&& ~~~ BitVec.ofInt k.bits b).toNat))
      | .eql => some (mkBool sym (a == b))
      | .neq => some (mkBool sym (a != b))
      | .lss => some (mkBool sym (decide (a < b)))
      | .leq => some (mkBool sym (decide (a ≤ b)))
      | .gtr => some (mkBool sym (decide (a > b)))
      | .geq => some (mkBool sym (decide (a ≥ b)))
      | _ => none
    else none

/-- Equality of structs and arrays whose leaves are whole numbers, bools, strings; the second bool: is it symbolic? -/
def eqFs (eq : TypeId → AV → AV → Option (Bool × Bool)) (xs ys : List AV) : List Field → Option (Bool × Bool)
  | [] => some (true, false)
  | f :: fs =>
    bif f.name == "_" then none else
    match partA P f.type xs f.offset, partA P f.type ys f.offset with
    | some a, some b => match eq f.type a b with
      | some (p, s1) => match eqFs eq xs ys fs with
        | some (q, s2) => some (p && q, s1 || s2)
        | none => none
      | none => none
    | _, _ => none

def eqIs (eq : TypeId → AV → AV → Option (Bool × Bool)) (e : TypeId) (n : Nat) (xs ys : List AV) : Nat → Nat → Option (Bool × Bool)
  | 0, _ => some (true, false)
  | k + 1, i =>
    match partA P e xs (i * n), partA P e ys (i * n) with
    | some a, some b => match eq e a b with
      | some (p, s1) => match eqIs eq e n xs ys k (i + 1) with
        | some (q, s2) => some (p && q, s1 || s2)
        | none => none
      | none => none
    | _, _ => none

def eqT : Nat → TypeId → AV → AV → Option (Bool × Bool)
  | 0, _, _, _ => none
  | d + 1, t, x, y =>
    match P.underlying t with
    | some .bool => match x, y with
      | .bool a, .bool b => some (a == b, false)
      | _, _ => none
    | some (.int _) => match kindOf x, kindOf y with
      | some (k, a, s1), some (k', b, s2) => bif decide (k = k') then some (a == b, s1 || s2) else none
      | _, _ => none
    | some .string => match x, y with
      | .str a, .str b => some (a == b, false)
      | _, _ => none
    | some (.struct fs) => match x, y with
      | .agg xs, .agg ys => bif P.stoodInHeld t then none else eqFs P (eqT d) xs ys fs.toList
      | _, _ => none
    | some (.array n e) => match x, y, sz P e with
      | .agg xs, .agg ys, some m => eqIs P (eqT d) e m xs ys n 0
      | _, _, _ => none
    | _ => none

def eqV (t : TypeId) (lit : Bool) (x y : AV) : Option (Bool × Bool) :=
  match P.underlying t with
  | some .bool => match x, y with
    | .bool a, .bool b => some (a == b, false)
    | .sbool a, .bool b => some (a == b, true)
    | .bool a, .sbool b => some (a == b, true)
    | .sbool a, .sbool b => some (a == b, true)
    | _, _ => none
  | some .string => match x, y with
    | .str a, .str b => some (a.toList == b.toList, false)
    | _, _ => none
  | some (.pointer e) => match x, y with
    | .nilp, .nilp => some (true, false)
    | .nilp, .ptr _ _ => some (false, false)
    | .ptr _ _, .nilp => some (false, false)
    | .ptr i o, .ptr j q => match sz P e with
      | some n => bif Pos.eqb i j && !Nat.beq n 0 then some (Nat.beq o q, false) else none
      | none => none
    | _, _ => none
  | some (.slice _) => match x, y with
    | .nils, .nils => some (true, false)
    | .nils, .slc _ _ _ _ => some (false, false)
    | .slc _ _ _ _, .nils => some (false, false)
    | _, _ => none
  | some (.map _ _) => match x, y with
    | .nilm, .nilm => some (true, false)
    | .nilm, .map _ => some (false, false)
    | .map _, .nilm => some (false, false)
    | _, _ => none
  | some (.func _ _ _) => match x, y with
    | .nilf, .nilf => some (true, false)
    | .nilf, .fn _ _ _ => some (false, false)
    | .fn _ _ _, .nilf => some (false, false)
    | _, _ => none
  | some (.interface _) => match x, y with
    | .nili, .nili => bif lit then some (true, false) else none
    | .nili, .ifc _ _ => some (false, false)
    | .ifc _ _, .nili => some (false, false)
    | _, _ => none
  | some (.struct _) | some (.array _ _) => match x, y with
    | .agg xs, .agg ys => bif P.eqGuardType P.depth t then none else eqT P 12 t (.agg xs) (.agg ys)
    | _, _ => none
  | _ => none

def binA (op : BinOp) (t : TypeId) (lit : Bool) (x y : AV) : Option AV :=
  match kindOf x, kindOf y with
  | some (k, a, s1), some (k', b, s2) => intOp op k a k' b (s1 || s2) s2
  | _, _ =>
    match op with
    | .eql => match eqV P t lit x y with
      | some (b, sym) => some (mkBool sym b)
      | none => none
    | .neq => match eqV P t lit x y with
      | some (b, sym) => some (mkBool sym (!b))
      | none => none
    | .add => match x, y with
      | .str a, .str b => bif Nat.ble (a.size + b.size) 1000000 then some (.str (a ++ b)) else none
      | _, _ => none
    | _ => none

def unA (op : UnOp) (x : AV) : Option AV :=
  match op, x with
  | .not, .bool b => some (.bool (!b))
  | .not, .sbool b => some (.sbool (!b))
  | .neg, .int k n => some (.int k (k.wrap (0 - n)))
  | .neg, .sint k n => some (.sint k (k.wrap (0 - n)))
  | .xor, .int k n => some (.int k (k.wrap (BitVec.ofInt k.bits (if k.signed then -1 else k.max) ^^^ BitVec.ofInt k.bits n).toNat))
  | .xor, .sint k n => some (.sint k (k.wrap (BitVec.ofInt k.bits (if k.signed then -1 else k.max) ^^^ BitVec.ofInt k.bits n).toNat))
  | _, _ => none

/-- What is appended, copied: how many elements, their cells. -/
def elemsOf (size : Nat) (x : AV) (s : AS) : Option (Nat × List AV) :=
  match x with
  | .nils => some (0, [])
  | .slc i o n _ => match s.cellsAt i with
    | none => none
    | some cs => match sliceL o (n * size) cs with
      | some l => some (n, l)
      | none => none
  | .str b => bif Nat.beq size 1 then some (b.size, b.data.toList.map fun c => .int .u8 c.toNat) else none
  | _ => none

def appendA (e : TypeId) (base x : AV) (s : AS) : OR :=
  match sz P e, byt P e, zeroA P e with
  | some size, some bytes, some z =>
    bif Nat.beq size 0 || Nat.ble 1024 bytes || Nat.beq bytes 0 || !Nat.beq z.cells.length size then .fail else
    match elemsOf size x s with
    | none => .fail
    | some (n, new) =>
      bif !oneAll new then .fail else
      bif Nat.beq n 0 then
        match base with
        | .nils => .v .nils s
        | .slc i o len c => .v (.slc i o len c) s
        | _ => .fail
      else
      match base with
      | .nils => bif Nat.ble n 1000000 then .v (.slc s.next 0 n (.toEnd size)) (s.new (.cells new)) else .fail
      | .slc i o len c =>
        bif Nat.ble (len + n) 1000000 then
          match s.cellsAt i with
          | none => .fail
          | some cs =>
            match c with
            | .exact c =>
              bif Nat.ble (len + n) c then
                match over (o + len * size) cs new with
                | some l => .v (.slc i o (len + n) (.exact c)) (s.put i (.cells l))
                | none => .fail
              else
                match sliceL o (len * size) cs with
                | some old => .v (.slc s.next 0 (len + n) (.toEnd size)) (s.new (.cells (old ++ new)))
                | none => .fail
            | .toEnd z =>
              bif Nat.beq z size then
                match sliceL o (len * size) cs with
                | some old => .v (.slc s.next 0 (len + n) (.toEnd size)) ((s.put i .dead).new (.cells (old ++ new)))
                | none => .fail
              else .fail
        else .fail
      | _ => .fail
  | _, _, _ => .fail

def copyA (e : TypeId) (dst src : AV) (s : AS) : OR :=
  match sz P e with
  | none => .fail
  | some size =>
    match dst with
    | .nils => match elemsOf size src s with
      | some _ => .v (.int .i64 0) s
      | none => .fail
    | .slc i o dl _ =>
      match elemsOf size src s with
      | none => .fail
      | some (n, l) =>
        match s.cellsAt i with
        | none => .fail
        | some cs =>
          match takeN ((min n dl) * size) l with
          | none => .fail
          | some l => bif !oneAll l then .fail else match over o cs l with
            | some cs => .v (.int .i64 (min n dl : Nat)) (s.put i (.cells cs))
            | none => .fail
    | _ => .fail

def lenA (x : AV) : Option AV :=
  match x with
  | .nils => some (.int .i64 0)
  | .slc _ _ n _ => some (.int .i64 n)
  | .raw (.slice _ n _) => some (.sint .i64 n)
  | _ => none

/-- The lesser, the greater. -/
def mm (lt : Bool) (a b : Int) : Int := if (bif lt then decide (b < a) else decide (b > a)) then b else a

def minA (lt : Bool) (x y : AV) : Option AV :=
  match kindOf x, kindOf y with
  | some (k, a, s1), some (_, b, s2) => some (mkInt (s1 || s2) k (mm lt a b))
  | _, _ => none

def foldO {α β : Type} (f : β → α → Option β) : β → List α → Option β
  | b, [] => some b
  | b, x :: xs => match f b x with
    | none => none
    | some b => foldO f b xs

/-- `x[lo:hi:max]` of a slice or of an array behind a pointer: element size, place, length, capacity. -/
def sliceGo (size : Nat) (i : Pos) (o len : Nat) (c : Cap) (lo hi mx : Option Nat) : Option AV :=
  match c with
  | .exact c =>
    let m := mx.getD c
    let h := hi.getD len
    let l := lo.getD 0
    bif Nat.ble m c && Nat.ble h m && Nat.ble l h && (mx.isNone || hi.isSome) then
      some (.slc i (bif Nat.beq m l then o else o + l * size) (h - l) (.exact (m - l)))
    else none
  | .toEnd z =>
    let h := hi.getD len
    let l := lo.getD 0
    bif Nat.ble h len && Nat.ble l h then
      match mx with
      | none => bif Nat.beq z size then some (.slc i (o + l * size) (h - l) (.toEnd z)) else none
      | some m => bif Nat.ble m len && Nat.ble h m && hi.isSome then some (.slc i (bif Nat.beq m l then o else o + l * size) (h - l) (.exact (m - l))) else none
    else none

def optIdx : Option AV → Option (Option Nat)
  | none => some none
  | some x => match idx x with
    | some n => some (some n)
    | none => none

def sliceA (t : TypeId) (x : AV) (lo hi mx : Option AV) : Option AV :=
  match optIdx lo, optIdx hi, optIdx mx with
  | some lo, some hi, some mx =>
    match P.underlying t with
    | some (.array n e) => match x, sz P e with
      | .ptr i o, some size => sliceGo size i o n (.exact n) lo hi mx
      | _, _ => none
    | some (.slice e) => match x, sz P e with
      | .slc i o len c, some size => sliceGo size i o len c lo hi mx
      | .nils, some _ => bif Nat.beq (lo.getD 0) 0 && Nat.beq (hi.getD 0) 0 && Nat.beq (mx.getD 0) 0 && (mx.isNone || hi.isSome) then some .nils else none
      | _, _ => none
    | some .string => match x, mx with
      | .str b, none => bif Nat.ble (hi.getD b.size) b.size && Nat.ble (lo.getD 0) (hi.getD b.size) then some (.str (b.extract (lo.getD 0) (hi.getD b.size))) else none
      | _, _ => none
    | _ => none
  | _, _, _ => none

def bytesA : List AV → Option (List UInt8)
  | [] => some []
  | .int .u8 n :: xs => match bytesA xs with
    | some l => some (UInt8.ofNat n.toNat :: l)
    | none => none
  | _ :: _ => none

def convA (src dst : TypeId) (x : AV) (s : AS) : OR :=
  match P.underlying src, P.underlying dst with
  | some (.int _), some (.int k) => match x with
    | .int _ n => .v (.int k (k.wrap n)) s
    | .sint _ n => .v (.sint k (k.wrap n)) s
    | _ => .fail
  | some .string, some .string => match x with
    | .str b => .v (.str b) s
    | _ => .fail
  | some .string, some (.slice e) => match P.underlying e, x with
    | some (.int .u8), .str b => .v (.slc s.next 0 b.size (.toEnd 1)) (s.new (.cells (b.data.toList.map fun c => .int .u8 c.toNat)))
    | _, _ => .fail
  | some (.slice e), some .string => match P.underlying e, x with
    | some (.int .u8), .nils => .v (.str .empty) s
    | some (.int .u8), .slc i o n _ => match s.cellsAt i with
      | none => .fail
      | some cs => match sliceL o n cs with
        | none => .fail
        | some l => match bytesA l with
          | some bs => .v (.str ⟨bs.toArray⟩) s
          | none => .fail
    | _, _ => .fail
  | _, _ => .fail

def hasBody (f : FuncId) : Bool :=
  match P.funcs[f]? with
  | some fn => fn.body.isSome && fn.name != "runtime.NumGoroutine"
  | none => false

def callA (x : AV) (args : List AV) (s : AS) : OR :=
  match x with
  | .fn (.func f) first captured => bif hasBody P f then .call f (first ++ args ++ captured) s else .fail
  | _ => .fail

def isLit : Operand → Bool
  | .const _ => true
  | _ => false

def evs (ev : Operand → Option AV) (xs : Array Operand) : Option (List AV) := mapO ev xs.toList

def evO (ev : Operand → Option AV) : Option Operand → Option (Option AV)
  | none => some none
  | some y => (ev y).map some

/-! ### Maps -/

/-- Are two keys one? -/
def keyEq (kt : TypeId) (k k' : AV) : Option Bool :=
  match P.underlying kt, k, k' with
  | some (.int _), .int a n, .int b m => bif decide (a = b) then some (n == m) else none
  | some .string, .str a, .str b => some (a.data.toList == b.data.toList)
  | _, _, _ => none

def findA (kt : TypeId) (k : AV) : List (AV × AV) → Option (Option AV)
  | [] => some none
  | e :: es => match keyEq P kt k e.1 with
    | some true => some (some e.2)
    | some false => findA kt k es
    | none => none

def putA (kt : TypeId) (k v : AV) : List (AV × AV) → Option (List (AV × AV))
  | [] => some [(k, v)]
  | e :: es => match keyEq P kt k e.1 with
    | some true => some ((k, v) :: es)
    | some false => match putA kt k v es with
      | some l => some (e :: l)
      | none => none
    | none => none

def keyOk (kt : TypeId) (k : AV) : Bool :=
  match P.underlying kt, k with
  | some (.int kd), .int a _ => decide (a = kd)
  | some .string, .str _ => true
  | _, _ => false

def AS.mapAt (s : AS) (i : Pos) : Option (List (AV × AV)) :=
  match PT.get i s.heap with
  | some (.map es) => some es
  | _ => none

def mapOf (x : AV) (s : AS) : Option (List (AV × AV)) :=
  match x with
  | .nilm => some []
  | .map i => s.mapAt i
  | _ => none

def lookA (t : TypeId) (x k : AV) (ok : Bool) (s : AS) : Option AV :=
  match P.underlying t with
  | some (.map kt e) =>
    bif !keyOk P kt k then none else
    match zeroA P e, mapOf x s with
    | some z, some es => match findA P kt k es with
      | some (some y) => some (bif ok then .tup [y, .bool true] else y)
      | some none => some (bif ok then .tup [z, .bool false] else z)
      | none => none
    | _, _ => none
  | _ => none

def updA (t : TypeId) (x k v : AV) (s : AS) : Option AS :=
  match P.underlying t, x with
  | some (.map kt _), .map i =>
    bif !keyOk P kt k then none else
    match s.mapAt i with
    | some es => match putA P kt k v es with
      | some es' => some (s.put i (.map es'))
      | none => none
    | none => none
  | _, _ => none

def isMapT (t : TypeId) : Bool :=
  match P.underlying t with
  | some (.map _ _) => true
  | _ => false

def assertA (t : TypeId) (ok : Bool) (x : AV) : Option AV :=
  match P.underlying t with
  | none | some (.interface _) => none
  | some _ => match x with
    | .ifc u y => bif Nat.beq u t then some (bif ok then .tup [y, .bool true] else y)
      else bif ok then (zeroA P t).map fun z => .tup [z, .bool false] else none
    | .nili => bif ok then (zeroA P t).map fun z => .tup [z, .bool false] else none
    | _ => none

def stepOp (o : Oper) (ev : Operand → Option AV) (s : AS) : OR :=
  let v (r : Option AV) : OR := match r with
    | some x => .v x s
    | none => .fail
  match o.op with
  | .move x | .assign x => v (ev x)
  | .pick c a b => match ev c with
    | some (.bool true) => v (ev a)
    | some (.bool false) => v (ev b)
    | _ => .fail
  | .alloc e => match zeroA P e with
    | some z => .v (.ptr s.next 0) (s.new (.cells z.cells))
    | none => .fail
  | .box e x => match ev x, sz P e with
    | some x, some _ => bif oneAll x.cells then .v (.ptr s.next 0) (s.new (.cells x.cells)) else .fail
    | _, _ => .fail
  | .build t parts =>
    match mapO (fun (i, x) => (ev x).map fun y => (i, y)) parts.toList, zeroA P t with
    | some ps, some (.agg z) =>
      match P.underlying t with
      | some (.struct fs) => match placesOf P fs with
        | some pl => match fillA (fun i => nth pl i) z ps with
          | some l => .v (.agg l) s
          | none => .fail
        | none => .fail
      | some (.array _ e) => match sz P e with
        | some n => match fillA (fun i => some (i * n, n)) z ps with
          | some l => .v (.agg l) s
          | none => .fail
        | none => .fail
      | _ => .fail
    | _, _ => .fail
  | .buildSlice t len parts =>
    match P.underlying t with
    | some (.slice e) =>
      match mapO (fun (i, x) => (ev x).map fun y => (i, y)) parts.toList, sz P e, zeroA P e with
      | some ps, some n, some z =>
        bif Nat.ble (len * n) 16777216 && Nat.beq z.cells.length n && !Nat.beq n 0 then
          match fillA (fun i => some (i * n, n)) (repl len z.cells) ps with
          | some l => bif oneAll l then .v (.slc s.next 0 len (.exact len)) (s.new (.cells l)) else .fail
          | none => .fail
        else .fail
      | _, _, _ => .fail
    | _ => .fail
  | .load t a => match ev a with
    | some a => v (loadT P t a s)
    | none => .fail
  | .store t a x => match ev a, ev x with
    | some a, some x => match storeT P t a x s with
      | some s => .v undefA s
      | none => .fail
    | _, _ => .fail
  | .nilCheck x => match ev x with
    | some (.ptr i o) => .v (.ptr i o) s
    | some (.fn (.func f) a b) => .v (.fn (.func f) a b) s
    | _ => .fail
  | .binOp op t x y _ => match ev x, ev y with
    | some a, some b => v (binA P op t (isLit x || isLit y) a b)
    | _, _ => .fail
  | .unOp op _ x => match ev x with
    | some x => v (unA op x)
    | none => .fail
  | .convert src dst x => match ev x with
    | some x => convA P src dst x s
    | none => .fail
  | .makeInterface t x => match ev x, P.underlying t with
    | some _, some (.interface _) => .fail
    | some x, some _ => .v (.ifc t x) s
    | _, _ => .fail
  | .makeFunc fn first captured => match evs ev first, evs ev captured with
    | some a, some b => .v (.fn fn a b) s
    | _, _ => .fail
  | .makeSlice t l c => match ev l, ev c, P.underlying t with
    | some l, some c, some (.slice e) => match idx l, idx c, sz P e, byt P e, zeroA P e with
      | some l, some c, some n, some b, some z =>
        bif Nat.ble l c && Nat.ble c 1000000 && Nat.ble b 1024 && Nat.beq z.cells.length n && !Nat.beq n 0 then
          .v (.slc s.next 0 l (.exact c)) (s.new (.cells (repl c z.cells)))
        else .fail
      | _, _, _, _, _ => .fail
    | _, _, _ => .fail
  | .slice t x lo hi mx =>
    match ev x, evO ev lo, evO ev hi, evO ev mx with
    | some x, some lo, some hi, some mx => v (sliceA P t x lo hi mx)
    | _, _, _, _ => .fail
  | .fieldAddr t x f => match ev x, fieldOf P t f with
    | some (.ptr i o), some f => match sz P f.type with
      | some n => bif Nat.beq n 0 then .fail else .v (.ptr i (o + f.offset)) s
      | none => .fail
    | _, _ => .fail
  | .field t x f => match ev x, fieldOf P t f with
    | some (.agg cs), some f => v (partA P f.type cs f.offset)
    | _, _ => .fail
  | .indexAddr t x ix => match ev x, (ev ix).bind idx, P.underlying t with
    | some (.ptr i o), some k, some (.array len e) => match sz P e with
      | some n => bif Nat.blt k len then .v (.ptr i (o + k * n)) s else .fail
      | none => .fail
    | some (.slc i o len _), some k, some (.slice e) => match sz P e with
      | some n => bif Nat.blt k len then .v (.ptr i (o + k * n)) s else .fail
      | none => .fail
    | _, _, _ => .fail
  | .index t x ix => match ev x, (ev ix).bind idx, P.underlying t with
    | some (.agg cs), some k, some (.array len e) => match sz P e with
      | some n => bif Nat.blt k len then v (partA P e cs (k * n)) else .fail
      | none => .fail
    | some (.str b), some k, some .string => match b.data.toList[k]? with
      | some c => .v (.int .u8 c.toNat) s
      | none => .fail
    | _, _, _ => .fail
  | .extract t ix => match ev t with
    | some (.tup vs) => v (nth vs ix)
    | _ => .fail
  | .call c =>
    match evs ev c.args with
    | none => .fail
    | some args =>
      match c.callee with
      | .value f => match ev f with
        | some f => callA P f args s
        | none => .fail
      | .builtin b =>
        match b, args with
        | .append, [x, y] => match (c.argTypes[0]?).bind P.underlying, (c.argTypes[1]?).bind P.underlying with
          | some (.slice e), some (.slice _) | some (.slice e), some .string => appendA P e x y s
          | _, _ => .fail
        | .copy, [x, y] => match (c.argTypes[0]?).bind P.underlying with
          | some (.slice e) => copyA P e x y s
          | _ => .fail
        | .len, [x] => match (c.argTypes[0]?).bind P.underlying with
          | some (.slice _) => v (lenA x)
          | some .string => match x with
            | .str b => .v (.int .i64 b.size) s
            | _ => .fail
          | some (.array n _) => .v (.int .i64 n) s
          | _ => .fail
        | .cap, [.slc _ _ _ (.exact n)] => match (c.argTypes[0]?).bind P.underlying with
          | some (.slice _) => .v (.int .i64 n) s
          | _ => .fail
        | .cap, [.nils] => match (c.argTypes[0]?).bind P.underlying with
          | some (.slice _) => .v (.int .i64 0) s
          | _ => .fail
        | .min, x :: xs => v (foldO (minA true) x xs)
        | .max, x :: xs => v (foldO (minA false) x xs)
        | _, _ => .fail
      | _ => .fail
  | .makeMap t r => match evO ev r with
    | some none => bif isMapT P t then .v (.map s.next) (s.new (.map [])) else .fail
    | some (some r) => match idx r with
      | some _ => bif isMapT P t then .v (.map s.next) (s.new (.map [])) else .fail
      | none => .fail
    | none => .fail
  | .lookup t x k ok => match ev x, ev k with
    | some x, some k => v (lookA P t x k ok s)
    | _, _ => .fail
  | .mapUpdate t m k x => match ev m, ev k, ev x with
    | some m, some k, some x => match updA P t m k x s with
      | some s => .v undefA s
      | none => .fail
    | _, _, _ => .fail
  | .insert t m k x => match ev m, ev k, ev x with
    | some m, some k, some x => match updA P t m k x s with
      | some s => .v undefA s
      | none => .fail
    | _, _, _ => .fail
  | .typeAssert x _ t ok => match ev x with
    | some x => v (assertA P t ok x)
    | none => .fail
  | .sliceToArrayPointer arr x => match ev x, P.underlying arr with
    | some (.slc i o len _), some (.array n _) => bif Nat.ble n len && !Nat.beq n 0 then .v (.ptr i o) s else .fail
    | _, _ => .fail
  | .defer c =>
    match evs ev c.args, c.callee with
    | some args, .value f => match ev f with
      | some (.fn (.func f) first captured) => bif hasBody P f then .dfr f (first ++ args ++ captured) s else .fail
      | _ => .fail
    | _, _ => .fail
  | _ => .fail
end
end Go.Sx
