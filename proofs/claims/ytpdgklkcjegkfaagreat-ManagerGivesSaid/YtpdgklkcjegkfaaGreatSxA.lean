/-
  A symbolic executor for the model's code, part A: its data: tries, abstract values, abstract memory, and how they stand to the model's own.
-/
import Derived.Calls
import Derived.Defers
import Derived.Recover
import Derived.Scope
import Derived.Orders
import Derived.KernelRfl
namespace Go.Sx
open Go

/-! ### Positive numbers and tries over them -/

inductive Pos where
  | h
  | o (p : Pos)
  | i (p : Pos)
  deriving DecidableEq, Inhabited, Repr

def Pos.succ : Pos → Pos
  | .h => .o .h
  | .o p => .i p
  | .i p => .o p.succ

def Pos.nat : Pos → Nat
  | .h => 1
  | .o p => 2 * p.nat
  | .i p => 2 * p.nat + 1

def Pos.ofN : Nat → Nat → Pos
  | 0, _ => .h
  | f + 1, n => bif Nat.ble n 1 then .h else bif Nat.beq (Nat.mod n 2) 0 then .o (Pos.ofN f (Nat.div n 2)) else .i (Pos.ofN f (Nat.div n 2))

/-- The slot `t` as a key. -/
def Pos.slot (t : Nat) : Pos := Pos.ofN (t + 1) (t + 1)

def Pos.eqb : Pos → Pos → Bool
  | .h, .h => true
  | .o p, .o q => Pos.eqb p q
  | .i p, .i q => Pos.eqb p q
  | _, _ => false

inductive PT (α : Type) where
  | e
  | n (l : PT α) (v : Option α) (r : PT α)
  deriving Inhabited

def PT.get {α : Type} : Pos → PT α → Option α
  | _, .e => none
  | .h, .n _ v _ => v
  | .o p, .n l _ _ => PT.get p l
  | .i p, .n _ _ r => PT.get p r

def PT.set {α : Type} (x : α) : Pos → PT α → PT α
  | .h, .e => .n .e (some x) .e
  | .o p, .e => .n (PT.set x p .e) none .e
  | .i p, .e => .n .e none (PT.set x p .e)
  | .h, .n l _ r => .n l (some x) r
  | .o p, .n l v r => .n (PT.set x p l) v r
  | .i p, .n l v r => .n l v (PT.set x p r)

/-! ### Abstract values -/

inductive Cap where
  | exact (n : Nat)
  | toEnd (esz : Nat)
  deriving Inhabited, DecidableEq, Repr

inductive AV where
  | int (k : IntKind) (n : Int)
  | sint (k : IntKind) (n : Int)
  | bool (b : Bool)
  | sbool (b : Bool)
  | str (s : ByteArray)
  | nilp
  | ptr (i : Pos) (o : Nat)
  | nils
  | slc (i : Pos) (o len : Nat) (c : Cap)
  | nilm
  | map (i : Pos)
  | fn (f : Fn) (first captured : List AV)
  | nilf
  | ifc (t : TypeId) (v : AV)
  | nili
  | agg (cs : List AV)
  | tup (vs : List AV)
  | raw (v : Value)
  deriving Inhabited

inductive AObj where
  | cells (cs : List AV)
  | map (es : List (AV × AV))
  | dead
  deriving Inhabited

structure AS where
  heap : PT AObj
  next : Pos
  orc : List Bool
  cons : Prop

/-- A value of one cell. -/
def AV.one : AV → Bool
  | .agg _ | .tup _ => false
  | _ => true

/-- The cells of a value. -/
def AV.cells : AV → List AV
  | .agg cs => cs
  | v => [v]

def undefA : AV := .tup []

/-- A constant's cell. -/
def ofLeaf : Value → Option AV
  | .int k n => some (.int k n)
  | .bool b => some (.bool b)
  | .string s => some (.str s)
  | .pointer none => some .nilp
  | .slice none 0 0 => some .nils
  | .map none => some .nilm
  | .nilFunc => some .nilf
  | .nilIface => some .nili
  | .func fn first captured => bif first.size == 0 && captured.size == 0 then some (.fn fn [] []) else none
  | _ => none

def mapO {α β : Type} (f : α → Option β) : List α → Option (List β)
  | [] => some []
  | x :: xs => match f x with
    | none => none
    | some y => match mapO f xs with
      | none => none
      | some ys => some (y :: ys)

def ofV : Value → Option AV
  | .agg cs => match mapO ofLeaf cs.toList with
    | some l => some (.agg l)
    | none => none
  | .tuple cs => match mapO ofLeaf cs.toList with
    | some l => some (.tup l)
    | none => none
  | v => ofLeaf v

end Go.Sx
