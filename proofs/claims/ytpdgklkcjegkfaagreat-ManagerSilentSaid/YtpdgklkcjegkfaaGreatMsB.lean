/-
  ManagerSilent: the states between the pieces.
-/
import Derived.Test.YtpdgklkcjegkfaaGreatMsA
namespace Go.Proofs.YtpdgklkcjegkfaaGreat
open Go Go.Sx

/-- The manager of one node: how long the node may be silent, when it was heard last, when the manager was asked last. -/
def hs (b : Bool) (a h c : Int) : List (Pos × List AV) := [
  ((.i .h), [.slc (.o (.i (.o .h))) 0 1 (.toEnd 1), .int .i64 10, .bool true, .bool true, .ptr (.o .h) 0, .nilp, .nils, .int .i64 0, .int .u8 0, .sint .i64 c, .nils]),
  ((.o (.i (.o .h))), [.ptr (.o (.o (.o .h))) 0]),
  ((.o .h), [.nilp, .nilp, .nilp, .nilp, .nilp, .nilp, .nilp, .nilp, .nilp, .ptr (.i (.o (.i (.i (.i (.o .h)))))) 0, .nilp, .nilp, .nilp, .nilp, .nilp, .nilp, .nilp, .nilp, .nilp, .nilp, .nilp, .nilp, .nilp, .nilp, .nilp, .nilp, .nilp, .nilp, .nilp, .nilp, .nilp, .nilp, .nilp, .nilp, .nilp, .nilp, .nilp, .nilp, .nilp, .nilp, .nilp, .nilp, .nilp, .nilp, .nilp, .nilp, .nilp, .nilp, .nilp, .nilp, .nilp, .nilp, .nilp, .nilp, .nilp, .nilp, .nilp, .nilp, .nilp, .nilp, .nilp, .nilp, .nilp, .nilp, .nilp, .nilp, .nilp, .nilp, .nilp, .nilp, .nilp, .nilp, .nilp, .nilp, .nilp, .nilp, .nilp, .nilp, .nilp, .nilp, .nilp, .nilp, .nilp, .nilp, .nilp, .nilp, .nilp, .nilp, .nilp, .nilp, .nilp, .nilp, .nilp, .nilp, .nilp, .nilp, .nilp, .nilp, .nilp, .nilp, .nilp, .nilp, .nilp, .nilp, .nilp, .nilp, .nilp, .nilp, .nilp, .nilp, .nilp, .nilp, .nilp, .nilp, .nilp, .nilp, .nilp, .nilp, .nilp, .nilp, .nilp, .nilp, .nilp, .nilp, .nilp, .nilp, .nilp, .nilp, .int .i64 1]),
  ((.o (.o (.o .h))), [.int .u8 9, .int .u32 0, .int .u32 0, .int .u32 0, .int .u32 0, .sbool b, .nils, .int .u32 0, .int .u32 0, .nils, .sint .i64 a, .ptr (.i (.o (.i .h))) 0, .int .u8 5, .int .u32 0, .bool false, .bool true, .sint .i64 h, .fn (.func 137) [] [.ptr (.o (.o (.o (.o .h)))) 0, .ptr (.o (.i (.i .h))) 0, .ptr (.i (.i (.i .h))) 0]]),
  ((.i (.o (.i (.i (.i (.o .h)))))), [.sint .i64 a, .bool true, .int .u8 5, .sint .i64 h]),
  ((.i (.o (.i .h))), [.int .u8 9, .int .i64 10, .nilp, .int .i64 0, .nilp]),
  ((.o (.o (.o (.o .h)))), [.fn (.func 91) [] [.ptr (.i (.i (.o .h))) 0, .ptr (.o (.o (.i .h))) 0]]),
  ((.o (.i (.i .h))), [.ptr (.i .h) 0]),
  ((.i (.i (.i .h))), [.ptr (.o (.o (.o .h))) 0]),
  ((.i (.i (.o .h))), [.ptr (.i .h) 0]),
  ((.o (.o (.i .h))), [.ptr (.o (.o (.o .h))) 0])]

def nx : Pos := .o (.i (.i (.i (.i (.o .h)))))

def fA (a : Int) (b : Bool) (v : Value) (now : Int) : List (Nat × AV) := [(0, .sint .u8 a), (1, .sbool b), (2, .raw v), (7, .ptr (.i .h) 0), (13, .sint .i64 now)]
def fB (a : Int) (b : Bool) (v : Value) (now i : Int) : List (Nat × AV) := (14, .sint .i64 i) :: fA a b v now
def fC (a : Int) (b : Bool) (v : Value) (now i d : Int) : List (Nat × AV) := (15, .sint .i64 d) :: fB a b v now i

noncomputable def bd : Code := Tryz.f3.body.getD .skip
def body1 : Code → Code
  | .seq _ (.block _ (.loop c)) => c
  | _ => .skip
def inner1 : Code → Code
  | .seq (.block _ c) _ => c
  | _ => .skip
def head1 : Code → Code
  | .seq a _ => a
  | _ => .skip
def tail1 : Code → Code
  | .seq _ b => b
  | _ => .skip
/-- Of the body: what is ahead of the loop; the loop's beginning; the loop's body; what is behind. -/
noncomputable def pA : List Code := (splitC 10 bd).1
noncomputable def pB : Code := head1 (head1 (splitC 10 bd).2)
noncomputable def pL : Code := body1 (head1 (splitC 10 bd).2)
noncomputable def pZ : Code := tail1 (splitC 10 bd).2
noncomputable def pL0 : Code := head1 pL
noncomputable def pI : Code := inner1 (tail1 pL)
noncomputable def pI0 : List Code := (splitC 1 pI).1
noncomputable def pI1 : Code := head1 (splitC 1 pI).2
noncomputable def pI2 : Code := tail1 (splitC 1 pI).2
noncomputable def pL9 : Code := tail1 (tail1 pL)

theorem bd_split : bd = joinC pA (.seq (.seq pB (.block 0 (.loop pL))) pZ) := by kernel_rfl
theorem pL_split : pL = .seq pL0 (.seq (.block 1 pI) pL9) := by kernel_rfl
theorem pI_split : pI = joinC pI0 (.seq pI1 pI2) := by kernel_rfl

def st (b : Bool) (a h c : Int) (orc : List Bool) : AS := { heap := mkH (hs b a h c), next := nx, orc, cons := True }

noncomputable def kW : FuncId → List AV → AS → Option CR := trueK 9
end Go.Proofs.YtpdgklkcjegkfaaGreat
