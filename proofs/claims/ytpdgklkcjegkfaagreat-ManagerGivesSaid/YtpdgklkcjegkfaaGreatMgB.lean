/-
  ManagerGives: the contracts' runs.
-/
import Derived.Test.YtpdgklkcjegkfaaGreatRows
import Derived.Test.YtpdgklkcjegkfaaGreatSyD
import Derived.KernelRfl
set_option linter.unusedSimpArgs false
set_option linter.unusedVariables false
namespace Go.Proofs.YtpdgklkcjegkfaaGreat
open Go Go.Sx

theorem mixed : Tryz.prog.follows .mixedOrders = true := by kernel_rfl

def sE : AS := { heap := .e, next := .h, orc := [], cons := True }

/-- A search. -/
def srch (i0 i1 i2 i3 : Int) (p b : AV) : List AV := [.sint .u32 i0, .sint .u32 i1, .sint .u32 i2, .sint .u32 i3, p, b, .bool false, .bool false]

/-- A node: its identity, its next address, whether it is configured, the part that it waits for, whether it wants. -/
def nodeC (i0 i1 i2 i3 x : Int) (c : AV) (p : Int) (wa : AV) : List AV := [.sint .u32 i0, .sint .u32 i1, .sint .u32 i2, .sint .u32 i3, .int .u8 255, .sint .u8 x, .int .u8 0, .int .u8 0, c, .int .u8 0, .sint .u8 p, wa]

def frm (id len c : Int) (l : List AV) : AV := .agg (.int .u16 id :: .int .i64 len :: .int .u8 c :: (l ++ [.bool false]))
def z0 : AV := .int .u8 0

section
variable (i0 i1 i2 i3 p b x a1 a2 a3 a4 u t pl : Int) (c : Bool) (orc : List Bool)
noncomputable def rAsk (p : Int) : CR := (fast Tryz.prog noK 10000).2 163 [.ptr .h 0] (one (srch i0 i1 i2 i3 (.int .i64 p) (.sint .i64 b)) orc)
noncomputable def rToldS (y : Bool) : CR := (fast Tryz.prog noK 10000).2 214 [.ptr .h 0, .bool y] (one (srch i0 i1 i2 i3 (.sint .i64 p) (.sint .i64 b)) orc)
noncomputable def rToldC (p : Int) : CR := (fast Tryz.prog noK 10000).2 214 [.ptr .h 0, .bool false] (one (srch i0 i1 i2 i3 (.int .i64 p) (.sint .i64 b)) orc)
noncomputable def rHearS : CR := (fast Tryz.prog noK 10000).2 20 [.ptr .h 0, frm 2021 8 81 [.sint .u8 a1, .sint .u8 a2, .sint .u8 a3, .sint .u8 a4, .sint .u8 b, .sint .u8 u, .sint .u8 t]] (one (nodeC i0 i1 i2 i3 x (.bool false) pl (.bool false)) orc)
noncomputable def rHearC (u : Int) : CR := (fast Tryz.prog noK 10000).2 20 [.ptr .h 0, frm 2021 8 81 [.sint .u8 a1, .sint .u8 a2, .sint .u8 a3, .sint .u8 a4, .sint .u8 b, .int .u8 u, .sint .u8 t]] (one (nodeC i0 i1 i2 i3 x (.bool false) pl (.bool false)) orc)
noncomputable def rSet : CR := (fast Tryz.prog noK 10000).2 20 [.ptr .h 0, frm 2021 8 17 [.sint .u8 u, z0, z0, z0, z0, z0, z0]] (one (nodeC i0 i1 i2 i3 x (.sbool c) pl (.bool false)) orc)
noncomputable def rKeep : CR := (fast Tryz.prog noK 10000).2 20 [.ptr .h 0, frm 2021 8 23 [z0, z0, z0, z0, z0, z0, z0]] (one (nodeC i0 i1 i2 i3 x (.sbool c) pl (.bool false)) orc)
noncomputable def rSwitch : CR := (fast Tryz.prog noK 10000).2 20 [.ptr .h 0, frm 2021 8 4 [z0, z0, z0, z0, z0, z0, z0]] (one (nodeC i0 i1 i2 i3 x (.sbool c) pl (.bool false)) orc)
end
end Go.Proofs.YtpdgklkcjegkfaaGreat

namespace Go.Proofs.YtpdgklkcjegkfaaGreat
open Go Go.Sx

/-- The part that is searched. -/
def selI (i0 i1 i2 i3 p : Int) : Int := if p = 0 then i0 else if p = 1 then i1 else if p = 2 then i2 else i3
def bitsF (b : Int) : Int := if b = 32 then 128 else if b = -1 then 0 else IntKind.u8.wrap b
def nextF (p b : Int) : Int := if b = -1 then (if p = 3 then 0 else p + 1) else p
def byK (n : Int) (k : Nat) : Int := IntKind.u8.wrap (n.fdiv (2 ^ min (Int.toNat k) IntKind.u32.bits))

/-- What a search asks. -/
def askV (i0 i1 i2 i3 p b : Int) : AV :=
  .tup [frm 2021 8 81 [.sint .u8 (IntKind.u8.wrap (selI i0 i1 i2 i3 p)), .sint .u8 (byK (selI i0 i1 i2 i3 p) 8), .sint .u8 (byK (selI i0 i1 i2 i3 p) 16), .sint .u8 (byK (selI i0 i1 i2 i3 p) 24),
    .sint .u8 (bitsF b), .sint .u8 p, .sint .u8 (nextF p b)], .bool true]

def e0 : AV := .int .i64 0
def srchT (i0 i1 i2 i3 p b : Int) (o f : Bool) : List AV := [.sint .u32 i0, .sint .u32 i1, .sint .u32 i2, .sint .u32 i3, .sint .i64 p, .sint .i64 b, .sbool o, .sbool f]
def setB (i b : Int) : Int := IntKind.u32.wrap ((BitVec.ofInt IntKind.u32.bits i ||| BitVec.ofInt IntKind.u32.bits (IntKind.u32.wrap (1 * 2 ^ min b.toNat IntKind.u32.bits))).toNat : Int)

def numT (a1 a2 a3 a4 : Int) : Int :=
  IntKind.u32.wrap ((BitVec.ofInt IntKind.u32.bits (IntKind.u32.wrap ((BitVec.ofInt IntKind.u32.bits (IntKind.u32.wrap ((BitVec.ofInt IntKind.u32.bits (IntKind.u32.wrap a1) |||
    BitVec.ofInt IntKind.u32.bits (IntKind.u32.wrap (IntKind.u32.wrap a2 * 2 ^ min (Int.toNat 8) IntKind.u32.bits))).toNat : Int)) |||
    BitVec.ofInt IntKind.u32.bits (IntKind.u32.wrap (IntKind.u32.wrap a3 * 2 ^ min (Int.toNat 16) IntKind.u32.bits))).toNat : Int)) |||
    BitVec.ofInt IntKind.u32.bits (IntKind.u32.wrap (IntKind.u32.wrap a4 * 2 ^ min (Int.toNat 24) IntKind.u32.bits))).toNat : Int)
def xorT (a1 a2 a3 a4 i b : Int) : Int :=
  (IntKind.u32.wrap ((BitVec.ofInt IntKind.u32.bits (numT a1 a2 a3 a4) ^^^ BitVec.ofInt IntKind.u32.bits i).toNat : Int)).fdiv (2 ^ min b.toNat IntKind.u32.bits)

/-- Does a node answer a step of a search? -/
def hearOk (i0 i1 i2 i3 x pl a1 a2 a3 a4 b u : Int) : Bool :=
  x == 255 && (b == 128 || (decide (b ≤ 31) && (u == pl) && !(xorT a1 a2 a3 a4 (selI i0 i1 i2 i3 u) b != 0)))

def noV : AV := .tup [.agg [.int .u16 0, .int .i64 0, z0, z0, z0, z0, z0, z0, z0, z0, .bool false], .bool false]
def ansV (c : Int) : AV := .tup [frm 2020 8 c [z0, z0, z0, z0, z0, z0, z0], .bool true]
def foundV : AV := ansV 79
def setV : AV := ansV 17
end Go.Proofs.YtpdgklkcjegkfaaGreat
