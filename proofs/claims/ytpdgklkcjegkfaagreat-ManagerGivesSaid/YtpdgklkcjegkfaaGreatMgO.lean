/-
  ManagerGives: the states ahead of the loop; what is behind it.
-/
import Derived.Test.YtpdgklkcjegkfaaGreatMgF
set_option linter.unusedSimpArgs false
set_option linter.unusedVariables false
namespace Go.Proofs.YtpdgklkcjegkfaaGreat
open Go Go.Sx

theorem wF1 : wrapF IntKind.i64 (Int.add 0 1) = 1 := rfl
theorem wF2 : wrapF IntKind.i64 ((wrapF IntKind.i64 (Int.add 0 1)).add 1) = 2 := rfl

def mI : List AV := [.nils, .int .i64 10, .bool false, .bool false, .ptr pW 0, .nilp, .nils, .int .i64 0, .int .u8 0, .int .i64 0, .nils]

/-- Nodes are made: so many are there. -/
def crt (f g : Int) (v : Value) (ns : List ND) (i : Int) : Tm where
  objs := [(pM, mI)] ++ lO ns ++ nodesO 0 ns
  opq := []
  tms := [(0, .raw v), (1, .sint .u8 f), (2, .sint .u8 g), (7, .ptr pM 0), (9, lA ns), (10, .sint .i64 i)]
  next := pZ

/-- One more. -/
def crtM (f g : Int) (v : Value) (ns : List ND) (m : ND) (i : Int) : Tm where
  objs := [(pM, mI)] ++ lO ns ++ nodesO 0 ns ++ [(pN ns.length, m.cells)]
  opq := []
  tms := [(0, .raw v), (1, .sint .u8 f), (2, .sint .u8 g), (7, .ptr pM 0), (9, lA ns), (10, .sint .i64 i), (11, .ptr (pN ns.length) 0), (12, .int .i64 0)]
  next := pZ

def bs0 (f g : Int) : BS := ⟨f, g, 0, 0, 0, f, false, 0⟩

/-- The first assignment has begun. -/
def pre (f g : Int) (ns : List ND) : Tm where
  objs := (head (bs0 f g) (SR.ask SR.new) SR.new ns []).objs
  opq := []
  tms := [(1, .sint .u8 f), (2, .sint .u8 g), (7, .ptr pM 0), (9, lA ns), (13, .sint .i64 0), (14, .slc pO 0 1 (.toEnd 11)), (15, .int .i64 0)]
  next := pZ

def newN (z0 z1 z2 z3 : Int) : ND := ⟨z0, z1, z2, z3, 255, 0, false⟩

/-- Ahead of the first node. -/
def crtS (f g : Int) (v : Value) : Tm where
  objs := [(pM, mI)]
  opq := []
  tms := [(0, .raw v), (1, .sint .u8 f), (2, .sint .u8 g), (7, .ptr pM 0), (9, .nils)]
  next := pZ

noncomputable def qA : List Code := (splitC 4 bd).1
noncomputable def qB5 : Code := headC (headC (tailC 4 bd))
/-- The body of the loop that makes nodes. -/
noncomputable def nB : Code := bodyC (tailC 1 (headC (tailC 4 bd)))
noncomputable def n6 : Code := headC nB
def inC : Code → Code
  | .block _ c => c
  | c => c
noncomputable def n1 : Code := inC (headC (tailC 1 nB))
noncomputable def n8 : Code := headC n1
noncomputable def n9 : Code := tailC 1 n1
noncomputable def n7 : Code := tailC 2 nB
noncomputable def qC : List Code := (splitC 3 (tailC 5 bd)).1
noncomputable def q16 : Code := headC (headC (tailC 8 bd))
noncomputable def qE : Code := tailC 9 bd

theorem bd_split : bd = joinC qA (.seq (.seq qB5 (.block 0 (.loop nB))) (joinC qC (.seq (.seq q16 (.block 2 (.loop mB))) qE))) := by kernel_rfl
theorem nB_split : nB = .seq n6 (.seq (.block 1 (.seq n8 n9)) n7) := by kernel_rfl

noncomputable def ops8 : Array Oper := match n8 with
  | .region _ o _ => o
  | _ => #[]
theorem n8_eq : n8 = .region 8 ops8 false := by kernel_rfl

noncomputable def ev1 (c : Code) (t : Tm) (orc : List Bool) : ER := (fast Tryz.prog kG 10000).1 (cC Tryz.prog c) ⟨mkF t.tms, []⟩ ⟨t.heap, pZ, orc, True⟩
noncomputable def evN (l : List Code) (t : Tm) (orc : List Bool) : ER := evLF Tryz.prog kG 10000 l ⟨mkF t.tms, []⟩ ⟨t.heap, pZ, orc, True⟩
def frO (f g : Int) (v : Value) : Fr := frameOf Tryz.f4 [.raw v, .sint .u8 f, .sint .u8 g]
/-- What is left of a node's making, behind the read of its identity. -/
noncomputable def run8 (t : Tm) (z0 z1 z2 z3 : Int) : ER :=
  ofRR (runF (fast Tryz.prog kG 10000).2 ops8 ((ops8.toList.drop 4).map (cI Tryz.prog)) ⟨mkF ((53, .agg [.sint .u32 z0, .sint .u32 z1, .sint .u32 z2, .sint .u32 z3]) :: t.tms), []⟩ ⟨t.heap, pZ, [], True⟩)
end Go.Proofs.YtpdgklkcjegkfaaGreat
