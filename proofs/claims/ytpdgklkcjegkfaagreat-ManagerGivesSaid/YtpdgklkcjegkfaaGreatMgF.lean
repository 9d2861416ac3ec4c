/-
  ManagerGives: the states between rounds.
-/
import Derived.Test.YtpdgklkcjegkfaaGreatMgE
import Derived.Test.YtpdgklkcjegkfaaGreatSyF
set_option linter.unusedSimpArgs false
set_option linter.unusedVariables false
namespace Go.Proofs.YtpdgklkcjegkfaaGreat
open Go Go.Sx

/-- A node. -/
structure ND where
  i0 : Int
  i1 : Int
  i2 : Int
  i3 : Int
  x : Int
  pl : Int
  c : Bool

/-- What was given. -/
structure GV where
  i0 : Int
  i1 : Int
  i2 : Int
  i3 : Int
  a : Int
  kp : Bool

/-- A search. -/
structure SR where
  i0 : Int
  i1 : Int
  i2 : Int
  i3 : Int
  p : Int
  b : Int
  o : Bool
  f : Bool

/-- What else there is: the first address, the second one, the time, the round, the greatest address that was asked, the next one; was the last one kept? -/
structure BS where
  f : Int
  g : Int
  now : Int
  k : Int
  h : Int
  nx : Int
  kp : Bool
  ak : Int

/-- What is asked. -/
inductive PH where
  | s (a1 a2 a3 a4 b u t : Int)
  | a (u : Int)
  | k
  | w
  | d (e : Int)

def pM : Pos := .h
def pX : Pos := .o .h
def pS : Pos := .i .h
def pL : Pos := .o (.o .h)
def pN : Nat → Pos
  | 0 => .i (.o .h)
  | 1 => .o (.i .h)
  | _ => .i (.i .h)
def pO : Pos := .o (.o (.o .h))
def pG : Pos := .i (.o (.o .h))
def pC : Pos := .o (.i (.o .h))
def pW : Pos := .i (.i (.o .h))
def pZ : Pos := .o (.o (.i .h))

def ND.cells (n : ND) : List AV := nodeC n.i0 n.i1 n.i2 n.i3 n.x (.sbool n.c) n.pl (.bool false)
def GV.cells (g : GV) : List AV := [.sint .u32 g.i0, .sint .u32 g.i1, .sint .u32 g.i2, .sint .u32 g.i3, .sint .u8 g.a, .sbool g.kp]
def SR.cells (s : SR) : List AV := srchT s.i0 s.i1 s.i2 s.i3 s.p s.b s.o s.f

def BS.m (b : BS) : List AV := [.nils, .int .i64 10, .bool false, .bool false, .ptr pW 0, .ptr pX 0, .nils, .sint .i64 b.ak, .sint .u8 b.h, .sint .i64 b.now, .nils]

def askA : PH → AV
  | .a _ => .fn (.func 217) [] [.ptr pC 0]
  | .k => .fn (.func 267) [] []
  | .w => .fn (.func 286) [] []
  | _ => .nilf
def toldA : PH → AV
  | .a _ => .fn (.func 218) [.ptr pX 0] []
  | .k => .fn (.func 268) [.ptr pX 0] []
  | .w => .fn (.func 287) [.ptr pX 0] []
  | _ => .fn (.func 165) [.ptr pX 0] []
def doneA : PH → AV
  | .d _ => .bool true
  | _ => .bool false
def errA : PH → AV
  | .d e => .sint .i64 e
  | _ => .int .i64 0
def givA (c : Nat) : AV := match c with
  | 0 => .nils
  | c => .slc pG 0 c (.toEnd 6)
def xC (b : BS) (ph : PH) (c : Nat) : List AV := [.ptr pS 0, .sint .u8 b.nx, .sbool b.kp, givA c, askA ph, toldA ph, doneA ph, errA ph]

def outF : PH → List AV
  | .s a1 a2 a3 a4 b u t => [.int .u16 2021, .int .i64 8, .int .u8 81, .sint .u8 a1, .sint .u8 a2, .sint .u8 a3, .sint .u8 a4, .sint .u8 b, .sint .u8 u, .sint .u8 t, .bool false]
  | .a u => [.int .u16 2021, .int .i64 8, .int .u8 17, .sint .u8 u, z0, z0, z0, z0, z0, z0, .bool false]
  | .k => [.int .u16 2021, .int .i64 8, .int .u8 23, z0, z0, z0, z0, z0, z0, z0, .bool false]
  | .w => [.int .u16 2021, .int .i64 8, .int .u8 4, z0, z0, z0, z0, z0, z0, z0, .bool false]
  | .d _ => []
def outA : PH → AV
  | .d _ => .nils
  | _ => .slc pO 0 1 (.toEnd 11)

def nodesO : Nat → List ND → List (Pos × List AV)
  | _, [] => []
  | k, n :: l => (pN k, n.cells) :: nodesO (k + 1) l
def ptrsO : Nat → List ND → List AV
  | _, [] => []
  | k, _ :: l => .ptr (pN k) 0 :: ptrsO (k + 1) l
def lA (ns : List ND) : AV := match ns with
  | [] => .nils
  | _ => .slc pL 0 ns.length (.toEnd 1)
def lO (ns : List ND) : List (Pos × List AV) := match ns with
  | [] => []
  | _ => [(pL, ptrsO 0 ns)]
def givO (gs : List GV) : List (Pos × List AV) := match gs with
  | [] => []
  | _ => [(pG, gs.flatMap GV.cells)]
def outO : PH → List (Pos × List AV)
  | .d _ => []
  | ph => [(pO, outF ph)]
def capO : PH → List (Pos × List AV)
  | .a _ => [(pC, [.ptr pX 0])]
  | _ => []

/-- The state at the loop's head. -/
def head (b : BS) (ph : PH) (s : SR) (ns : List ND) (gs : List GV) : Tm where
  objs := [(pM, b.m), (pX, xC b ph gs.length), (pS, s.cells)] ++ lO ns ++ nodesO 0 ns ++ outO ph ++ givO gs ++ capO ph
  opq := []
  tms := [(1, .sint .u8 b.f), (2, .sint .u8 b.g), (7, .ptr pM 0), (9, lA ns), (13, .sint .i64 b.now), (14, outA ph), (15, .int .i64 0), (16, .sint .i64 b.k)]
  next := pZ

/-- The state behind the loop. -/
def fin (b : BS) (e : Int) (s : SR) (gs : List GV) : Tm where
  objs := [(pM, b.m), (pX, xC b (.d e) gs.length), (pS, s.cells)] ++ givO gs
  opq := []
  tms := [(1, .sint .u8 b.f), (2, .sint .u8 b.g), (7, .ptr pM 0), (13, .sint .i64 b.now), (15, .int .i64 0)]
  next := pZ

def ident (a : Int) : Prop := a = a

noncomputable def bd : Code := Tryz.f4.body.getD .skip
def tailC : Nat → Code → Code
  | 0, c => c
  | k + 1, .seq _ b => tailC k b
  | _, c => c
def headC : Code → Code
  | .seq a _ => a
  | c => c
def bodyC : Code → Code
  | .block _ (.loop c) => c
  | _ => .skip
/-- The loop's body. -/
noncomputable def mB : Code := bodyC (tailC 1 (headC (tailC 8 bd)))

noncomputable def runB (b : BS) (ph : PH) (s : SR) (ns : List ND) (gs : List GV) (orc : List Bool) : ER :=
  (fast Tryz.prog kG 10000).1 (cC Tryz.prog mB) ⟨mkF (head b ph s ns gs).tms, []⟩ ⟨(head b ph s ns gs).heap, pZ, orc, True⟩

/-- What comes of a round. -/
def BS.next (b : BS) : BS := ⟨b.f, b.g, b.now + 10, b.k + 1, b.h, b.nx, b.kp, b.now + 10⟩
def BS.over (b : BS) : BS := ⟨b.f, b.g, b.now + 10, b.k + 1, b.h, b.nx, b.kp, b.ak⟩
def BS.asked (b : BS) : BS := ⟨b.f, b.g, b.now + 10, b.k + 1, b.nx, b.nx, b.kp, b.now + 10⟩
def BS.kept (b : BS) : BS := ⟨b.f, b.g, b.now + 10, b.k + 1, b.h, b.nx, true, b.now + 10⟩
def BS.more (b : BS) : BS := ⟨b.f, b.g, b.now + 10, b.k + 1, b.h, b.nx + 1, b.kp, b.now + 10⟩
def BS.last (b : BS) : BS := ⟨b.f, b.g, b.now + 10, b.k + 1, b.h, 128, b.kp, b.ak⟩
def gvOf (b : BS) (s : SR) : GV := ⟨s.i0, s.i1, s.i2, s.i3, b.nx, b.kp⟩
def SR.told (s : SR) (y : Bool) : SR := ⟨toldI y s.p s.b 0 s.i0, toldI y s.p s.b 1 s.i1, toldI y s.p s.b 2 s.i2, toldI y s.p s.b 3 s.i3, toldP y s.p s.b, toldB y s.b, toldO y s.p s.b, toldF y s.p s.b⟩
def SR.ask (s : SR) : PH := .s (IntKind.u8.wrap (selI s.i0 s.i1 s.i2 s.i3 s.p)) (byK (selI s.i0 s.i1 s.i2 s.i3 s.p) 8) (byK (selI s.i0 s.i1 s.i2 s.i3 s.p) 16) (byK (selI s.i0 s.i1 s.i2 s.i3 s.p) 24) (bitsF s.b) s.p (nextF s.p s.b)
def SR.new : SR := ⟨0, 0, 0, 0, 0, 32, false, false⟩
def ND.hears (n : ND) (d : Bool) (b u t : Int) : ND := match d with
  | true => { n with c := hearC b u t, pl := hearP n.pl b t }
  | false => { n with c := false }
def ND.set (n : ND) (u : Int) (d : Bool) : ND := match d with
  | true => { n with x := u, c := true }
  | false => { n with c := false }
def ND.off (n : ND) : ND := { n with c := false }

theorem w8 {x : Int} (h : 0 ≤ x) (h2 : x ≤ 255) : IntKind.u8.wrap x = x := by rw [IntKind.wrap_u8]; omega

theorem mid {c : Int} (h : 0 ≤ c) (h2 : c ≤ 1099511627776) : mm true (mm false c 0) 1099511627776 = c := by
  have e : mm false c 0 = c := by simp only [mm, cond_false, decide_eq_true_eq]; split <;> omega
  rw [e]
  simp only [mm, cond_true, decide_eq_true_eq]; split <;> omega

/-! ### Short words for what a round asks -/

def BS.nw (b : BS) : Int := IntKind.i64.wrap (b.now + 10)
def BS.aw (b : BS) : Int := IntKind.i64.wrap (b.ak + 10)
def BS.kw (b : BS) : Int := IntKind.i64.wrap (b.k + 1)
def BS.mw (b : BS) : Int := mm true (mm false (IntKind.i64.wrap (b.now + 10)) 0) 1099511627776
def BS.kl (b : BS) : Bool := decide (b.k < 2000)
def ND.ok (n : ND) (a1 a2 a3 a4 fb fu : Int) : Bool := hearOk n.i0 n.i1 n.i2 n.i3 n.x n.pl a1 a2 a3 a4 fb fu
def SR.sel (s : SR) : Int := selI s.i0 s.i1 s.i2 s.i3 s.p

structure HB (b : BS) : Prop where
  n0 : 0 ≤ b.now
  n1 : b.now ≤ 30000
  k0 : 0 ≤ b.k
  k1 : b.k < 2000
  ak : b.ak = b.now

structure HS (s : SR) (fb fu : Int) : Prop where
  u0 : 0 ≤ fu
  u3 : fu ≤ 3
  b0 : 0 ≤ fb
  p0 : 0 ≤ s.p
  p3 : s.p ≤ 3
  b1 : -1 ≤ s.b
  b32 : s.b ≤ 32
  o : s.o = false
  f : s.f = false

structure HT (s : SR) : Prop where
  f : s.f = false
  o : s.o = false
  p0 : 0 ≤ s.p
  p3 : s.p ≤ 3
  b1 : -1 ≤ s.b
  b32 : s.b ≤ 32

theorem le1 {a b : Int} (h : a ≤ b) : Int.NonNeg (b - a) := Int.le_def.1 h

section
variable {b : BS}
theorem HB.nw (H : HB b) : b.now + 10 = b.nw := by have := H.n0; have := H.n1; exact (w64 (by omega) (by omega)).symm
theorem HB.kw (H : HB b) : b.k + 1 = b.kw := by have := H.k0; have := H.k1; exact (w64 (by omega) (by omega)).symm
theorem HB.mw (H : HB b) : b.now + 10 = b.mw := by
  have h0 := H.n0
  have h1 := H.n1
  have e : IntKind.i64.wrap (b.now + 10) = b.now + 10 := w64 (by omega) (by omega)
  unfold BS.mw
  rw [e, mid (by omega) (by omega)]
theorem HB.kl (H : HB b) : b.kl = true := decide_eq_true H.k1
theorem HB.due (H : HB b) : decide (b.mw ≥ b.aw) = true := by
  have e : b.aw = b.nw := by unfold BS.aw BS.nw; rw [H.ak]
  rw [e, ← H.nw, ← H.mw]
  simp
end
theorem nct {c : Bool} (h : c = true) : (!c) = false := by rw [h]; rfl
theorem ncf {c : Bool} (h : c = false) : (!c) = true := by rw [h]; rfl
theorem w8x {x : Int} (h : 0 ≤ x ∧ x < 127) : x + 1 = IntKind.u8.wrap (x + 1) := (w8 (by omega) (by omega)).symm
end Go.Proofs.YtpdgklkcjegkfaaGreat
