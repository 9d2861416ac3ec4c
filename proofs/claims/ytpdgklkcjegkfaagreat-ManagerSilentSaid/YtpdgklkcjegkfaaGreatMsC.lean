/-
  ManagerSilent: the pieces, run.
-/
import Derived.Test.YtpdgklkcjegkfaaGreatMsB
namespace Go.Proofs.YtpdgklkcjegkfaaGreat
open Go Go.Sx

section
variable (b : Bool) (a h c i d : Int) (v : Value) (p : Option Addr) (n q : Nat)

def oA : Bool → List Bool
  | true => [true, true, true, true, true, true, true, true, true, false, false, false, false, false, true, true, true, true, true, true, true, true, true, false, true, true, true, true, true, true, true, true, true, true, true, true, true, true, true]
  | false => [true, true, true, true, true, true, true, true, true, false, false, false, false, false, false, false, false, false, false, false, true, true, true, false, true, true, true, true, true, true, true, true, true]
def oL0 : List Bool := [true]
def oX : List Bool := [false]
def oI0 : List Bool := [true, true, true, false]
def oI2 : List Bool := [true, true, true, false, true, true, true, true, true, true, true, true, true, true, true, true, false]
def oZ : Bool → List Bool
  | true => [true, true, true, false, true, true, true, false, true, true, true, true, true, true, true, true, true, true, true, true, false, true, true, true, false, true, true, true, true, true, true, true, true, true, true, true, true, true, false, false, false, false, false, false, true, true, true, true, true, true, false, false, false, false, false, false, true, true, true, false, true, true, true, true, true, true]
  | false => [true, true, true, false, true, true, true, false, true, true, true, true, true, true, true, true, true, true, true, true, false, true, true, true, false, true, true, true, true, true, true, true, true, true, true, true, true, true, true, true, true, true, true, true, false, false, false, false, false, false, true, true, true, false]
def oW : List Bool := [true, true, true, true, true, true, true, true, true, false, false, false, false, true]

def fr (l : List (Nat × AV)) : Fr := { tm := mkF l, ds := [] }

noncomputable def stA : Option Prop := fitO nx (hs b a 1000 1000) (fA a b (.slice p n q) 1000) none (evL Tryz.prog kW 10000 pA (frameOf Tryz.f3 [.sint .u8 a, .sbool b, .raw (.slice p n q)]) { sE with orc := oA b })
noncomputable def stB : Option Prop := fitO nx (hs b a h c) (fB a b v c 0) none (ev Tryz.prog kW 10000 pB (fr (fA a b v c)) (st b a h c []))
noncomputable def stL0 : Option Prop := fitO nx (hs b a h c) (fB a b (.slice p n q) c i) none (ev Tryz.prog kW 10000 pL0 (fr (fB a b (.slice p n q) c i)) (st b a h c oL0))
noncomputable def stX : Option Prop := fitO nx (hs b a h c) (fB a b (.slice p n q) c i) (some 0) (ev Tryz.prog kW 10000 pL0 (fr (fB a b (.slice p n q) c i)) (st b a h c oX))
noncomputable def stI0 : Option Prop := fitO nx (hs b a c c) (fB a b v c i) none (evL Tryz.prog kW 10000 pI0 (fr (fB a b v c i)) (st b a h c oI0))
noncomputable def stI2 : Option Prop := fitO nx (hs b a c (c + d)) (fB a b v (c + d) i) none (ev Tryz.prog kW 10000 pI2 (fr (fC a b v c i d)) (st b a c c oI2))
noncomputable def stL9 : Option Prop := fitO nx (hs b a h c) (fB a b v c (i + 1)) none (ev Tryz.prog kW 10000 pL9 (fr (fB a b v c i)) (st b a h c []))
noncomputable def stZ : Option Prop := endO Tryz.prog Tryz.f3 (ev Tryz.prog kW 10000 pZ (fr (fB a b v c i)) (st b a h c (oZ b)))
noncomputable def st0 : Option Prop := endO Tryz.prog Tryz.f3 (ev Tryz.prog kW 10000 bd (frameOf Tryz.f3 [.int .u8 0, .sbool b, .raw v]) sE)
noncomputable def stN : Option Prop := endO Tryz.prog Tryz.f3 (ev Tryz.prog kW 10000 bd (frameOf Tryz.f3 [.sint .u8 a, .sbool b, .raw (.slice p n q)]) { sE with orc := oW })
end
end Go.Proofs.YtpdgklkcjegkfaaGreat
