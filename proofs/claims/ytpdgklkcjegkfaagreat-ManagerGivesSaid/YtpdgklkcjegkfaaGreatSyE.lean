/-
  Behind the symbolic executor: where a template's objects lie, found by a walk.
-/
import Derived.Test.YtpdgklkcjegkfaaGreatSyD
namespace Go.Sx
open Go
noncomputable section

mutual
def mtV : AV → AV → List (Pos × Pos)
  | .ptr i _, .ptr j _ => [(i, j)]
  | .slc i _ _ _, .slc j _ _ _ => [(i, j)]
  | .fn _ a c, .fn _ b d => mtL a b ++ mtL c d
  | .agg a, .agg b => mtL a b
  | .tup a, .tup b => mtL a b
  | _, _ => []
def mtL : List AV → List AV → List (Pos × Pos)
  | x :: xs, y :: ys => mtV x y ++ mtL xs ys
  | _, _ => []
end

def memP : Pos → List (Pos × Pos) → Bool
  | _, [] => false
  | i, (a, _) :: l => Pos.eqb a i || memP i l

def objOf : Pos → List (Pos × List AV) → Option (List AV)
  | _, [] => none
  | i, (a, cs) :: l => bif Pos.eqb a i then some cs else objOf i l

def walkT (objs : List (Pos × List AV)) (h : PT AObj) : Nat → List (Pos × Pos) → List (Pos × Pos) → List (Pos × Pos)
  | 0, _, acc => acc
  | _ + 1, [], acc => acc
  | n + 1, (i, j) :: rest, acc =>
    bif memP i acc then walkT objs h n rest acc else
    match objOf i objs, getF j h with
    | some cs, some (.cells ds) => walkT objs h n (mtL cs ds ++ rest) ((i, j) :: acc)
    | _, _ => walkT objs h n rest ((i, j) :: acc)

def mtF (tm : PT AV) : List (Nat × AV) → List (Pos × Pos)
  | [] => []
  | (t, v) :: l => match getF (Pos.slot t) tm with
    | some u => mtV v u ++ mtF tm l
    | none => mtF tm l

/-- Where the objects of a template lie. -/
def auto (t : Tm) (tm : PT AV) (h : PT AObj) : List (Pos × Pos) := walkT t.objs h 1000 (mtF tm t.tms) []

def fitOA (t : Tm) (x : Option Nat) : ER → Option Prop
  | .at y f s => fitOR t (auto t f.tm s.heap) x (.at y f s)
  | .fail => none

section
variable {P : Program} {K : FuncId → List AV → AS → Option CR}

/-- One piece of code, from a state to a template. -/
theorem code_fitA (hK : CallOK P fun g args s => (K g args s).getD .fail) (hm : P.follows .mixedOrders = true) {n M : Nat} {c : Code} (hd : dOk M c = true) {x : Option Nat} {f : Fr} {s : AS} {t : Tm}
    (hh : holdsO (fitOA t x ((fast P K n).1 (cC P c) f s))) {w0 w : World} {ρ : Env} {a : Act} (g : Got w0 ρ s w) (hf : FR ρ M f a) {Q : Exit → Act → World → Prop}
    (k : ∀ ρ' a' w' orc, Got w0 ρ' ⟨t.heap, t.next, orc, True⟩ w' → FR ρ' M ⟨mkF t.tms, []⟩ a' → Q (exitOf x) a' w') : c.wp P Q a w := by
  cases hr : (fast P K n).1 (cC P c) f s with
  | fail => rw [hr] at hh; exact hh.elim
  | «at» y f' s' =>
    rw [hr] at hh
    refine code_fitR (n := n) hK hm hd (t := t) (σ := auto t f'.tm s'.heap) (x := x) ?_ g hf k
    rw [hr]
    exact hh
end
end
end Go.Sx
