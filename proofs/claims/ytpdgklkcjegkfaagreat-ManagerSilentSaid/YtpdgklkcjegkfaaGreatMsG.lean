/-
  ManagerSilent: what the pieces ask, ahead of the loop (false).
-/
import Derived.Test.YtpdgklkcjegkfaaGreatMsE
import Derived.Lib.SmallJoins
namespace Go.Proofs.YtpdgklkcjegkfaaGreat
open Go Go.Sx

set_option maxHeartbeats 4000000 in
set_option maxRecDepth 100000 in
theorem gA_false (a : Int) (p : Option Addr) (n q : Nat) (ha : 0 < a) (ha2 : a < 256) (hn : n ≤ 50) : holdsO (stA false a p n q) := by
  have e : holdsO (stA false a p n q) = (((((((((((((((((((((((((((((((((((((((((((((((True ∧
 ((decide (IntKind.i64.wrap a ≥ 0) : Bool) = (true))) ∧
 ((decide (IntKind.i64.wrap a ≥ 0) : Bool) = (true))) ∧
 ((decide (IntKind.i64.wrap a ≥ 0) : Bool) = (true))) ∧
 ((decide (IntKind.i64.wrap a ≥ 0) : Bool) = (true))) ∧
 ((decide (IntKind.i64.wrap a ≤ 1099511627776) : Bool) = (true))) ∧
 ((decide (IntKind.i64.wrap a ≤ 1099511627776) : Bool) = (true))) ∧
 ((decide (IntKind.i64.wrap a ≤ 1099511627776) : Bool) = (true))) ∧
 ((decide (IntKind.i64.wrap a ≤ 1099511627776) : Bool) = (true))) ∧
 ((decide (IntKind.i64.wrap a ≤ 1099511627776) : Bool) = (true))) ∧
 ((false : Bool) = (false))) ∧
 ((IntKind.i64.wrap a : Int) = (IntKind.i64.wrap a))) ∧
 ((a == 0 : Bool) = (false))) ∧
 ((a == 0 : Bool) = (false))) ∧
 ((a == 0 : Bool) = (false))) ∧
 ((a == 0 : Bool) = (false))) ∧
 ((decide ((↑n : Int) > 50) : Bool) = (false))) ∧
 ((false : Bool) = (false))) ∧
 ((false : Bool) = (false))) ∧
 ((false : Bool) = (false))) ∧
 ((false : Bool) = (false))) ∧
 ((false : Bool) = (false))) ∧
 ((false : Bool) = (false))) ∧
 ((decide (IntKind.i64.wrap a ≥ 0) : Bool) = (true))) ∧
 ((decide (IntKind.i64.wrap a ≥ 0) : Bool) = (true))) ∧
 ((decide (IntKind.i64.wrap a ≥ 0) : Bool) = (true))) ∧
 ((!decide (IntKind.i64.wrap a ≤ 1099511627776) : Bool) = (false))) ∧
 ((decide (IntKind.i64.wrap a > 0) : Bool) = (true))) ∧
 ((decide (IntKind.i64.wrap a > 0) : Bool) = (true))) ∧
 ((decide (IntKind.i64.wrap a > 0) : Bool) = (true))) ∧
 ((decide (IntKind.i64.wrap a > 0) : Bool) = (true))) ∧
 ((decide (IntKind.i64.wrap a > 0) : Bool) = (true))) ∧
 ((decide (IntKind.i64.wrap a > 0) : Bool) = (true))) ∧
 ((decide (IntKind.i64.wrap a > 0) : Bool) = (true))) ∧
 ((decide (IntKind.i64.wrap a > 0) : Bool) = (true))) ∧
 ((decide (IntKind.i64.wrap a > 0) : Bool) = (true))) ∧
 ((IntKind.i64.wrap a : Int) = (IntKind.i64.wrap a))) ∧
 ((a : Int) = (a))) ∧
 ((false : Bool) = (false))) ∧
 ((Value.slice p n q : Value) = (Value.slice p n q))) ∧
 ((1000 : Int) = (1000))) ∧
 ((mm true (mm false 1000 0) 1099511627776 : Int) = (mm true (mm false 1000 0) 1099511627776))) ∧
 ((false : Bool) = (false))) ∧
 ((a : Int) = (IntKind.i64.wrap a))) ∧
 ((mm true (mm false 1000 0) 1099511627776 : Int) = (mm true (mm false 1000 0) 1099511627776))) ∧
 ((a : Int) = (IntKind.i64.wrap a))) ∧
 ((mm true (mm false 1000 0) 1099511627776 : Int) = (mm true (mm false 1000 0) 1099511627776)))) := by kernel_rfl
  rw [e]
  have w1 : IntKind.i64.wrap a = a := w64 (by omega) (by omega)
  have m1 : mm true (mm false 1000 0) 1099511627776 = 1000 := mid (by omega) (by omega)
  simp only [w1, m1]
  and_intros <;> first | trivial | rfl | (simp; done) | (simp; omega) | omega

end Go.Proofs.YtpdgklkcjegkfaaGreat
