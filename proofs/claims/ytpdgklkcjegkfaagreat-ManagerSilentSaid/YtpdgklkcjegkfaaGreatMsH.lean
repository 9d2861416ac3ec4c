/-
  ManagerSilent: what the pieces ask, behind the loop (true).
-/
import Derived.Test.YtpdgklkcjegkfaaGreatMsE
import Derived.Lib.SmallJoins
namespace Go.Proofs.YtpdgklkcjegkfaaGreat
open Go Go.Sx

set_option maxHeartbeats 4000000 in
set_option maxRecDepth 100000 in
theorem gZ_true (a h c i : Int) (v : Value) (ha : 0 < a) (ha2 : a < 256) (hc : 1000 ≤ c) (hc2 : c ≤ 100000) : holdsO (stZ true a h c i v) := by
  have e : holdsO (stZ true a h c i v) = (((((((((((((((((((((((((((((((((((((((((((((((((((((((((((((((((((((((((((((((((True ∧
 ((decide (mm true (mm false c 0) 1099511627776 ≥ 0) : Bool) = (true))) ∧
 ((decide (mm true (mm false c 0) 1099511627776 ≥ 0) : Bool) = (true))) ∧
 ((decide (mm true (mm false c 0) 1099511627776 ≥ 0) : Bool) = (true))) ∧
 ((!decide (mm true (mm false c 0) 1099511627776 ≤ 1099511627776) : Bool) = (false))) ∧
 ((mm true (mm false c 0) 1099511627776 : Int) = (mm true (mm false c 0) 1099511627776))) ∧
 ((decide (mm true (mm false (IntKind.i64.wrap (IntKind.i64.wrap (c + IntKind.i64.wrap a) - 1)) 0) 1099511627776 ≥ 0) : Bool) = (true))) ∧
 ((decide (mm true (mm false (IntKind.i64.wrap (IntKind.i64.wrap (c + IntKind.i64.wrap a) - 1)) 0) 1099511627776 ≥ 0) : Bool) = (true))) ∧
 ((decide (mm true (mm false (IntKind.i64.wrap (IntKind.i64.wrap (c + IntKind.i64.wrap a) - 1)) 0) 1099511627776 ≥ 0) : Bool) = (true))) ∧
 ((!decide (mm true (mm false (IntKind.i64.wrap (IntKind.i64.wrap (c + IntKind.i64.wrap a) - 1)) 0) 1099511627776 ≤ 1099511627776) : Bool) = (false))) ∧
 ((decide (mm true (mm false (IntKind.i64.wrap (IntKind.i64.wrap (c + IntKind.i64.wrap a) - 1)) 0) 1099511627776 ≥ mm true (mm false c 0) 1099511627776) : Bool) = (true))) ∧
 ((decide (mm true (mm false (IntKind.i64.wrap (IntKind.i64.wrap (c + IntKind.i64.wrap a) - 1)) 0) 1099511627776 ≥ mm true (mm false c 0) 1099511627776) : Bool) = (true))) ∧
 ((decide (mm true (mm false (IntKind.i64.wrap (IntKind.i64.wrap (c + IntKind.i64.wrap a) - 1)) 0) 1099511627776 ≥ mm true (mm false c 0) 1099511627776) : Bool) = (true))) ∧
 ((decide (mm true (mm false (IntKind.i64.wrap (IntKind.i64.wrap (c + IntKind.i64.wrap a) - 1)) 0) 1099511627776 ≥ mm true (mm false c 0) 1099511627776) : Bool) = (true))) ∧
 ((decide (mm true (mm false (IntKind.i64.wrap (IntKind.i64.wrap (c + IntKind.i64.wrap a) - 1)) 0) 1099511627776 ≥ mm true (mm false c 0) 1099511627776) : Bool) = (true))) ∧
 ((decide (mm true (mm false (IntKind.i64.wrap (IntKind.i64.wrap (c + IntKind.i64.wrap a) - 1)) 0) 1099511627776 ≥ mm true (mm false c 0) 1099511627776) : Bool) = (true))) ∧
 ((decide (mm true (mm false (IntKind.i64.wrap (IntKind.i64.wrap (c + IntKind.i64.wrap a) - 1)) 0) 1099511627776 ≥ mm true (mm false c 0) 1099511627776) : Bool) = (true))) ∧
 ((decide (mm true (mm false (IntKind.i64.wrap (IntKind.i64.wrap (c + IntKind.i64.wrap a) - 1)) 0) 1099511627776 ≥ mm true (mm false c 0) 1099511627776) : Bool) = (true))) ∧
 ((decide (mm true (mm false (IntKind.i64.wrap (IntKind.i64.wrap (c + IntKind.i64.wrap a) - 1)) 0) 1099511627776 ≥ mm true (mm false c 0) 1099511627776) : Bool) = (true))) ∧
 ((decide (mm true (mm false (IntKind.i64.wrap (IntKind.i64.wrap (c + IntKind.i64.wrap a) - 1)) 0) 1099511627776 ≥ mm true (mm false c 0) 1099511627776) : Bool) = (true))) ∧
 ((decide (mm true (mm false (IntKind.i64.wrap (IntKind.i64.wrap (c + IntKind.i64.wrap a) - 1)) 0) 1099511627776 ≥ mm true (mm false c 0) 1099511627776) : Bool) = (true))) ∧
 ((decide (mm true (mm false (IntKind.i64.wrap (IntKind.i64.wrap (c + IntKind.i64.wrap a) - 1)) 0) 1099511627776 ≥ mm true (mm false c 0) 1099511627776) : Bool) = (true))) ∧
 ((mm true (mm false c 0) 1099511627776 : Int) = (mm true (mm false c 0) 1099511627776))) ∧
 ((mm true (mm false c 0) 1099511627776 : Int) = (mm true (mm false c 0) 1099511627776))) ∧
 ((a : Int) = (a))) ∧
 ((decide (IntKind.i64.wrap (mm true (mm false (IntKind.i64.wrap (IntKind.i64.wrap (c + IntKind.i64.wrap a) - 1)) 0) 1099511627776 - mm true (mm false c 0) 1099511627776) ≥ a) : Bool) = (false))) ∧
 ((mm true (mm false (IntKind.i64.wrap (IntKind.i64.wrap (c + IntKind.i64.wrap a) - 1)) 0) 1099511627776 : Int) = (mm true (mm false (IntKind.i64.wrap (IntKind.i64.wrap (c + IntKind.i64.wrap a) - 1)) 0) 1099511627776))) ∧
 ((decide (mm true (mm false (IntKind.i64.wrap (c + IntKind.i64.wrap a)) 0) 1099511627776 ≥ 0) : Bool) = (true))) ∧
 ((decide (mm true (mm false (IntKind.i64.wrap (c + IntKind.i64.wrap a)) 0) 1099511627776 ≥ 0) : Bool) = (true))) ∧
 ((decide (mm true (mm false (IntKind.i64.wrap (c + IntKind.i64.wrap a)) 0) 1099511627776 ≥ 0) : Bool) = (true))) ∧
 ((!decide (mm true (mm false (IntKind.i64.wrap (c + IntKind.i64.wrap a)) 0) 1099511627776 ≤ 1099511627776) : Bool) = (false))) ∧
 ((decide (mm true (mm false (IntKind.i64.wrap (c + IntKind.i64.wrap a)) 0) 1099511627776 ≥ mm true (mm false c 0) 1099511627776) : Bool) = (true))) ∧
 ((decide (mm true (mm false (IntKind.i64.wrap (c + IntKind.i64.wrap a)) 0) 1099511627776 ≥ mm true (mm false c 0) 1099511627776) : Bool) = (true))) ∧
 ((decide (mm true (mm false (IntKind.i64.wrap (c + IntKind.i64.wrap a)) 0) 1099511627776 ≥ mm true (mm false c 0) 1099511627776) : Bool) = (true))) ∧
 ((decide (mm true (mm false (IntKind.i64.wrap (c + IntKind.i64.wrap a)) 0) 1099511627776 ≥ mm true (mm false c 0) 1099511627776) : Bool) = (true))) ∧
 ((decide (mm true (mm false (IntKind.i64.wrap (c + IntKind.i64.wrap a)) 0) 1099511627776 ≥ mm true (mm false c 0) 1099511627776) : Bool) = (true))) ∧
 ((decide (mm true (mm false (IntKind.i64.wrap (c + IntKind.i64.wrap a)) 0) 1099511627776 ≥ mm true (mm false c 0) 1099511627776) : Bool) = (true))) ∧
 ((decide (mm true (mm false (IntKind.i64.wrap (c + IntKind.i64.wrap a)) 0) 1099511627776 ≥ mm true (mm false c 0) 1099511627776) : Bool) = (true))) ∧
 ((decide (mm true (mm false (IntKind.i64.wrap (c + IntKind.i64.wrap a)) 0) 1099511627776 ≥ mm true (mm false c 0) 1099511627776) : Bool) = (true))) ∧
 ((decide (mm true (mm false (IntKind.i64.wrap (c + IntKind.i64.wrap a)) 0) 1099511627776 ≥ mm true (mm false c 0) 1099511627776) : Bool) = (true))) ∧
 ((decide (mm true (mm false (IntKind.i64.wrap (c + IntKind.i64.wrap a)) 0) 1099511627776 ≥ mm true (mm false c 0) 1099511627776) : Bool) = (true))) ∧
 ((decide (mm true (mm false (IntKind.i64.wrap (c + IntKind.i64.wrap a)) 0) 1099511627776 ≥ mm true (mm false c 0) 1099511627776) : Bool) = (true))) ∧
 ((decide (mm true (mm false (IntKind.i64.wrap (c + IntKind.i64.wrap a)) 0) 1099511627776 ≥ mm true (mm false c 0) 1099511627776) : Bool) = (true))) ∧
 ((mm true (mm false c 0) 1099511627776 : Int) = (mm true (mm false c 0) 1099511627776))) ∧
 ((mm true (mm false c 0) 1099511627776 : Int) = (mm true (mm false c 0) 1099511627776))) ∧
 ((a : Int) = (a))) ∧
 ((decide (IntKind.i64.wrap (mm true (mm false (IntKind.i64.wrap (c + IntKind.i64.wrap a)) 0) 1099511627776 - mm true (mm false c 0) 1099511627776) ≥ a) : Bool) = (true))) ∧
 ((mm true (mm false (IntKind.i64.wrap (c + IntKind.i64.wrap a)) 0) 1099511627776 : Int) = (mm true (mm false (IntKind.i64.wrap (c + IntKind.i64.wrap a)) 0) 1099511627776))) ∧
 ((false : Bool) = (false))) ∧
 ((false : Bool) = (false))) ∧
 ((false : Bool) = (false))) ∧
 ((false : Bool) = (false))) ∧
 ((false : Bool) = (false))) ∧
 ((false : Bool) = (false))) ∧
 ((mm true (mm false (IntKind.i64.wrap (c + IntKind.i64.wrap a)) 0) 1099511627776 : Int) = (mm true (mm false (IntKind.i64.wrap (c + IntKind.i64.wrap a)) 0) 1099511627776))) ∧
 ((true : Bool) = (true))) ∧
 ((true : Bool) = (true))) ∧
 ((true : Bool) = (true))) ∧
 ((true : Bool) = (true))) ∧
 ((true : Bool) = (true))) ∧
 ((true : Bool) = (true))) ∧
 ((false : Bool) = (false))) ∧
 ((false : Bool) = (false))) ∧
 ((false : Bool) = (false))) ∧
 ((false : Bool) = (false))) ∧
 ((false : Bool) = (false))) ∧
 ((false : Bool) = (false))) ∧
 ((decide (mm true (mm false (IntKind.i64.wrap (IntKind.i64.wrap (c + IntKind.i64.wrap a) + 1)) 0) 1099511627776 ≥ 0) : Bool) = (true))) ∧
 ((decide (mm true (mm false (IntKind.i64.wrap (IntKind.i64.wrap (c + IntKind.i64.wrap a) + 1)) 0) 1099511627776 ≥ 0) : Bool) = (true))) ∧
 ((decide (mm true (mm false (IntKind.i64.wrap (IntKind.i64.wrap (c + IntKind.i64.wrap a) + 1)) 0) 1099511627776 ≥ 0) : Bool) = (true))) ∧
 ((!decide (mm true (mm false (IntKind.i64.wrap (IntKind.i64.wrap (c + IntKind.i64.wrap a) + 1)) 0) 1099511627776 ≤ 1099511627776) : Bool) = (false))) ∧
 ((mm true (mm false (IntKind.i64.wrap (IntKind.i64.wrap (c + IntKind.i64.wrap a) + 1)) 0) 1099511627776 : Int) = (mm true (mm false (IntKind.i64.wrap (IntKind.i64.wrap (c + IntKind.i64.wrap a) + 1)) 0) 1099511627776))) ∧
 ((mm true (mm false (IntKind.i64.wrap (IntKind.i64.wrap (c + IntKind.i64.wrap a) + 1)) 0) 1099511627776 : Int) = (mm true (mm false (IntKind.i64.wrap (IntKind.i64.wrap (c + IntKind.i64.wrap a) + 1)) 0) 1099511627776))) ∧
 ((mm true (mm false (IntKind.i64.wrap (IntKind.i64.wrap (c + IntKind.i64.wrap a) + 1)) 0) 1099511627776 : Int) = (mm true (mm false (IntKind.i64.wrap (IntKind.i64.wrap (c + IntKind.i64.wrap a) + 1)) 0) 1099511627776))) ∧
 ((true : Bool) = (true))) ∧
 ((true : Bool) = (true))) ∧
 ((true : Bool) = (true))) ∧
 ((true : Bool) = (true))) ∧
 ((true : Bool) = (true))) ∧
 ((true : Bool) = (true))) ∧
 ((true : Bool) = (true)))) := by kernel_rfl
  rw [e]
  have w1 : IntKind.i64.wrap a = a := w64 (by omega) (by omega)
  have w2 : IntKind.i64.wrap (c + a) = c + a := w64 (by omega) (by omega)
  have w3 : IntKind.i64.wrap (c + a - 1) = c + a - 1 := w64 (by omega) (by omega)
  have w4 : IntKind.i64.wrap (c + a + 1) = c + a + 1 := w64 (by omega) (by omega)
  have m1 : mm true (mm false c 0) 1099511627776 = c := mid (by omega) (by omega)
  have m2 : mm true (mm false (c + a) 0) 1099511627776 = c + a := mid (by omega) (by omega)
  have m3 : mm true (mm false (c + a - 1) 0) 1099511627776 = c + a - 1 := mid (by omega) (by omega)
  have m4 : mm true (mm false (c + a + 1) 0) 1099511627776 = c + a + 1 := mid (by omega) (by omega)
  have w5 : IntKind.i64.wrap (c + a - c) = c + a - c := w64 (by omega) (by omega)
  have w6 : IntKind.i64.wrap (c + a - 1 - c) = c + a - 1 - c := w64 (by omega) (by omega)
  simp only [w1, w2, w3, w4, m1, m2, m3, m4, w5, w6]
  and_intros <;> first | trivial | rfl | (simp; done) | (simp; omega) | omega

end Go.Proofs.YtpdgklkcjegkfaaGreat
