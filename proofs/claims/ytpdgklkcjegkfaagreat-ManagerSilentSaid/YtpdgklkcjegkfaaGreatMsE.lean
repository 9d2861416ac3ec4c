/-
  ManagerSilent: what the pieces ask, the small ones.
-/
import Derived.Test.YtpdgklkcjegkfaaGreatMsD
import Derived.Lib.SmallJoins
namespace Go.Proofs.YtpdgklkcjegkfaaGreat
open Go Go.Sx

theorem w64 {x : Int} (h : -9223372036854775808 ≤ x) (h2 : x ≤ 9223372036854775807) : IntKind.i64.wrap x = x := by rw [IntKind.wrap_i64]; omega

theorem mid {c : Int} (h : 0 ≤ c) (h2 : c ≤ 1099511627776) : mm true (mm false c 0) 1099511627776 = c := by
  have e : mm false c 0 = c := by simp only [mm, cond_false, decide_eq_true_eq]; split <;> omega
  rw [e]
  simp only [mm, cond_true, decide_eq_true_eq]; split <;> omega

set_option maxHeartbeats 4000000 in
set_option maxRecDepth 100000 in
theorem gL0 (b : Bool) (a h c i : Int) (p : Option Addr) (n q : Nat) (hi : i < n) : holdsO (stL0 b a h c i p n q) := by
  have e : holdsO (stL0 b a h c i p n q) = (((((((((((((True ∧
 ((decide (i < (↑n : Int)) : Bool) = (true))) ∧
 ((i : Int) = (i))) ∧
 ((a : Int) = (a))) ∧
 ((b : Bool) = (b))) ∧
 ((Value.slice p n q : Value) = (Value.slice p n q))) ∧
 ((c : Int) = (c))) ∧
 ((c : Int) = (c))) ∧
 ((b : Bool) = (b))) ∧
 ((a : Int) = (a))) ∧
 ((h : Int) = (h))) ∧
 ((a : Int) = (a))) ∧
 ((h : Int) = (h)))) := by kernel_rfl
  rw [e]
  and_intros <;> first | trivial | rfl | (simp; done) | (simp; omega) | omega

set_option maxHeartbeats 4000000 in
set_option maxRecDepth 100000 in
theorem gX (b : Bool) (a h c i : Int) (p : Option Addr) (n q : Nat) (hi : ¬ i < n) : holdsO (stX b a h c i p n q) := by
  have e : holdsO (stX b a h c i p n q) = (((((((((((((True ∧
 ((decide (i < (↑n : Int)) : Bool) = (false))) ∧
 ((i : Int) = (i))) ∧
 ((a : Int) = (a))) ∧
 ((b : Bool) = (b))) ∧
 ((Value.slice p n q : Value) = (Value.slice p n q))) ∧
 ((c : Int) = (c))) ∧
 ((c : Int) = (c))) ∧
 ((b : Bool) = (b))) ∧
 ((a : Int) = (a))) ∧
 ((h : Int) = (h))) ∧
 ((a : Int) = (a))) ∧
 ((h : Int) = (h)))) := by kernel_rfl
  rw [e]
  and_intros <;> first | trivial | rfl | (simp; done) | (simp; omega) | omega

set_option maxHeartbeats 4000000 in
set_option maxRecDepth 100000 in
theorem gI0 (b : Bool) (a h c i : Int) (v : Value) (hc : 1000 ≤ c) (hc2 : c ≤ 100000) : holdsO (stI0 b a h c i v) := by
  have e : holdsO (stI0 b a h c i v) = (((((((((((((((((True ∧
 ((decide (mm true (mm false c 0) 1099511627776 ≥ 0) : Bool) = (true))) ∧
 ((decide (mm true (mm false c 0) 1099511627776 ≥ 0) : Bool) = (true))) ∧
 ((decide (mm true (mm false c 0) 1099511627776 ≥ 0) : Bool) = (true))) ∧
 ((!decide (mm true (mm false c 0) 1099511627776 ≤ 1099511627776) : Bool) = (false))) ∧
 ((mm true (mm false c 0) 1099511627776 : Int) = (mm true (mm false c 0) 1099511627776))) ∧
 ((i : Int) = (i))) ∧
 ((a : Int) = (a))) ∧
 ((b : Bool) = (b))) ∧
 ((v : Value) = (v))) ∧
 ((c : Int) = (c))) ∧
 ((c : Int) = (mm true (mm false c 0) 1099511627776))) ∧
 ((b : Bool) = (b))) ∧
 ((a : Int) = (a))) ∧
 ((c : Int) = (mm true (mm false c 0) 1099511627776))) ∧
 ((a : Int) = (a))) ∧
 ((c : Int) = (mm true (mm false c 0) 1099511627776)))) := by kernel_rfl
  rw [e]
  have m1 : mm true (mm false c 0) 1099511627776 = c := mid (by omega) (by omega)
  simp only [m1]
  and_intros <;> first | trivial | rfl | (simp; done) | (simp; omega) | omega

set_option maxHeartbeats 4000000 in
set_option maxRecDepth 100000 in
theorem gI2 (b : Bool) (a c i d : Int) (v : Value) (ha : 0 < a) (ha2 : a < 256) (hc : 1000 ≤ c) (hc2 : c ≤ 100000) (hd : 0 ≤ d) (hd2 : d < a) : holdsO (stI2 b a c i d v) := by
  have e : holdsO (stI2 b a c i d v) = (((((((((((((((((((((((((((((((((True ∧
 ((decide (mm true (mm false (IntKind.i64.wrap (c + d)) 0) 1099511627776 ≥ 0) : Bool) = (true))) ∧
 ((decide (mm true (mm false (IntKind.i64.wrap (c + d)) 0) 1099511627776 ≥ 0) : Bool) = (true))) ∧
 ((decide (mm true (mm false (IntKind.i64.wrap (c + d)) 0) 1099511627776 ≥ 0) : Bool) = (true))) ∧
 ((!decide (mm true (mm false (IntKind.i64.wrap (c + d)) 0) 1099511627776 ≤ 1099511627776) : Bool) = (false))) ∧
 ((decide (mm true (mm false (IntKind.i64.wrap (c + d)) 0) 1099511627776 ≥ c) : Bool) = (true))) ∧
 ((decide (mm true (mm false (IntKind.i64.wrap (c + d)) 0) 1099511627776 ≥ c) : Bool) = (true))) ∧
 ((decide (mm true (mm false (IntKind.i64.wrap (c + d)) 0) 1099511627776 ≥ c) : Bool) = (true))) ∧
 ((decide (mm true (mm false (IntKind.i64.wrap (c + d)) 0) 1099511627776 ≥ c) : Bool) = (true))) ∧
 ((decide (mm true (mm false (IntKind.i64.wrap (c + d)) 0) 1099511627776 ≥ c) : Bool) = (true))) ∧
 ((decide (mm true (mm false (IntKind.i64.wrap (c + d)) 0) 1099511627776 ≥ c) : Bool) = (true))) ∧
 ((decide (mm true (mm false (IntKind.i64.wrap (c + d)) 0) 1099511627776 ≥ c) : Bool) = (true))) ∧
 ((decide (mm true (mm false (IntKind.i64.wrap (c + d)) 0) 1099511627776 ≥ c) : Bool) = (true))) ∧
 ((decide (mm true (mm false (IntKind.i64.wrap (c + d)) 0) 1099511627776 ≥ c) : Bool) = (true))) ∧
 ((decide (mm true (mm false (IntKind.i64.wrap (c + d)) 0) 1099511627776 ≥ c) : Bool) = (true))) ∧
 ((decide (mm true (mm false (IntKind.i64.wrap (c + d)) 0) 1099511627776 ≥ c) : Bool) = (true))) ∧
 ((decide (mm true (mm false (IntKind.i64.wrap (c + d)) 0) 1099511627776 ≥ c) : Bool) = (true))) ∧
 ((c : Int) = (c))) ∧
 ((c : Int) = (c))) ∧
 ((a : Int) = (a))) ∧
 ((decide (IntKind.i64.wrap (mm true (mm false (IntKind.i64.wrap (c + d)) 0) 1099511627776 - c) ≥ a) : Bool) = (false))) ∧
 ((mm true (mm false (IntKind.i64.wrap (c + d)) 0) 1099511627776 : Int) = (mm true (mm false (IntKind.i64.wrap (c + d)) 0) 1099511627776))) ∧
 ((i : Int) = (i))) ∧
 ((a : Int) = (a))) ∧
 ((b : Bool) = (b))) ∧
 ((v : Value) = (v))) ∧
 ((c + d : Int) = (IntKind.i64.wrap (c + d)))) ∧
 ((c + d : Int) = (mm true (mm false (IntKind.i64.wrap (c + d)) 0) 1099511627776))) ∧
 ((b : Bool) = (b))) ∧
 ((a : Int) = (a))) ∧
 ((c : Int) = (c))) ∧
 ((a : Int) = (a))) ∧
 ((c : Int) = (c)))) := by kernel_rfl
  rw [e]
  have w1 : IntKind.i64.wrap (c + d) = c + d := w64 (by omega) (by omega)
  have m1 : mm true (mm false (c + d) 0) 1099511627776 = c + d := mid (by omega) (by omega)
  have w2 : IntKind.i64.wrap (c + d - c) = c + d - c := w64 (by omega) (by omega)
  simp only [w1, m1, w2]
  and_intros <;> first | trivial | rfl | (simp; done) | (simp; omega) | omega

set_option maxHeartbeats 4000000 in
set_option maxRecDepth 100000 in
theorem gL9 (b : Bool) (a h c i : Int) (v : Value) (hi : 0 ≤ i) (hi2 : i < 100) : holdsO (stL9 b a h c i v) := by
  have e : holdsO (stL9 b a h c i v) = ((((((((((((True ∧
 ((i + 1 : Int) = (IntKind.i64.wrap (i + 1)))) ∧
 ((a : Int) = (a))) ∧
 ((b : Bool) = (b))) ∧
 ((v : Value) = (v))) ∧
 ((c : Int) = (c))) ∧
 ((c : Int) = (c))) ∧
 ((b : Bool) = (b))) ∧
 ((a : Int) = (a))) ∧
 ((h : Int) = (h))) ∧
 ((a : Int) = (a))) ∧
 ((h : Int) = (h)))) := by kernel_rfl
  rw [e]
  have w1 : IntKind.i64.wrap (i + 1) = i + 1 := w64 (by omega) (by omega)
  simp only [w1]
  and_intros <;> first | trivial | rfl | (simp; done) | (simp; omega) | omega

set_option maxHeartbeats 4000000 in
set_option maxRecDepth 100000 in
theorem gB (b : Bool) (a h c : Int) (v : Value)  : holdsO (stB b a h c v) := by
  have e : holdsO (stB b a h c v) = ((((((((((((True ∧
 ((0 : Int) = (0))) ∧
 ((a : Int) = (a))) ∧
 ((b : Bool) = (b))) ∧
 ((v : Value) = (v))) ∧
 ((c : Int) = (c))) ∧
 ((c : Int) = (c))) ∧
 ((b : Bool) = (b))) ∧
 ((a : Int) = (a))) ∧
 ((h : Int) = (h))) ∧
 ((a : Int) = (a))) ∧
 ((h : Int) = (h)))) := by kernel_rfl
  rw [e]
  and_intros <;> first | trivial | rfl | (simp; done) | (simp; omega) | omega

set_option maxHeartbeats 4000000 in
set_option maxRecDepth 100000 in
theorem g0 (b : Bool) (v : Value)  : holdsO (st0 b v) := by
  have e : holdsO (st0 b v) = (((True ∧
 ((b : Bool) = (b))) ∧
 ((true : Bool) = (true)))) := by kernel_rfl
  rw [e]
  and_intros <;> first | trivial | rfl | (simp; done) | (simp; omega) | omega

set_option maxHeartbeats 4000000 in
set_option maxRecDepth 100000 in
theorem gN (b : Bool) (a : Int) (p : Option Addr) (n q : Nat) (ha : 0 < a) (ha2 : a < 256) (hn : 50 < n) : holdsO (stN b a p n q) := by
  have e : holdsO (stN b a p n q) = ((((((((((((((((((True ∧
 ((decide (IntKind.i64.wrap a ≥ 0) : Bool) = (true))) ∧
 ((decide (IntKind.i64.wrap a ≥ 0) : Bool) = (true))) ∧
 ((decide (IntKind.i64.wrap a ≥ 0) : Bool) = (true))) ∧
 ((decide (IntKind.i64.wrap a ≥ 0) : Bool) = (true))) ∧
 ((decide (IntKind.i64.wrap a ≤ 1099511627776) : Bool) = (true))) ∧
 ((decide (IntKind.i64.wrap a ≤ 1099511627776) : Bool) = (true))) ∧
 ((decide (IntKind.i64.wrap a ≤ 1099511627776) : Bool) = (true))) ∧
 ((decide (IntKind.i64.wrap a ≤ 1099511627776) : Bool) = (true))) ∧
 ((decide (IntKind.i64.wrap a ≤ 1099511627776) : Bool) = (true))) ∧
 ((b : Bool) = (b))) ∧
 ((IntKind.i64.wrap a : Int) = (IntKind.i64.wrap a))) ∧
 ((a == 0 : Bool) = (false))) ∧
 ((a == 0 : Bool) = (false))) ∧
 ((a == 0 : Bool) = (false))) ∧
 ((a == 0 : Bool) = (false))) ∧
 ((decide ((↑n : Int) > 50) : Bool) = (true))) ∧
 ((true : Bool) = (true)))) := by kernel_rfl
  rw [e]
  have w1 : IntKind.i64.wrap a = a := w64 (by omega) (by omega)
  simp only [w1]
  and_intros <;> first | trivial | rfl | (simp; done) | (simp; omega) | omega

end Go.Proofs.YtpdgklkcjegkfaaGreat
