/-
  ManagerGives: behind the loop.
-/
import Derived.Test.YtpdgklkcjegkfaaGreatMgO
set_option linter.unusedSimpArgs false
set_option linter.unusedVariables false
namespace Go.Proofs.YtpdgklkcjegkfaaGreat
open Go Go.Sx

set_option maxRecDepth 100000 in
theorem g_E_0_lo (b : BS) (s : SR) (e : Int) (n0 : 0 ≤ b.now) (n1 : b.now ≤ 30000) (f1 : 1 ≤ b.f) (f2 : b.f + 0 ≤ 128) (hh : b.h = 0) (h1 : b.g < 1) : Holds (endO Tryz.prog Tryz.f4 (ev1 qE (fin b e s []) [false, true, true, true, true, true, true])) := by
  have d1 : ((decide (0 > IntKind.i64.wrap (IntKind.i64.wrap (127 - IntKind.i64.wrap b.f) + 1)) : Bool) = (false)) := by exact decide_eq_false (by (try rw [wF2]); (try simp only [wF2, wF1, IntKind.wrap_i64, List.length_cons, List.length_nil]); (try simp); omega)
  have d2 : ((decide (b.g < 1) : Bool) = (true)) := by exact decide_eq_true (by (try rw [wF2]); (try simp only [wF2, wF1, IntKind.wrap_i64, List.length_cons, List.length_nil]); (try simp); omega)
  exact Holds.of (p := ((((((((((True ∧
 (ident (e))) ∧
 ((decide (0 > IntKind.i64.wrap (IntKind.i64.wrap (127 - IntKind.i64.wrap b.f) + 1)) : Bool) = (false))) ∧
 (ident (e))) ∧
 ((decide (b.g < 1) : Bool) = (true))) ∧
 ((decide (b.g < 1) : Bool) = (true))) ∧
 ((decide (b.g < 1) : Bool) = (true))) ∧
 ((decide (b.g < 1) : Bool) = (true))) ∧
 ((decide (b.g < 1) : Bool) = (true))) ∧
 ((decide (b.g < 1) : Bool) = (true))) ∧
 ((true : Bool) = (true)))) (by kernel_rfl) ⟨⟨⟨⟨⟨⟨⟨⟨⟨⟨True.intro, rfl⟩, d1⟩, rfl⟩, d2⟩, d2⟩, d2⟩, d2⟩, d2⟩, d2⟩, rfl⟩

set_option maxRecDepth 100000 in
theorem g_E_0_hi (b : BS) (s : SR) (e : Int) (n0 : 0 ≤ b.now) (n1 : b.now ≤ 30000) (f1 : 1 ≤ b.f) (f2 : b.f + 0 ≤ 128) (hh : b.h = 0) (h1 : 127 < b.g) : Holds (endO Tryz.prog Tryz.f4 (ev1 qE (fin b e s []) [false, false, false, false, true, false, false, false, true])) := by
  have d1 : ((decide (0 > IntKind.i64.wrap (IntKind.i64.wrap (127 - IntKind.i64.wrap b.f) + 1)) : Bool) = (false)) := by exact decide_eq_false (by (try rw [wF2]); (try simp only [wF2, wF1, IntKind.wrap_i64, List.length_cons, List.length_nil]); (try simp); omega)
  have d2 : ((decide (b.g < 1) : Bool) = (false)) := by exact decide_eq_false (by (try rw [wF2]); (try simp only [wF2, wF1, IntKind.wrap_i64, List.length_cons, List.length_nil]); (try simp); omega)
  have d3 : ((decide (b.g > 127) : Bool) = (true)) := by exact decide_eq_true (by (try rw [wF2]); (try simp only [wF2, wF1, IntKind.wrap_i64, List.length_cons, List.length_nil]); (try simp); omega)
  exact Holds.of (p := ((((((((((((True ∧
 (ident (e))) ∧
 ((decide (0 > IntKind.i64.wrap (IntKind.i64.wrap (127 - IntKind.i64.wrap b.f) + 1)) : Bool) = (false))) ∧
 (ident (e))) ∧
 ((decide (b.g < 1) : Bool) = (false))) ∧
 ((decide (b.g < 1) : Bool) = (false))) ∧
 ((decide (b.g < 1) : Bool) = (false))) ∧
 ((decide (b.g > 127) : Bool) = (true))) ∧
 ((decide (b.g < 1) : Bool) = (false))) ∧
 ((decide (b.g < 1) : Bool) = (false))) ∧
 ((decide (b.g < 1) : Bool) = (false))) ∧
 ((decide (b.g > 127) : Bool) = (true))) ∧
 ((true : Bool) = (true)))) (by kernel_rfl) ⟨⟨⟨⟨⟨⟨⟨⟨⟨⟨⟨⟨True.intro, rfl⟩, d1⟩, rfl⟩, d2⟩, d2⟩, d2⟩, d3⟩, d2⟩, d2⟩, d2⟩, d3⟩, rfl⟩

set_option maxRecDepth 100000 in
theorem g_E_0_ok (b : BS) (s : SR) (e : Int) (n0 : 0 ≤ b.now) (n1 : b.now ≤ 30000) (f1 : 1 ≤ b.f) (f2 : b.f + 0 ≤ 128) (hh : b.h = 0) (h0 : 1 ≤ b.g) (h3 : b.g ≤ 127) (h1 : b.h < b.g) : Holds (endO Tryz.prog Tryz.f4 (ev1 qE (fin b e s []) [false, false, false, false, false, false, false, false, false, false, false])) := by
  have d1 : ((decide (0 > IntKind.i64.wrap (IntKind.i64.wrap (127 - IntKind.i64.wrap b.f) + 1)) : Bool) = (false)) := by exact decide_eq_false (by (try rw [wF2]); (try simp only [wF2, wF1, IntKind.wrap_i64, List.length_cons, List.length_nil]); (try simp); omega)
  have d2 : ((decide (b.g < 1) : Bool) = (false)) := by exact decide_eq_false (by (try rw [wF2]); (try simp only [wF2, wF1, IntKind.wrap_i64, List.length_cons, List.length_nil]); (try simp); omega)
  have d3 : ((decide (b.g > 127) : Bool) = (false)) := by exact decide_eq_false (by (try rw [wF2]); (try simp only [wF2, wF1, IntKind.wrap_i64, List.length_cons, List.length_nil]); (try simp); omega)
  have d4 : ((decide (b.g ≤ b.h) : Bool) = (false)) := by exact decide_eq_false (by (try rw [wF2]); (try simp only [wF2, wF1, IntKind.wrap_i64, List.length_cons, List.length_nil]); (try simp); omega)
  have d5 : ((decide (IntKind.i64.wrap b.g ≤ 0) : Bool) = (false)) := by exact decide_eq_false (by (try rw [wF2]); (try simp only [wF2, wF1, IntKind.wrap_i64, List.length_cons, List.length_nil]); (try simp); omega)
  exact Holds.of (p := ((((((((((((((True ∧
 (ident (e))) ∧
 ((decide (0 > IntKind.i64.wrap (IntKind.i64.wrap (127 - IntKind.i64.wrap b.f) + 1)) : Bool) = (false))) ∧
 (ident (e))) ∧
 ((decide (b.g < 1) : Bool) = (false))) ∧
 ((decide (b.g < 1) : Bool) = (false))) ∧
 ((decide (b.g < 1) : Bool) = (false))) ∧
 ((decide (b.g > 127) : Bool) = (false))) ∧
 ((decide (b.g ≤ b.h) : Bool) = (false))) ∧
 ((decide (b.g < 1) : Bool) = (false))) ∧
 ((decide (b.g < 1) : Bool) = (false))) ∧
 ((decide (b.g < 1) : Bool) = (false))) ∧
 ((decide (b.g > 127) : Bool) = (false))) ∧
 ((decide (IntKind.i64.wrap b.g ≤ 0) : Bool) = (false))) ∧
 ((true : Bool) = (true)))) (by kernel_rfl) ⟨⟨⟨⟨⟨⟨⟨⟨⟨⟨⟨⟨⟨⟨True.intro, rfl⟩, d1⟩, rfl⟩, d2⟩, d2⟩, d2⟩, d3⟩, d4⟩, d2⟩, d2⟩, d2⟩, d3⟩, d5⟩, rfl⟩

set_option maxRecDepth 100000 in
theorem g_E_1_lo (b : BS) (s : SR) (e : Int) (g1 : GV) (n0 : 0 ≤ b.now) (n1 : b.now ≤ 30000) (f1 : 1 ≤ b.f) (f2 : b.f + 1 ≤ 128) (hh : b.h = b.f + 0) (ha1 : g1.a = b.f + 0) (hk1 : g1.kp = true) (h1 : b.g < 1) : Holds (endO Tryz.prog Tryz.f4 (ev1 qE (fin b e s [g1]) [false, false, false, false, false, false, false, false, false, true, true, true, true, true, true])) := by
  have d1 : ((decide ((↑(0 + [g1].length) : Int) > IntKind.i64.wrap (IntKind.i64.wrap (127 - IntKind.i64.wrap b.f) + 1)) : Bool) = (false)) := by exact decide_eq_false (by (try rw [wF2]); (try simp only [wF2, wF1, IntKind.wrap_i64, List.length_cons, List.length_nil]); (try simp); omega)
  have d2 : ((IntKind.i64.wrap g1.a != IntKind.i64.wrap (IntKind.i64.wrap b.f + 0) : Bool) = (false)) := by exact bne_eq_false_iff_eq.2 (by (try rw [wF2]); (try simp only [wF2, wF1, IntKind.wrap_i64, List.length_cons, List.length_nil]); (try simp); omega)
  have d3 : ((!g1.kp : Bool) = (false)) := by rw [hk1]; rfl
  have d4 : ((decide (b.g < 1) : Bool) = (true)) := by exact decide_eq_true (by (try rw [wF2]); (try simp only [wF2, wF1, IntKind.wrap_i64, List.length_cons, List.length_nil]); (try simp); omega)
  exact Holds.of (p := ((((((((((((((((((True ∧
 (ident (e))) ∧
 ((decide ((↑(0 + [g1].length) : Int) > IntKind.i64.wrap (IntKind.i64.wrap (127 - IntKind.i64.wrap b.f) + 1)) : Bool) = (false))) ∧
 ((IntKind.i64.wrap g1.a != IntKind.i64.wrap (IntKind.i64.wrap b.f + 0) : Bool) = (false))) ∧
 ((IntKind.i64.wrap g1.a != IntKind.i64.wrap (IntKind.i64.wrap b.f + 0) : Bool) = (false))) ∧
 ((IntKind.i64.wrap g1.a != IntKind.i64.wrap (IntKind.i64.wrap b.f + 0) : Bool) = (false))) ∧
 ((IntKind.i64.wrap g1.a != IntKind.i64.wrap (IntKind.i64.wrap b.f + 0) : Bool) = (false))) ∧
 ((IntKind.i64.wrap g1.a != IntKind.i64.wrap (IntKind.i64.wrap b.f + 0) : Bool) = (false))) ∧
 ((IntKind.i64.wrap g1.a != IntKind.i64.wrap (IntKind.i64.wrap b.f + 0) : Bool) = (false))) ∧
 ((IntKind.i64.wrap g1.a != IntKind.i64.wrap (IntKind.i64.wrap b.f + 0) : Bool) = (false))) ∧
 ((!g1.kp : Bool) = (false))) ∧
 (ident (e))) ∧
 ((decide (b.g < 1) : Bool) = (true))) ∧
 ((decide (b.g < 1) : Bool) = (true))) ∧
 ((decide (b.g < 1) : Bool) = (true))) ∧
 ((decide (b.g < 1) : Bool) = (true))) ∧
 ((decide (b.g < 1) : Bool) = (true))) ∧
 ((decide (b.g < 1) : Bool) = (true))) ∧
 ((true : Bool) = (true)))) (by kernel_rfl) ⟨⟨⟨⟨⟨⟨⟨⟨⟨⟨⟨⟨⟨⟨⟨⟨⟨⟨True.intro, rfl⟩, d1⟩, d2⟩, d2⟩, d2⟩, d2⟩, d2⟩, d2⟩, d2⟩, d3⟩, rfl⟩, d4⟩, d4⟩, d4⟩, d4⟩, d4⟩, d4⟩, rfl⟩

set_option maxRecDepth 100000 in
theorem g_E_1_hi (b : BS) (s : SR) (e : Int) (g1 : GV) (n0 : 0 ≤ b.now) (n1 : b.now ≤ 30000) (f1 : 1 ≤ b.f) (f2 : b.f + 1 ≤ 128) (hh : b.h = b.f + 0) (ha1 : g1.a = b.f + 0) (hk1 : g1.kp = true) (h1 : 127 < b.g) : Holds (endO Tryz.prog Tryz.f4 (ev1 qE (fin b e s [g1]) [false, false, false, false, false, false, false, false, false, false, false, false, true, false, false, false, true])) := by
  have d1 : ((decide ((↑(0 + [g1].length) : Int) > IntKind.i64.wrap (IntKind.i64.wrap (127 - IntKind.i64.wrap b.f) + 1)) : Bool) = (false)) := by exact decide_eq_false (by (try rw [wF2]); (try simp only [wF2, wF1, IntKind.wrap_i64, List.length_cons, List.length_nil]); (try simp); omega)
  have d2 : ((IntKind.i64.wrap g1.a != IntKind.i64.wrap (IntKind.i64.wrap b.f + 0) : Bool) = (false)) := by exact bne_eq_false_iff_eq.2 (by (try rw [wF2]); (try simp only [wF2, wF1, IntKind.wrap_i64, List.length_cons, List.length_nil]); (try simp); omega)
  have d3 : ((!g1.kp : Bool) = (false)) := by rw [hk1]; rfl
  have d4 : ((decide (b.g < 1) : Bool) = (false)) := by exact decide_eq_false (by (try rw [wF2]); (try simp only [wF2, wF1, IntKind.wrap_i64, List.length_cons, List.length_nil]); (try simp); omega)
  have d5 : ((decide (b.g > 127) : Bool) = (true)) := by exact decide_eq_true (by (try rw [wF2]); (try simp only [wF2, wF1, IntKind.wrap_i64, List.length_cons, List.length_nil]); (try simp); omega)
  exact Holds.of (p := ((((((((((((((((((((True ∧
 (ident (e))) ∧
 ((decide ((↑(0 + [g1].length) : Int) > IntKind.i64.wrap (IntKind.i64.wrap (127 - IntKind.i64.wrap b.f) + 1)) : Bool) = (false))) ∧
 ((IntKind.i64.wrap g1.a != IntKind.i64.wrap (IntKind.i64.wrap b.f + 0) : Bool) = (false))) ∧
 ((IntKind.i64.wrap g1.a != IntKind.i64.wrap (IntKind.i64.wrap b.f + 0) : Bool) = (false))) ∧
 ((IntKind.i64.wrap g1.a != IntKind.i64.wrap (IntKind.i64.wrap b.f + 0) : Bool) = (false))) ∧
 ((IntKind.i64.wrap g1.a != IntKind.i64.wrap (IntKind.i64.wrap b.f + 0) : Bool) = (false))) ∧
 ((IntKind.i64.wrap g1.a != IntKind.i64.wrap (IntKind.i64.wrap b.f + 0) : Bool) = (false))) ∧
 ((IntKind.i64.wrap g1.a != IntKind.i64.wrap (IntKind.i64.wrap b.f + 0) : Bool) = (false))) ∧
 ((IntKind.i64.wrap g1.a != IntKind.i64.wrap (IntKind.i64.wrap b.f + 0) : Bool) = (false))) ∧
 ((!g1.kp : Bool) = (false))) ∧
 (ident (e))) ∧
 ((decide (b.g < 1) : Bool) = (false))) ∧
 ((decide (b.g < 1) : Bool) = (false))) ∧
 ((decide (b.g < 1) : Bool) = (false))) ∧
 ((decide (b.g > 127) : Bool) = (true))) ∧
 ((decide (b.g < 1) : Bool) = (false))) ∧
 ((decide (b.g < 1) : Bool) = (false))) ∧
 ((decide (b.g < 1) : Bool) = (false))) ∧
 ((decide (b.g > 127) : Bool) = (true))) ∧
 ((true : Bool) = (true)))) (by kernel_rfl) ⟨⟨⟨⟨⟨⟨⟨⟨⟨⟨⟨⟨⟨⟨⟨⟨⟨⟨⟨⟨True.intro, rfl⟩, d1⟩, d2⟩, d2⟩, d2⟩, d2⟩, d2⟩, d2⟩, d2⟩, d3⟩, rfl⟩, d4⟩, d4⟩, d4⟩, d5⟩, d4⟩, d4⟩, d4⟩, d5⟩, rfl⟩

set_option maxRecDepth 100000 in
theorem g_E_1_tw (b : BS) (s : SR) (e : Int) (g1 : GV) (n0 : 0 ≤ b.now) (n1 : b.now ≤ 30000) (f1 : 1 ≤ b.f) (f2 : b.f + 1 ≤ 128) (hh : b.h = b.f + 0) (ha1 : g1.a = b.f + 0) (hk1 : g1.kp = true) (h0 : 1 ≤ b.g) (h3 : b.g ≤ 127) (h1 : b.g ≤ b.h) : Holds (endO Tryz.prog Tryz.f4 (ev1 qE (fin b e s [g1]) [false, false, false, false, false, false, false, false, false, false, false, false, false, true, false, false, false, false, true])) := by
  have d1 : ((decide ((↑(0 + [g1].length) : Int) > IntKind.i64.wrap (IntKind.i64.wrap (127 - IntKind.i64.wrap b.f) + 1)) : Bool) = (false)) := by exact decide_eq_false (by (try rw [wF2]); (try simp only [wF2, wF1, IntKind.wrap_i64, List.length_cons, List.length_nil]); (try simp); omega)
  have d2 : ((IntKind.i64.wrap g1.a != IntKind.i64.wrap (IntKind.i64.wrap b.f + 0) : Bool) = (false)) := by exact bne_eq_false_iff_eq.2 (by (try rw [wF2]); (try simp only [wF2, wF1, IntKind.wrap_i64, List.length_cons, List.length_nil]); (try simp); omega)
  have d3 : ((!g1.kp : Bool) = (false)) := by rw [hk1]; rfl
  have d4 : ((decide (b.g < 1) : Bool) = (false)) := by exact decide_eq_false (by (try rw [wF2]); (try simp only [wF2, wF1, IntKind.wrap_i64, List.length_cons, List.length_nil]); (try simp); omega)
  have d5 : ((decide (b.g > 127) : Bool) = (false)) := by exact decide_eq_false (by (try rw [wF2]); (try simp only [wF2, wF1, IntKind.wrap_i64, List.length_cons, List.length_nil]); (try simp); omega)
  have d6 : ((decide (b.g ≤ b.h) : Bool) = (true)) := by exact decide_eq_true (by (try rw [wF2]); (try simp only [wF2, wF1, IntKind.wrap_i64, List.length_cons, List.length_nil]); (try simp); omega)
  have d7 : ((decide (IntKind.i64.wrap b.g ≤ IntKind.i64.wrap g1.a) : Bool) = (true)) := by exact decide_eq_true (by (try rw [wF2]); (try simp only [wF2, wF1, IntKind.wrap_i64, List.length_cons, List.length_nil]); (try simp); omega)
  exact Holds.of (p := ((((((((((((((((((((((True ∧
 (ident (e))) ∧
 ((decide ((↑(0 + [g1].length) : Int) > IntKind.i64.wrap (IntKind.i64.wrap (127 - IntKind.i64.wrap b.f) + 1)) : Bool) = (false))) ∧
 ((IntKind.i64.wrap g1.a != IntKind.i64.wrap (IntKind.i64.wrap b.f + 0) : Bool) = (false))) ∧
 ((IntKind.i64.wrap g1.a != IntKind.i64.wrap (IntKind.i64.wrap b.f + 0) : Bool) = (false))) ∧
 ((IntKind.i64.wrap g1.a != IntKind.i64.wrap (IntKind.i64.wrap b.f + 0) : Bool) = (false))) ∧
 ((IntKind.i64.wrap g1.a != IntKind.i64.wrap (IntKind.i64.wrap b.f + 0) : Bool) = (false))) ∧
 ((IntKind.i64.wrap g1.a != IntKind.i64.wrap (IntKind.i64.wrap b.f + 0) : Bool) = (false))) ∧
 ((IntKind.i64.wrap g1.a != IntKind.i64.wrap (IntKind.i64.wrap b.f + 0) : Bool) = (false))) ∧
 ((IntKind.i64.wrap g1.a != IntKind.i64.wrap (IntKind.i64.wrap b.f + 0) : Bool) = (false))) ∧
 ((!g1.kp : Bool) = (false))) ∧
 (ident (e))) ∧
 ((decide (b.g < 1) : Bool) = (false))) ∧
 ((decide (b.g < 1) : Bool) = (false))) ∧
 ((decide (b.g < 1) : Bool) = (false))) ∧
 ((decide (b.g > 127) : Bool) = (false))) ∧
 ((decide (b.g ≤ b.h) : Bool) = (true))) ∧
 ((decide (b.g < 1) : Bool) = (false))) ∧
 ((decide (b.g < 1) : Bool) = (false))) ∧
 ((decide (b.g < 1) : Bool) = (false))) ∧
 ((decide (b.g > 127) : Bool) = (false))) ∧
 ((decide (IntKind.i64.wrap b.g ≤ IntKind.i64.wrap g1.a) : Bool) = (true))) ∧
 ((true : Bool) = (true)))) (by kernel_rfl) ⟨⟨⟨⟨⟨⟨⟨⟨⟨⟨⟨⟨⟨⟨⟨⟨⟨⟨⟨⟨⟨⟨True.intro, rfl⟩, d1⟩, d2⟩, d2⟩, d2⟩, d2⟩, d2⟩, d2⟩, d2⟩, d3⟩, rfl⟩, d4⟩, d4⟩, d4⟩, d5⟩, d6⟩, d4⟩, d4⟩, d4⟩, d5⟩, d7⟩, rfl⟩

set_option maxRecDepth 100000 in
theorem g_E_1_ok (b : BS) (s : SR) (e : Int) (g1 : GV) (n0 : 0 ≤ b.now) (n1 : b.now ≤ 30000) (f1 : 1 ≤ b.f) (f2 : b.f + 1 ≤ 128) (hh : b.h = b.f + 0) (ha1 : g1.a = b.f + 0) (hk1 : g1.kp = true) (h0 : 1 ≤ b.g) (h3 : b.g ≤ 127) (h1 : b.h < b.g) : Holds (endO Tryz.prog Tryz.f4 (ev1 qE (fin b e s [g1]) [false, false, false, false, false, false, false, false, false, false, false, false, false, false, false, false, false, false, false])) := by
  have d1 : ((decide ((↑(0 + [g1].length) : Int) > IntKind.i64.wrap (IntKind.i64.wrap (127 - IntKind.i64.wrap b.f) + 1)) : Bool) = (false)) := by exact decide_eq_false (by (try rw [wF2]); (try simp only [wF2, wF1, IntKind.wrap_i64, List.length_cons, List.length_nil]); (try simp); omega)
  have d2 : ((IntKind.i64.wrap g1.a != IntKind.i64.wrap (IntKind.i64.wrap b.f + 0) : Bool) = (false)) := by exact bne_eq_false_iff_eq.2 (by (try rw [wF2]); (try simp only [wF2, wF1, IntKind.wrap_i64, List.length_cons, List.length_nil]); (try simp); omega)
  have d3 : ((!g1.kp : Bool) = (false)) := by rw [hk1]; rfl
  have d4 : ((decide (b.g < 1) : Bool) = (false)) := by exact decide_eq_false (by (try rw [wF2]); (try simp only [wF2, wF1, IntKind.wrap_i64, List.length_cons, List.length_nil]); (try simp); omega)
  have d5 : ((decide (b.g > 127) : Bool) = (false)) := by exact decide_eq_false (by (try rw [wF2]); (try simp only [wF2, wF1, IntKind.wrap_i64, List.length_cons, List.length_nil]); (try simp); omega)
  have d6 : ((decide (b.g ≤ b.h) : Bool) = (false)) := by exact decide_eq_false (by (try rw [wF2]); (try simp only [wF2, wF1, IntKind.wrap_i64, List.length_cons, List.length_nil]); (try simp); omega)
  have d7 : ((decide (IntKind.i64.wrap b.g ≤ IntKind.i64.wrap g1.a) : Bool) = (false)) := by exact decide_eq_false (by (try rw [wF2]); (try simp only [wF2, wF1, IntKind.wrap_i64, List.length_cons, List.length_nil]); (try simp); omega)
  exact Holds.of (p := ((((((((((((((((((((((True ∧
 (ident (e))) ∧
 ((decide ((↑(0 + [g1].length) : Int) > IntKind.i64.wrap (IntKind.i64.wrap (127 - IntKind.i64.wrap b.f) + 1)) : Bool) = (false))) ∧
 ((IntKind.i64.wrap g1.a != IntKind.i64.wrap (IntKind.i64.wrap b.f + 0) : Bool) = (false))) ∧
 ((IntKind.i64.wrap g1.a != IntKind.i64.wrap (IntKind.i64.wrap b.f + 0) : Bool) = (false))) ∧
 ((IntKind.i64.wrap g1.a != IntKind.i64.wrap (IntKind.i64.wrap b.f + 0) : Bool) = (false))) ∧
 ((IntKind.i64.wrap g1.a != IntKind.i64.wrap (IntKind.i64.wrap b.f + 0) : Bool) = (false))) ∧
 ((IntKind.i64.wrap g1.a != IntKind.i64.wrap (IntKind.i64.wrap b.f + 0) : Bool) = (false))) ∧
 ((IntKind.i64.wrap g1.a != IntKind.i64.wrap (IntKind.i64.wrap b.f + 0) : Bool) = (false))) ∧
 ((IntKind.i64.wrap g1.a != IntKind.i64.wrap (IntKind.i64.wrap b.f + 0) : Bool) = (false))) ∧
 ((!g1.kp : Bool) = (false))) ∧
 (ident (e))) ∧
 ((decide (b.g < 1) : Bool) = (false))) ∧
 ((decide (b.g < 1) : Bool) = (false))) ∧
 ((decide (b.g < 1) : Bool) = (false))) ∧
 ((decide (b.g > 127) : Bool) = (false))) ∧
 ((decide (b.g ≤ b.h) : Bool) = (false))) ∧
 ((decide (b.g < 1) : Bool) = (false))) ∧
 ((decide (b.g < 1) : Bool) = (false))) ∧
 ((decide (b.g < 1) : Bool) = (false))) ∧
 ((decide (b.g > 127) : Bool) = (false))) ∧
 ((decide (IntKind.i64.wrap b.g ≤ IntKind.i64.wrap g1.a) : Bool) = (false))) ∧
 ((true : Bool) = (true)))) (by kernel_rfl) ⟨⟨⟨⟨⟨⟨⟨⟨⟨⟨⟨⟨⟨⟨⟨⟨⟨⟨⟨⟨⟨⟨True.intro, rfl⟩, d1⟩, d2⟩, d2⟩, d2⟩, d2⟩, d2⟩, d2⟩, d2⟩, d3⟩, rfl⟩, d4⟩, d4⟩, d4⟩, d5⟩, d6⟩, d4⟩, d4⟩, d4⟩, d5⟩, d7⟩, rfl⟩

set_option maxRecDepth 100000 in
theorem g_E_2_lo (b : BS) (s : SR) (e : Int) (g1 g2 : GV) (n0 : 0 ≤ b.now) (n1 : b.now ≤ 30000) (f1 : 1 ≤ b.f) (f2 : b.f + 2 ≤ 128) (hh : b.h = b.f + 1) (ha1 : g1.a = b.f + 0) (hk1 : g1.kp = true) (ha2 : g2.a = b.f + 1) (hk2 : g2.kp = true) (h1 : b.g < 1) : Holds (endO Tryz.prog Tryz.f4 (ev1 qE (fin b e s [g1, g2]) [false, false, false, false, false, false, false, false, false, false, false, false, false, false, false, false, false, true, true, true, true, true, true])) := by
  have d1 : ((decide ((↑(0 + [g1, g2].length) : Int) > IntKind.i64.wrap (IntKind.i64.wrap (127 - IntKind.i64.wrap b.f) + 1)) : Bool) = (false)) := by exact decide_eq_false (by (try rw [wF2]); (try simp only [wF2, wF1, IntKind.wrap_i64, List.length_cons, List.length_nil]); (try simp); omega)
  have d2 : ((IntKind.i64.wrap g1.a != IntKind.i64.wrap (IntKind.i64.wrap b.f + 0) : Bool) = (false)) := by exact bne_eq_false_iff_eq.2 (by (try rw [wF2]); (try simp only [wF2, wF1, IntKind.wrap_i64, List.length_cons, List.length_nil]); (try simp); omega)
  have d3 : ((!g1.kp : Bool) = (false)) := by rw [hk1]; rfl
  have d4 : ((IntKind.i64.wrap g2.a != IntKind.i64.wrap (IntKind.i64.wrap b.f + wrapF IntKind.i64 (Int.add 0 1)) : Bool) = (false)) := by exact bne_eq_false_iff_eq.2 (by (try rw [wF2]); (try simp only [wF2, wF1, IntKind.wrap_i64, List.length_cons, List.length_nil]); (try simp); omega)
  have d5 : ((!g2.kp : Bool) = (false)) := by rw [hk2]; rfl
  have d6 : ((decide (b.g < 1) : Bool) = (true)) := by exact decide_eq_true (by (try rw [wF2]); (try simp only [wF2, wF1, IntKind.wrap_i64, List.length_cons, List.length_nil]); (try simp); omega)
  exact Holds.of (p := ((((((((((((((((((((((((((True ∧
 (ident (e))) ∧
 ((decide ((↑(0 + [g1, g2].length) : Int) > IntKind.i64.wrap (IntKind.i64.wrap (127 - IntKind.i64.wrap b.f) + 1)) : Bool) = (false))) ∧
 ((IntKind.i64.wrap g1.a != IntKind.i64.wrap (IntKind.i64.wrap b.f + 0) : Bool) = (false))) ∧
 ((IntKind.i64.wrap g1.a != IntKind.i64.wrap (IntKind.i64.wrap b.f + 0) : Bool) = (false))) ∧
 ((IntKind.i64.wrap g1.a != IntKind.i64.wrap (IntKind.i64.wrap b.f + 0) : Bool) = (false))) ∧
 ((IntKind.i64.wrap g1.a != IntKind.i64.wrap (IntKind.i64.wrap b.f + 0) : Bool) = (false))) ∧
 ((IntKind.i64.wrap g1.a != IntKind.i64.wrap (IntKind.i64.wrap b.f + 0) : Bool) = (false))) ∧
 ((IntKind.i64.wrap g1.a != IntKind.i64.wrap (IntKind.i64.wrap b.f + 0) : Bool) = (false))) ∧
 ((IntKind.i64.wrap g1.a != IntKind.i64.wrap (IntKind.i64.wrap b.f + 0) : Bool) = (false))) ∧
 ((!g1.kp : Bool) = (false))) ∧
 ((IntKind.i64.wrap g2.a != IntKind.i64.wrap (IntKind.i64.wrap b.f + wrapF IntKind.i64 (Int.add 0 1)) : Bool) = (false))) ∧
 ((IntKind.i64.wrap g2.a != IntKind.i64.wrap (IntKind.i64.wrap b.f + wrapF IntKind.i64 (Int.add 0 1)) : Bool) = (false))) ∧
 ((IntKind.i64.wrap g2.a != IntKind.i64.wrap (IntKind.i64.wrap b.f + wrapF IntKind.i64 (Int.add 0 1)) : Bool) = (false))) ∧
 ((IntKind.i64.wrap g2.a != IntKind.i64.wrap (IntKind.i64.wrap b.f + wrapF IntKind.i64 (Int.add 0 1)) : Bool) = (false))) ∧
 ((IntKind.i64.wrap g2.a != IntKind.i64.wrap (IntKind.i64.wrap b.f + wrapF IntKind.i64 (Int.add 0 1)) : Bool) = (false))) ∧
 ((IntKind.i64.wrap g2.a != IntKind.i64.wrap (IntKind.i64.wrap b.f + wrapF IntKind.i64 (Int.add 0 1)) : Bool) = (false))) ∧
 ((IntKind.i64.wrap g2.a != IntKind.i64.wrap (IntKind.i64.wrap b.f + wrapF IntKind.i64 (Int.add 0 1)) : Bool) = (false))) ∧
 ((!g2.kp : Bool) = (false))) ∧
 (ident (e))) ∧
 ((decide (b.g < 1) : Bool) = (true))) ∧
 ((decide (b.g < 1) : Bool) = (true))) ∧
 ((decide (b.g < 1) : Bool) = (true))) ∧
 ((decide (b.g < 1) : Bool) = (true))) ∧
 ((decide (b.g < 1) : Bool) = (true))) ∧
 ((decide (b.g < 1) : Bool) = (true))) ∧
 ((true : Bool) = (true)))) (by kernel_rfl) ⟨⟨⟨⟨⟨⟨⟨⟨⟨⟨⟨⟨⟨⟨⟨⟨⟨⟨⟨⟨⟨⟨⟨⟨⟨⟨True.intro, rfl⟩, d1⟩, d2⟩, d2⟩, d2⟩, d2⟩, d2⟩, d2⟩, d2⟩, d3⟩, d4⟩, d4⟩, d4⟩, d4⟩, d4⟩, d4⟩, d4⟩, d5⟩, rfl⟩, d6⟩, d6⟩, d6⟩, d6⟩, d6⟩, d6⟩, rfl⟩

set_option maxRecDepth 100000 in
theorem g_E_2_hi (b : BS) (s : SR) (e : Int) (g1 g2 : GV) (n0 : 0 ≤ b.now) (n1 : b.now ≤ 30000) (f1 : 1 ≤ b.f) (f2 : b.f + 2 ≤ 128) (hh : b.h = b.f + 1) (ha1 : g1.a = b.f + 0) (hk1 : g1.kp = true) (ha2 : g2.a = b.f + 1) (hk2 : g2.kp = true) (h1 : 127 < b.g) : Holds (endO Tryz.prog Tryz.f4 (ev1 qE (fin b e s [g1, g2]) [false, false, false, false, false, false, false, false, false, false, false, false, false, false, false, false, false, false, false, false, true, false, false, false, true])) := by
  have d1 : ((decide ((↑(0 + [g1, g2].length) : Int) > IntKind.i64.wrap (IntKind.i64.wrap (127 - IntKind.i64.wrap b.f) + 1)) : Bool) = (false)) := by exact decide_eq_false (by (try rw [wF2]); (try simp only [wF2, wF1, IntKind.wrap_i64, List.length_cons, List.length_nil]); (try simp); omega)
  have d2 : ((IntKind.i64.wrap g1.a != IntKind.i64.wrap (IntKind.i64.wrap b.f + 0) : Bool) = (false)) := by exact bne_eq_false_iff_eq.2 (by (try rw [wF2]); (try simp only [wF2, wF1, IntKind.wrap_i64, List.length_cons, List.length_nil]); (try simp); omega)
  have d3 : ((!g1.kp : Bool) = (false)) := by rw [hk1]; rfl
  have d4 : ((IntKind.i64.wrap g2.a != IntKind.i64.wrap (IntKind.i64.wrap b.f + wrapF IntKind.i64 (Int.add 0 1)) : Bool) = (false)) := by exact bne_eq_false_iff_eq.2 (by (try rw [wF2]); (try simp only [wF2, wF1, IntKind.wrap_i64, List.length_cons, List.length_nil]); (try simp); omega)
  have d5 : ((!g2.kp : Bool) = (false)) := by rw [hk2]; rfl
  have d6 : ((decide (b.g < 1) : Bool) = (false)) := by exact decide_eq_false (by (try rw [wF2]); (try simp only [wF2, wF1, IntKind.wrap_i64, List.length_cons, List.length_nil]); (try simp); omega)
  have d7 : ((decide (b.g > 127) : Bool) = (true)) := by exact decide_eq_true (by (try rw [wF2]); (try simp only [wF2, wF1, IntKind.wrap_i64, List.length_cons, List.length_nil]); (try simp); omega)
  exact Holds.of (p := ((((((((((((((((((((((((((((True ∧
 (ident (e))) ∧
 ((decide ((↑(0 + [g1, g2].length) : Int) > IntKind.i64.wrap (IntKind.i64.wrap (127 - IntKind.i64.wrap b.f) + 1)) : Bool) = (false))) ∧
 ((IntKind.i64.wrap g1.a != IntKind.i64.wrap (IntKind.i64.wrap b.f + 0) : Bool) = (false))) ∧
 ((IntKind.i64.wrap g1.a != IntKind.i64.wrap (IntKind.i64.wrap b.f + 0) : Bool) = (false))) ∧
 ((IntKind.i64.wrap g1.a != IntKind.i64.wrap (IntKind.i64.wrap b.f + 0) : Bool) = (false))) ∧
 ((IntKind.i64.wrap g1.a != IntKind.i64.wrap (IntKind.i64.wrap b.f + 0) : Bool) = (false))) ∧
 ((IntKind.i64.wrap g1.a != IntKind.i64.wrap (IntKind.i64.wrap b.f + 0) : Bool) = (false))) ∧
 ((IntKind.i64.wrap g1.a != IntKind.i64.wrap (IntKind.i64.wrap b.f + 0) : Bool) = (false))) ∧
 ((IntKind.i64.wrap g1.a != IntKind.i64.wrap (IntKind.i64.wrap b.f + 0) : Bool) = (false))) ∧
 ((!g1.kp : Bool) = (false))) ∧
 ((IntKind.i64.wrap g2.a != IntKind.i64.wrap (IntKind.i64.wrap b.f + wrapF IntKind.i64 (Int.add 0 1)) : Bool) = (false))) ∧
 ((IntKind.i64.wrap g2.a != IntKind.i64.wrap (IntKind.i64.wrap b.f + wrapF IntKind.i64 (Int.add 0 1)) : Bool) = (false))) ∧
 ((IntKind.i64.wrap g2.a != IntKind.i64.wrap (IntKind.i64.wrap b.f + wrapF IntKind.i64 (Int.add 0 1)) : Bool) = (false))) ∧
 ((IntKind.i64.wrap g2.a != IntKind.i64.wrap (IntKind.i64.wrap b.f + wrapF IntKind.i64 (Int.add 0 1)) : Bool) = (false))) ∧
 ((IntKind.i64.wrap g2.a != IntKind.i64.wrap (IntKind.i64.wrap b.f + wrapF IntKind.i64 (Int.add 0 1)) : Bool) = (false))) ∧
 ((IntKind.i64.wrap g2.a != IntKind.i64.wrap (IntKind.i64.wrap b.f + wrapF IntKind.i64 (Int.add 0 1)) : Bool) = (false))) ∧
 ((IntKind.i64.wrap g2.a != IntKind.i64.wrap (IntKind.i64.wrap b.f + wrapF IntKind.i64 (Int.add 0 1)) : Bool) = (false))) ∧
 ((!g2.kp : Bool) = (false))) ∧
 (ident (e))) ∧
 ((decide (b.g < 1) : Bool) = (false))) ∧
 ((decide (b.g < 1) : Bool) = (false))) ∧
 ((decide (b.g < 1) : Bool) = (false))) ∧
 ((decide (b.g > 127) : Bool) = (true))) ∧
 ((decide (b.g < 1) : Bool) = (false))) ∧
 ((decide (b.g < 1) : Bool) = (false))) ∧
 ((decide (b.g < 1) : Bool) = (false))) ∧
 ((decide (b.g > 127) : Bool) = (true))) ∧
 ((true : Bool) = (true)))) (by kernel_rfl) ⟨⟨⟨⟨⟨⟨⟨⟨⟨⟨⟨⟨⟨⟨⟨⟨⟨⟨⟨⟨⟨⟨⟨⟨⟨⟨⟨⟨True.intro, rfl⟩, d1⟩, d2⟩, d2⟩, d2⟩, d2⟩, d2⟩, d2⟩, d2⟩, d3⟩, d4⟩, d4⟩, d4⟩, d4⟩, d4⟩, d4⟩, d4⟩, d5⟩, rfl⟩, d6⟩, d6⟩, d6⟩, d7⟩, d6⟩, d6⟩, d6⟩, d7⟩, rfl⟩

set_option maxRecDepth 100000 in
theorem g_E_2_tw (b : BS) (s : SR) (e : Int) (g1 g2 : GV) (n0 : 0 ≤ b.now) (n1 : b.now ≤ 30000) (f1 : 1 ≤ b.f) (f2 : b.f + 2 ≤ 128) (hh : b.h = b.f + 1) (ha1 : g1.a = b.f + 0) (hk1 : g1.kp = true) (ha2 : g2.a = b.f + 1) (hk2 : g2.kp = true) (h0 : 1 ≤ b.g) (h3 : b.g ≤ 127) (h1 : b.g ≤ b.h) : Holds (endO Tryz.prog Tryz.f4 (ev1 qE (fin b e s [g1, g2]) [false, false, false, false, false, false, false, false, false, false, false, false, false, false, false, false, false, false, false, false, false, true, false, false, false, false, true])) := by
  have d1 : ((decide ((↑(0 + [g1, g2].length) : Int) > IntKind.i64.wrap (IntKind.i64.wrap (127 - IntKind.i64.wrap b.f) + 1)) : Bool) = (false)) := by exact decide_eq_false (by (try rw [wF2]); (try simp only [wF2, wF1, IntKind.wrap_i64, List.length_cons, List.length_nil]); (try simp); omega)
  have d2 : ((IntKind.i64.wrap g1.a != IntKind.i64.wrap (IntKind.i64.wrap b.f + 0) : Bool) = (false)) := by exact bne_eq_false_iff_eq.2 (by (try rw [wF2]); (try simp only [wF2, wF1, IntKind.wrap_i64, List.length_cons, List.length_nil]); (try simp); omega)
  have d3 : ((!g1.kp : Bool) = (false)) := by rw [hk1]; rfl
  have d4 : ((IntKind.i64.wrap g2.a != IntKind.i64.wrap (IntKind.i64.wrap b.f + wrapF IntKind.i64 (Int.add 0 1)) : Bool) = (false)) := by exact bne_eq_false_iff_eq.2 (by (try rw [wF2]); (try simp only [wF2, wF1, IntKind.wrap_i64, List.length_cons, List.length_nil]); (try simp); omega)
  have d5 : ((!g2.kp : Bool) = (false)) := by rw [hk2]; rfl
  have d6 : ((decide (b.g < 1) : Bool) = (false)) := by exact decide_eq_false (by (try rw [wF2]); (try simp only [wF2, wF1, IntKind.wrap_i64, List.length_cons, List.length_nil]); (try simp); omega)
  have d7 : ((decide (b.g > 127) : Bool) = (false)) := by exact decide_eq_false (by (try rw [wF2]); (try simp only [wF2, wF1, IntKind.wrap_i64, List.length_cons, List.length_nil]); (try simp); omega)
  have d8 : ((decide (b.g ≤ b.h) : Bool) = (true)) := by exact decide_eq_true (by (try rw [wF2]); (try simp only [wF2, wF1, IntKind.wrap_i64, List.length_cons, List.length_nil]); (try simp); omega)
  have d9 : ((decide (IntKind.i64.wrap b.g ≤ IntKind.i64.wrap g2.a) : Bool) = (true)) := by exact decide_eq_true (by (try rw [wF2]); (try simp only [wF2, wF1, IntKind.wrap_i64, List.length_cons, List.length_nil]); (try simp); omega)
  exact Holds.of (p := ((((((((((((((((((((((((((((((True ∧
 (ident (e))) ∧
 ((decide ((↑(0 + [g1, g2].length) : Int) > IntKind.i64.wrap (IntKind.i64.wrap (127 - IntKind.i64.wrap b.f) + 1)) : Bool) = (false))) ∧
 ((IntKind.i64.wrap g1.a != IntKind.i64.wrap (IntKind.i64.wrap b.f + 0) : Bool) = (false))) ∧
 ((IntKind.i64.wrap g1.a != IntKind.i64.wrap (IntKind.i64.wrap b.f + 0) : Bool) = (false))) ∧
 ((IntKind.i64.wrap g1.a != IntKind.i64.wrap (IntKind.i64.wrap b.f + 0) : Bool) = (false))) ∧
 ((IntKind.i64.wrap g1.a != IntKind.i64.wrap (IntKind.i64.wrap b.f + 0) : Bool) = (false))) ∧
 ((IntKind.i64.wrap g1.a != IntKind.i64.wrap (IntKind.i64.wrap b.f + 0) : Bool) = (false))) ∧
 ((IntKind.i64.wrap g1.a != IntKind.i64.wrap (IntKind.i64.wrap b.f + 0) : Bool) = (false))) ∧
 ((IntKind.i64.wrap g1.a != IntKind.i64.wrap (IntKind.i64.wrap b.f + 0) : Bool) = (false))) ∧
 ((!g1.kp : Bool) = (false))) ∧
 ((IntKind.i64.wrap g2.a != IntKind.i64.wrap (IntKind.i64.wrap b.f + wrapF IntKind.i64 (Int.add 0 1)) : Bool) = (false))) ∧
 ((IntKind.i64.wrap g2.a != IntKind.i64.wrap (IntKind.i64.wrap b.f + wrapF IntKind.i64 (Int.add 0 1)) : Bool) = (false))) ∧
 ((IntKind.i64.wrap g2.a != IntKind.i64.wrap (IntKind.i64.wrap b.f + wrapF IntKind.i64 (Int.add 0 1)) : Bool) = (false))) ∧
 ((IntKind.i64.wrap g2.a != IntKind.i64.wrap (IntKind.i64.wrap b.f + wrapF IntKind.i64 (Int.add 0 1)) : Bool) = (false))) ∧
 ((IntKind.i64.wrap g2.a != IntKind.i64.wrap (IntKind.i64.wrap b.f + wrapF IntKind.i64 (Int.add 0 1)) : Bool) = (false))) ∧
 ((IntKind.i64.wrap g2.a != IntKind.i64.wrap (IntKind.i64.wrap b.f + wrapF IntKind.i64 (Int.add 0 1)) : Bool) = (false))) ∧
 ((IntKind.i64.wrap g2.a != IntKind.i64.wrap (IntKind.i64.wrap b.f + wrapF IntKind.i64 (Int.add 0 1)) : Bool) = (false))) ∧
 ((!g2.kp : Bool) = (false))) ∧
 (ident (e))) ∧
 ((decide (b.g < 1) : Bool) = (false))) ∧
 ((decide (b.g < 1) : Bool) = (false))) ∧
 ((decide (b.g < 1) : Bool) = (false))) ∧
 ((decide (b.g > 127) : Bool) = (false))) ∧
 ((decide (b.g ≤ b.h) : Bool) = (true))) ∧
 ((decide (b.g < 1) : Bool) = (false))) ∧
 ((decide (b.g < 1) : Bool) = (false))) ∧
 ((decide (b.g < 1) : Bool) = (false))) ∧
 ((decide (b.g > 127) : Bool) = (false))) ∧
 ((decide (IntKind.i64.wrap b.g ≤ IntKind.i64.wrap g2.a) : Bool) = (true))) ∧
 ((true : Bool) = (true)))) (by kernel_rfl) ⟨⟨⟨⟨⟨⟨⟨⟨⟨⟨⟨⟨⟨⟨⟨⟨⟨⟨⟨⟨⟨⟨⟨⟨⟨⟨⟨⟨⟨⟨True.intro, rfl⟩, d1⟩, d2⟩, d2⟩, d2⟩, d2⟩, d2⟩, d2⟩, d2⟩, d3⟩, d4⟩, d4⟩, d4⟩, d4⟩, d4⟩, d4⟩, d4⟩, d5⟩, rfl⟩, d6⟩, d6⟩, d6⟩, d7⟩, d8⟩, d6⟩, d6⟩, d6⟩, d7⟩, d9⟩, rfl⟩

set_option maxRecDepth 100000 in
theorem g_E_2_ok (b : BS) (s : SR) (e : Int) (g1 g2 : GV) (n0 : 0 ≤ b.now) (n1 : b.now ≤ 30000) (f1 : 1 ≤ b.f) (f2 : b.f + 2 ≤ 128) (hh : b.h = b.f + 1) (ha1 : g1.a = b.f + 0) (hk1 : g1.kp = true) (ha2 : g2.a = b.f + 1) (hk2 : g2.kp = true) (h0 : 1 ≤ b.g) (h3 : b.g ≤ 127) (h1 : b.h < b.g) : Holds (endO Tryz.prog Tryz.f4 (ev1 qE (fin b e s [g1, g2]) [false, false, false, false, false, false, false, false, false, false, false, false, false, false, false, false, false, false, false, false, false, false, false, false, false, false, false])) := by
  have d1 : ((decide ((↑(0 + [g1, g2].length) : Int) > IntKind.i64.wrap (IntKind.i64.wrap (127 - IntKind.i64.wrap b.f) + 1)) : Bool) = (false)) := by exact decide_eq_false (by (try rw [wF2]); (try simp only [wF2, wF1, IntKind.wrap_i64, List.length_cons, List.length_nil]); (try simp); omega)
  have d2 : ((IntKind.i64.wrap g1.a != IntKind.i64.wrap (IntKind.i64.wrap b.f + 0) : Bool) = (false)) := by exact bne_eq_false_iff_eq.2 (by (try rw [wF2]); (try simp only [wF2, wF1, IntKind.wrap_i64, List.length_cons, List.length_nil]); (try simp); omega)
  have d3 : ((!g1.kp : Bool) = (false)) := by rw [hk1]; rfl
  have d4 : ((IntKind.i64.wrap g2.a != IntKind.i64.wrap (IntKind.i64.wrap b.f + wrapF IntKind.i64 (Int.add 0 1)) : Bool) = (false)) := by exact bne_eq_false_iff_eq.2 (by (try rw [wF2]); (try simp only [wF2, wF1, IntKind.wrap_i64, List.length_cons, List.length_nil]); (try simp); omega)
  have d5 : ((!g2.kp : Bool) = (false)) := by rw [hk2]; rfl
  have d6 : ((decide (b.g < 1) : Bool) = (false)) := by exact decide_eq_false (by (try rw [wF2]); (try simp only [wF2, wF1, IntKind.wrap_i64, List.length_cons, List.length_nil]); (try simp); omega)
  have d7 : ((decide (b.g > 127) : Bool) = (false)) := by exact decide_eq_false (by (try rw [wF2]); (try simp only [wF2, wF1, IntKind.wrap_i64, List.length_cons, List.length_nil]); (try simp); omega)
  have d8 : ((decide (b.g ≤ b.h) : Bool) = (false)) := by exact decide_eq_false (by (try rw [wF2]); (try simp only [wF2, wF1, IntKind.wrap_i64, List.length_cons, List.length_nil]); (try simp); omega)
  have d9 : ((decide (IntKind.i64.wrap b.g ≤ IntKind.i64.wrap g2.a) : Bool) = (false)) := by exact decide_eq_false (by (try rw [wF2]); (try simp only [wF2, wF1, IntKind.wrap_i64, List.length_cons, List.length_nil]); (try simp); omega)
  exact Holds.of (p := ((((((((((((((((((((((((((((((True ∧
 (ident (e))) ∧
 ((decide ((↑(0 + [g1, g2].length) : Int) > IntKind.i64.wrap (IntKind.i64.wrap (127 - IntKind.i64.wrap b.f) + 1)) : Bool) = (false))) ∧
 ((IntKind.i64.wrap g1.a != IntKind.i64.wrap (IntKind.i64.wrap b.f + 0) : Bool) = (false))) ∧
 ((IntKind.i64.wrap g1.a != IntKind.i64.wrap (IntKind.i64.wrap b.f + 0) : Bool) = (false))) ∧
 ((IntKind.i64.wrap g1.a != IntKind.i64.wrap (IntKind.i64.wrap b.f + 0) : Bool) = (false))) ∧
 ((IntKind.i64.wrap g1.a != IntKind.i64.wrap (IntKind.i64.wrap b.f + 0) : Bool) = (false))) ∧
 ((IntKind.i64.wrap g1.a != IntKind.i64.wrap (IntKind.i64.wrap b.f + 0) : Bool) = (false))) ∧
 ((IntKind.i64.wrap g1.a != IntKind.i64.wrap (IntKind.i64.wrap b.f + 0) : Bool) = (false))) ∧
 ((IntKind.i64.wrap g1.a != IntKind.i64.wrap (IntKind.i64.wrap b.f + 0) : Bool) = (false))) ∧
 ((!g1.kp : Bool) = (false))) ∧
 ((IntKind.i64.wrap g2.a != IntKind.i64.wrap (IntKind.i64.wrap b.f + wrapF IntKind.i64 (Int.add 0 1)) : Bool) = (false))) ∧
 ((IntKind.i64.wrap g2.a != IntKind.i64.wrap (IntKind.i64.wrap b.f + wrapF IntKind.i64 (Int.add 0 1)) : Bool) = (false))) ∧
 ((IntKind.i64.wrap g2.a != IntKind.i64.wrap (IntKind.i64.wrap b.f + wrapF IntKind.i64 (Int.add 0 1)) : Bool) = (false))) ∧
 ((IntKind.i64.wrap g2.a != IntKind.i64.wrap (IntKind.i64.wrap b.f + wrapF IntKind.i64 (Int.add 0 1)) : Bool) = (false))) ∧
 ((IntKind.i64.wrap g2.a != IntKind.i64.wrap (IntKind.i64.wrap b.f + wrapF IntKind.i64 (Int.add 0 1)) : Bool) = (false))) ∧
 ((IntKind.i64.wrap g2.a != IntKind.i64.wrap (IntKind.i64.wrap b.f + wrapF IntKind.i64 (Int.add 0 1)) : Bool) = (false))) ∧
 ((IntKind.i64.wrap g2.a != IntKind.i64.wrap (IntKind.i64.wrap b.f + wrapF IntKind.i64 (Int.add 0 1)) : Bool) = (false))) ∧
 ((!g2.kp : Bool) = (false))) ∧
 (ident (e))) ∧
 ((decide (b.g < 1) : Bool) = (false))) ∧
 ((decide (b.g < 1) : Bool) = (false))) ∧
 ((decide (b.g < 1) : Bool) = (false))) ∧
 ((decide (b.g > 127) : Bool) = (false))) ∧
 ((decide (b.g ≤ b.h) : Bool) = (false))) ∧
 ((decide (b.g < 1) : Bool) = (false))) ∧
 ((decide (b.g < 1) : Bool) = (false))) ∧
 ((decide (b.g < 1) : Bool) = (false))) ∧
 ((decide (b.g > 127) : Bool) = (false))) ∧
 ((decide (IntKind.i64.wrap b.g ≤ IntKind.i64.wrap g2.a) : Bool) = (false))) ∧
 ((true : Bool) = (true)))) (by kernel_rfl) ⟨⟨⟨⟨⟨⟨⟨⟨⟨⟨⟨⟨⟨⟨⟨⟨⟨⟨⟨⟨⟨⟨⟨⟨⟨⟨⟨⟨⟨⟨True.intro, rfl⟩, d1⟩, d2⟩, d2⟩, d2⟩, d2⟩, d2⟩, d2⟩, d2⟩, d3⟩, d4⟩, d4⟩, d4⟩, d4⟩, d4⟩, d4⟩, d4⟩, d5⟩, rfl⟩, d6⟩, d6⟩, d6⟩, d7⟩, d8⟩, d6⟩, d6⟩, d6⟩, d7⟩, d9⟩, rfl⟩

set_option maxRecDepth 100000 in
theorem g_E_3_lo (b : BS) (s : SR) (e : Int) (g1 g2 g3 : GV) (n0 : 0 ≤ b.now) (n1 : b.now ≤ 30000) (f1 : 1 ≤ b.f) (f2 : b.f + 3 ≤ 128) (hh : b.h = b.f + 2) (ha1 : g1.a = b.f + 0) (hk1 : g1.kp = true) (ha2 : g2.a = b.f + 1) (hk2 : g2.kp = true) (ha3 : g3.a = b.f + 2) (hk3 : g3.kp = true) (h1 : b.g < 1) : Holds (endO Tryz.prog Tryz.f4 (ev1 qE (fin b e s [g1, g2, g3]) [false, false, false, false, false, false, false, false, false, false, false, false, false, false, false, false, false, false, false, false, false, false, false, false, false, true, true, true, true, true, true])) := by
  have d1 : ((decide ((↑(0 + [g1, g2, g3].length) : Int) > IntKind.i64.wrap (IntKind.i64.wrap (127 - IntKind.i64.wrap b.f) + 1)) : Bool) = (false)) := by exact decide_eq_false (by (try rw [wF2]); (try simp only [wF2, wF1, IntKind.wrap_i64, List.length_cons, List.length_nil]); (try simp); omega)
  have d2 : ((IntKind.i64.wrap g1.a != IntKind.i64.wrap (IntKind.i64.wrap b.f + 0) : Bool) = (false)) := by exact bne_eq_false_iff_eq.2 (by (try rw [wF2]); (try simp only [wF2, wF1, IntKind.wrap_i64, List.length_cons, List.length_nil]); (try simp); omega)
  have d3 : ((!g1.kp : Bool) = (false)) := by rw [hk1]; rfl
  have d4 : ((IntKind.i64.wrap g2.a != IntKind.i64.wrap (IntKind.i64.wrap b.f + wrapF IntKind.i64 (Int.add 0 1)) : Bool) = (false)) := by exact bne_eq_false_iff_eq.2 (by (try rw [wF2]); (try simp only [wF2, wF1, IntKind.wrap_i64, List.length_cons, List.length_nil]); (try simp); omega)
  have d5 : ((!g2.kp : Bool) = (false)) := by rw [hk2]; rfl
  have d6 : ((IntKind.i64.wrap g3.a != IntKind.i64.wrap (IntKind.i64.wrap b.f + wrapF IntKind.i64 ((wrapF IntKind.i64 (Int.add 0 1)).add 1)) : Bool) = (false)) := by exact bne_eq_false_iff_eq.2 (by (try rw [wF2]); (try simp only [wF2, wF1, IntKind.wrap_i64, List.length_cons, List.length_nil]); (try simp); omega)
  have d7 : ((!g3.kp : Bool) = (false)) := by rw [hk3]; rfl
  have d8 : ((decide (b.g < 1) : Bool) = (true)) := by exact decide_eq_true (by (try rw [wF2]); (try simp only [wF2, wF1, IntKind.wrap_i64, List.length_cons, List.length_nil]); (try simp); omega)
  exact Holds.of (p := ((((((((((((((((((((((((((((((((((True ∧
 (ident (e))) ∧
 ((decide ((↑(0 + [g1, g2, g3].length) : Int) > IntKind.i64.wrap (IntKind.i64.wrap (127 - IntKind.i64.wrap b.f) + 1)) : Bool) = (false))) ∧
 ((IntKind.i64.wrap g1.a != IntKind.i64.wrap (IntKind.i64.wrap b.f + 0) : Bool) = (false))) ∧
 ((IntKind.i64.wrap g1.a != IntKind.i64.wrap (IntKind.i64.wrap b.f + 0) : Bool) = (false))) ∧
 ((IntKind.i64.wrap g1.a != IntKind.i64.wrap (IntKind.i64.wrap b.f + 0) : Bool) = (false))) ∧
 ((IntKind.i64.wrap g1.a != IntKind.i64.wrap (IntKind.i64.wrap b.f + 0) : Bool) = (false))) ∧
 ((IntKind.i64.wrap g1.a != IntKind.i64.wrap (IntKind.i64.wrap b.f + 0) : Bool) = (false))) ∧
 ((IntKind.i64.wrap g1.a != IntKind.i64.wrap (IntKind.i64.wrap b.f + 0) : Bool) = (false))) ∧
 ((IntKind.i64.wrap g1.a != IntKind.i64.wrap (IntKind.i64.wrap b.f + 0) : Bool) = (false))) ∧
 ((!g1.kp : Bool) = (false))) ∧
 ((IntKind.i64.wrap g2.a != IntKind.i64.wrap (IntKind.i64.wrap b.f + wrapF IntKind.i64 (Int.add 0 1)) : Bool) = (false))) ∧
 ((IntKind.i64.wrap g2.a != IntKind.i64.wrap (IntKind.i64.wrap b.f + wrapF IntKind.i64 (Int.add 0 1)) : Bool) = (false))) ∧
 ((IntKind.i64.wrap g2.a != IntKind.i64.wrap (IntKind.i64.wrap b.f + wrapF IntKind.i64 (Int.add 0 1)) : Bool) = (false))) ∧
 ((IntKind.i64.wrap g2.a != IntKind.i64.wrap (IntKind.i64.wrap b.f + wrapF IntKind.i64 (Int.add 0 1)) : Bool) = (false))) ∧
 ((IntKind.i64.wrap g2.a != IntKind.i64.wrap (IntKind.i64.wrap b.f + wrapF IntKind.i64 (Int.add 0 1)) : Bool) = (false))) ∧
 ((IntKind.i64.wrap g2.a != IntKind.i64.wrap (IntKind.i64.wrap b.f + wrapF IntKind.i64 (Int.add 0 1)) : Bool) = (false))) ∧
 ((IntKind.i64.wrap g2.a != IntKind.i64.wrap (IntKind.i64.wrap b.f + wrapF IntKind.i64 (Int.add 0 1)) : Bool) = (false))) ∧
 ((!g2.kp : Bool) = (false))) ∧
 ((IntKind.i64.wrap g3.a != IntKind.i64.wrap (IntKind.i64.wrap b.f + wrapF IntKind.i64 ((wrapF IntKind.i64 (Int.add 0 1)).add 1)) : Bool) = (false))) ∧
 ((IntKind.i64.wrap g3.a != IntKind.i64.wrap (IntKind.i64.wrap b.f + wrapF IntKind.i64 ((wrapF IntKind.i64 (Int.add 0 1)).add 1)) : Bool) = (false))) ∧
 ((IntKind.i64.wrap g3.a != IntKind.i64.wrap (IntKind.i64.wrap b.f + wrapF IntKind.i64 ((wrapF IntKind.i64 (Int.add 0 1)).add 1)) : Bool) = (false))) ∧
 ((IntKind.i64.wrap g3.a != IntKind.i64.wrap (IntKind.i64.wrap b.f + wrapF IntKind.i64 ((wrapF IntKind.i64 (Int.add 0 1)).add 1)) : Bool) = (false))) ∧
 ((IntKind.i64.wrap g3.a != IntKind.i64.wrap (IntKind.i64.wrap b.f + wrapF IntKind.i64 ((wrapF IntKind.i64 (Int.add 0 1)).add 1)) : Bool) = (false))) ∧
 ((IntKind.i64.wrap g3.a != IntKind.i64.wrap (IntKind.i64.wrap b.f + wrapF IntKind.i64 ((wrapF IntKind.i64 (Int.add 0 1)).add 1)) : Bool) = (false))) ∧
 ((IntKind.i64.wrap g3.a != IntKind.i64.wrap (IntKind.i64.wrap b.f + wrapF IntKind.i64 ((wrapF IntKind.i64 (Int.add 0 1)).add 1)) : Bool) = (false))) ∧
 ((!g3.kp : Bool) = (false))) ∧
 (ident (e))) ∧
 ((decide (b.g < 1) : Bool) = (true))) ∧
 ((decide (b.g < 1) : Bool) = (true))) ∧
 ((decide (b.g < 1) : Bool) = (true))) ∧
 ((decide (b.g < 1) : Bool) = (true))) ∧
 ((decide (b.g < 1) : Bool) = (true))) ∧
 ((decide (b.g < 1) : Bool) = (true))) ∧
 ((true : Bool) = (true)))) (by kernel_rfl) ⟨⟨⟨⟨⟨⟨⟨⟨⟨⟨⟨⟨⟨⟨⟨⟨⟨⟨⟨⟨⟨⟨⟨⟨⟨⟨⟨⟨⟨⟨⟨⟨⟨⟨True.intro, rfl⟩, d1⟩, d2⟩, d2⟩, d2⟩, d2⟩, d2⟩, d2⟩, d2⟩, d3⟩, d4⟩, d4⟩, d4⟩, d4⟩, d4⟩, d4⟩, d4⟩, d5⟩, d6⟩, d6⟩, d6⟩, d6⟩, d6⟩, d6⟩, d6⟩, d7⟩, rfl⟩, d8⟩, d8⟩, d8⟩, d8⟩, d8⟩, d8⟩, rfl⟩

set_option maxRecDepth 100000 in
theorem g_E_3_hi (b : BS) (s : SR) (e : Int) (g1 g2 g3 : GV) (n0 : 0 ≤ b.now) (n1 : b.now ≤ 30000) (f1 : 1 ≤ b.f) (f2 : b.f + 3 ≤ 128) (hh : b.h = b.f + 2) (ha1 : g1.a = b.f + 0) (hk1 : g1.kp = true) (ha2 : g2.a = b.f + 1) (hk2 : g2.kp = true) (ha3 : g3.a = b.f + 2) (hk3 : g3.kp = true) (h1 : 127 < b.g) : Holds (endO Tryz.prog Tryz.f4 (ev1 qE (fin b e s [g1, g2, g3]) [false, false, false, false, false, false, false, false, false, false, false, false, false, false, false, false, false, false, false, false, false, false, false, false, false, false, false, false, true, false, false, false, true])) := by
  have d1 : ((decide ((↑(0 + [g1, g2, g3].length) : Int) > IntKind.i64.wrap (IntKind.i64.wrap (127 - IntKind.i64.wrap b.f) + 1)) : Bool) = (false)) := by exact decide_eq_false (by (try rw [wF2]); (try simp only [wF2, wF1, IntKind.wrap_i64, List.length_cons, List.length_nil]); (try simp); omega)
  have d2 : ((IntKind.i64.wrap g1.a != IntKind.i64.wrap (IntKind.i64.wrap b.f + 0) : Bool) = (false)) := by exact bne_eq_false_iff_eq.2 (by (try rw [wF2]); (try simp only [wF2, wF1, IntKind.wrap_i64, List.length_cons, List.length_nil]); (try simp); omega)
  have d3 : ((!g1.kp : Bool) = (false)) := by rw [hk1]; rfl
  have d4 : ((IntKind.i64.wrap g2.a != IntKind.i64.wrap (IntKind.i64.wrap b.f + wrapF IntKind.i64 (Int.add 0 1)) : Bool) = (false)) := by exact bne_eq_false_iff_eq.2 (by (try rw [wF2]); (try simp only [wF2, wF1, IntKind.wrap_i64, List.length_cons, List.length_nil]); (try simp); omega)
  have d5 : ((!g2.kp : Bool) = (false)) := by rw [hk2]; rfl
  have d6 : ((IntKind.i64.wrap g3.a != IntKind.i64.wrap (IntKind.i64.wrap b.f + wrapF IntKind.i64 ((wrapF IntKind.i64 (Int.add 0 1)).add 1)) : Bool) = (false)) := by exact bne_eq_false_iff_eq.2 (by (try rw [wF2]); (try simp only [wF2, wF1, IntKind.wrap_i64, List.length_cons, List.length_nil]); (try simp); omega)
  have d7 : ((!g3.kp : Bool) = (false)) := by rw [hk3]; rfl
  have d8 : ((decide (b.g < 1) : Bool) = (false)) := by exact decide_eq_false (by (try rw [wF2]); (try simp only [wF2, wF1, IntKind.wrap_i64, List.length_cons, List.length_nil]); (try simp); omega)
  have d9 : ((decide (b.g > 127) : Bool) = (true)) := by exact decide_eq_true (by (try rw [wF2]); (try simp only [wF2, wF1, IntKind.wrap_i64, List.length_cons, List.length_nil]); (try simp); omega)
  exact Holds.of (p := ((((((((((((((((((((((((((((((((((((True ∧
 (ident (e))) ∧
 ((decide ((↑(0 + [g1, g2, g3].length) : Int) > IntKind.i64.wrap (IntKind.i64.wrap (127 - IntKind.i64.wrap b.f) + 1)) : Bool) = (false))) ∧
 ((IntKind.i64.wrap g1.a != IntKind.i64.wrap (IntKind.i64.wrap b.f + 0) : Bool) = (false))) ∧
 ((IntKind.i64.wrap g1.a != IntKind.i64.wrap (IntKind.i64.wrap b.f + 0) : Bool) = (false))) ∧
 ((IntKind.i64.wrap g1.a != IntKind.i64.wrap (IntKind.i64.wrap b.f + 0) : Bool) = (false))) ∧
 ((IntKind.i64.wrap g1.a != IntKind.i64.wrap (IntKind.i64.wrap b.f + 0) : Bool) = (false))) ∧
 ((IntKind.i64.wrap g1.a != IntKind.i64.wrap (IntKind.i64.wrap b.f + 0) : Bool) = (false))) ∧
 ((IntKind.i64.wrap g1.a != IntKind.i64.wrap (IntKind.i64.wrap b.f + 0) : Bool) = (false))) ∧
 ((IntKind.i64.wrap g1.a != IntKind.i64.wrap (IntKind.i64.wrap b.f + 0) : Bool) = (false))) ∧
 ((!g1.kp : Bool) = (false))) ∧
 ((IntKind.i64.wrap g2.a != IntKind.i64.wrap (IntKind.i64.wrap b.f + wrapF IntKind.i64 (Int.add 0 1)) : Bool) = (false))) ∧
 ((IntKind.i64.wrap g2.a != IntKind.i64.wrap (IntKind.i64.wrap b.f + wrapF IntKind.i64 (Int.add 0 1)) : Bool) = (false))) ∧
 ((IntKind.i64.wrap g2.a != IntKind.i64.wrap (IntKind.i64.wrap b.f + wrapF IntKind.i64 (Int.add 0 1)) : Bool) = (false))) ∧
 ((IntKind.i64.wrap g2.a != IntKind.i64.wrap (IntKind.i64.wrap b.f + wrapF IntKind.i64 (Int.add 0 1)) : Bool) = (false))) ∧
 ((IntKind.i64.wrap g2.a != IntKind.i64.wrap (IntKind.i64.wrap b.f + wrapF IntKind.i64 (Int.add 0 1)) : Bool) = (false))) ∧
 ((IntKind.i64.wrap g2.a != IntKind.i64.wrap (IntKind.i64.wrap b.f + wrapF IntKind.i64 (Int.add 0 1)) : Bool) = (false))) ∧
 ((IntKind.i64.wrap g2.a != IntKind.i64.wrap (IntKind.i64.wrap b.f + wrapF IntKind.i64 (Int.add 0 1)) : Bool) = (false))) ∧
 ((!g2.kp : Bool) = (false))) ∧
 ((IntKind.i64.wrap g3.a != IntKind.i64.wrap (IntKind.i64.wrap b.f + wrapF IntKind.i64 ((wrapF IntKind.i64 (Int.add 0 1)).add 1)) : Bool) = (false))) ∧
 ((IntKind.i64.wrap g3.a != IntKind.i64.wrap (IntKind.i64.wrap b.f + wrapF IntKind.i64 ((wrapF IntKind.i64 (Int.add 0 1)).add 1)) : Bool) = (false))) ∧
 ((IntKind.i64.wrap g3.a != IntKind.i64.wrap (IntKind.i64.wrap b.f + wrapF IntKind.i64 ((wrapF IntKind.i64 (Int.add 0 1)).add 1)) : Bool) = (false))) ∧
 ((IntKind.i64.wrap g3.a != IntKind.i64.wrap (IntKind.i64.wrap b.f + wrapF IntKind.i64 ((wrapF IntKind.i64 (Int.add 0 1)).add 1)) : Bool) = (false))) ∧
 ((IntKind.i64.wrap g3.a != IntKind.i64.wrap (IntKind.i64.wrap b.f + wrapF IntKind.i64 ((wrapF IntKind.i64 (Int.add 0 1)).add 1)) : Bool) = (false))) ∧
 ((IntKind.i64.wrap g3.a != IntKind.i64.wrap (IntKind.i64.wrap b.f + wrapF IntKind.i64 ((wrapF IntKind.i64 (Int.add 0 1)).add 1)) : Bool) = (false))) ∧
 ((IntKind.i64.wrap g3.a != IntKind.i64.wrap (IntKind.i64.wrap b.f + wrapF IntKind.i64 ((wrapF IntKind.i64 (Int.add 0 1)).add 1)) : Bool) = (false))) ∧
 ((!g3.kp : Bool) = (false))) ∧
 (ident (e))) ∧
 ((decide (b.g < 1) : Bool) = (false))) ∧
 ((decide (b.g < 1) : Bool) = (false))) ∧
 ((decide (b.g < 1) : Bool) = (false))) ∧
 ((decide (b.g > 127) : Bool) = (true))) ∧
 ((decide (b.g < 1) : Bool) = (false))) ∧
 ((decide (b.g < 1) : Bool) = (false))) ∧
 ((decide (b.g < 1) : Bool) = (false))) ∧
 ((decide (b.g > 127) : Bool) = (true))) ∧
 ((true : Bool) = (true)))) (by kernel_rfl) ⟨⟨⟨⟨⟨⟨⟨⟨⟨⟨⟨⟨⟨⟨⟨⟨⟨⟨⟨⟨⟨⟨⟨⟨⟨⟨⟨⟨⟨⟨⟨⟨⟨⟨⟨⟨True.intro, rfl⟩, d1⟩, d2⟩, d2⟩, d2⟩, d2⟩, d2⟩, d2⟩, d2⟩, d3⟩, d4⟩, d4⟩, d4⟩, d4⟩, d4⟩, d4⟩, d4⟩, d5⟩, d6⟩, d6⟩, d6⟩, d6⟩, d6⟩, d6⟩, d6⟩, d7⟩, rfl⟩, d8⟩, d8⟩, d8⟩, d9⟩, d8⟩, d8⟩, d8⟩, d9⟩, rfl⟩

set_option maxRecDepth 100000 in
theorem g_E_3_tw (b : BS) (s : SR) (e : Int) (g1 g2 g3 : GV) (n0 : 0 ≤ b.now) (n1 : b.now ≤ 30000) (f1 : 1 ≤ b.f) (f2 : b.f + 3 ≤ 128) (hh : b.h = b.f + 2) (ha1 : g1.a = b.f + 0) (hk1 : g1.kp = true) (ha2 : g2.a = b.f + 1) (hk2 : g2.kp = true) (ha3 : g3.a = b.f + 2) (hk3 : g3.kp = true) (h0 : 1 ≤ b.g) (h3 : b.g ≤ 127) (h1 : b.g ≤ b.h) : Holds (endO Tryz.prog Tryz.f4 (ev1 qE (fin b e s [g1, g2, g3]) [false, false, false, false, false, false, false, false, false, false, false, false, false, false, false, false, false, false, false, false, false, false, false, false, false, false, false, false, false, true, false, false, false, false, true])) := by
  have d1 : ((decide ((↑(0 + [g1, g2, g3].length) : Int) > IntKind.i64.wrap (IntKind.i64.wrap (127 - IntKind.i64.wrap b.f) + 1)) : Bool) = (false)) := by exact decide_eq_false (by (try rw [wF2]); (try simp only [wF2, wF1, IntKind.wrap_i64, List.length_cons, List.length_nil]); (try simp); omega)
  have d2 : ((IntKind.i64.wrap g1.a != IntKind.i64.wrap (IntKind.i64.wrap b.f + 0) : Bool) = (false)) := by exact bne_eq_false_iff_eq.2 (by (try rw [wF2]); (try simp only [wF2, wF1, IntKind.wrap_i64, List.length_cons, List.length_nil]); (try simp); omega)
  have d3 : ((!g1.kp : Bool) = (false)) := by rw [hk1]; rfl
  have d4 : ((IntKind.i64.wrap g2.a != IntKind.i64.wrap (IntKind.i64.wrap b.f + wrapF IntKind.i64 (Int.add 0 1)) : Bool) = (false)) := by exact bne_eq_false_iff_eq.2 (by (try rw [wF2]); (try simp only [wF2, wF1, IntKind.wrap_i64, List.length_cons, List.length_nil]); (try simp); omega)
  have d5 : ((!g2.kp : Bool) = (false)) := by rw [hk2]; rfl
  have d6 : ((IntKind.i64.wrap g3.a != IntKind.i64.wrap (IntKind.i64.wrap b.f + wrapF IntKind.i64 ((wrapF IntKind.i64 (Int.add 0 1)).add 1)) : Bool) = (false)) := by exact bne_eq_false_iff_eq.2 (by (try rw [wF2]); (try simp only [wF2, wF1, IntKind.wrap_i64, List.length_cons, List.length_nil]); (try simp); omega)
  have d7 : ((!g3.kp : Bool) = (false)) := by rw [hk3]; rfl
  have d8 : ((decide (b.g < 1) : Bool) = (false)) := by exact decide_eq_false (by (try rw [wF2]); (try simp only [wF2, wF1, IntKind.wrap_i64, List.length_cons, List.length_nil]); (try simp); omega)
  have d9 : ((decide (b.g > 127) : Bool) = (false)) := by exact decide_eq_false (by (try rw [wF2]); (try simp only [wF2, wF1, IntKind.wrap_i64, List.length_cons, List.length_nil]); (try simp); omega)
  have d10 : ((decide (b.g ≤ b.h) : Bool) = (true)) := by exact decide_eq_true (by (try rw [wF2]); (try simp only [wF2, wF1, IntKind.wrap_i64, List.length_cons, List.length_nil]); (try simp); omega)
  have d11 : ((decide (IntKind.i64.wrap b.g ≤ IntKind.i64.wrap g3.a) : Bool) = (true)) := by exact decide_eq_true (by (try rw [wF2]); (try simp only [wF2, wF1, IntKind.wrap_i64, List.length_cons, List.length_nil]); (try simp); omega)
  exact Holds.of (p := ((((((((((((((((((((((((((((((((((((((True ∧
 (ident (e))) ∧
 ((decide ((↑(0 + [g1, g2, g3].length) : Int) > IntKind.i64.wrap (IntKind.i64.wrap (127 - IntKind.i64.wrap b.f) + 1)) : Bool) = (false))) ∧
 ((IntKind.i64.wrap g1.a != IntKind.i64.wrap (IntKind.i64.wrap b.f + 0) : Bool) = (false))) ∧
 ((IntKind.i64.wrap g1.a != IntKind.i64.wrap (IntKind.i64.wrap b.f + 0) : Bool) = (false))) ∧
 ((IntKind.i64.wrap g1.a != IntKind.i64.wrap (IntKind.i64.wrap b.f + 0) : Bool) = (false))) ∧
 ((IntKind.i64.wrap g1.a != IntKind.i64.wrap (IntKind.i64.wrap b.f + 0) : Bool) = (false))) ∧
 ((IntKind.i64.wrap g1.a != IntKind.i64.wrap (IntKind.i64.wrap b.f + 0) : Bool) = (false))) ∧
 ((IntKind.i64.wrap g1.a != IntKind.i64.wrap (IntKind.i64.wrap b.f + 0) : Bool) = (false))) ∧
 ((IntKind.i64.wrap g1.a != IntKind.i64.wrap (IntKind.i64.wrap b.f + 0) : Bool) = (false))) ∧
 ((!g1.kp : Bool) = (false))) ∧
 ((IntKind.i64.wrap g2.a != IntKind.i64.wrap (IntKind.i64.wrap b.f + wrapF IntKind.i64 (Int.add 0 1)) : Bool) = (false))) ∧
 ((IntKind.i64.wrap g2.a != IntKind.i64.wrap (IntKind.i64.wrap b.f + wrapF IntKind.i64 (Int.add 0 1)) : Bool) = (false))) ∧
 ((IntKind.i64.wrap g2.a != IntKind.i64.wrap (IntKind.i64.wrap b.f + wrapF IntKind.i64 (Int.add 0 1)) : Bool) = (false))) ∧
 ((IntKind.i64.wrap g2.a != IntKind.i64.wrap (IntKind.i64.wrap b.f + wrapF IntKind.i64 (Int.add 0 1)) : Bool) = (false))) ∧
 ((IntKind.i64.wrap g2.a != IntKind.i64.wrap (IntKind.i64.wrap b.f + wrapF IntKind.i64 (Int.add 0 1)) : Bool) = (false))) ∧
 ((IntKind.i64.wrap g2.a != IntKind.i64.wrap (IntKind.i64.wrap b.f + wrapF IntKind.i64 (Int.add 0 1)) : Bool) = (false))) ∧
 ((IntKind.i64.wrap g2.a != IntKind.i64.wrap (IntKind.i64.wrap b.f + wrapF IntKind.i64 (Int.add 0 1)) : Bool) = (false))) ∧
 ((!g2.kp : Bool) = (false))) ∧
 ((IntKind.i64.wrap g3.a != IntKind.i64.wrap (IntKind.i64.wrap b.f + wrapF IntKind.i64 ((wrapF IntKind.i64 (Int.add 0 1)).add 1)) : Bool) = (false))) ∧
 ((IntKind.i64.wrap g3.a != IntKind.i64.wrap (IntKind.i64.wrap b.f + wrapF IntKind.i64 ((wrapF IntKind.i64 (Int.add 0 1)).add 1)) : Bool) = (false))) ∧
 ((IntKind.i64.wrap g3.a != IntKind.i64.wrap (IntKind.i64.wrap b.f + wrapF IntKind.i64 ((wrapF IntKind.i64 (Int.add 0 1)).add 1)) : Bool) = (false))) ∧
 ((IntKind.i64.wrap g3.a != IntKind.i64.wrap (IntKind.i64.wrap b.f + wrapF IntKind.i64 ((wrapF IntKind.i64 (Int.add 0 1)).add 1)) : Bool) = (false))) ∧
 ((IntKind.i64.wrap g3.a != IntKind.i64.wrap (IntKind.i64.wrap b.f + wrapF IntKind.i64 ((wrapF IntKind.i64 (Int.add 0 1)).add 1)) : Bool) = (false))) ∧
 ((IntKind.i64.wrap g3.a != IntKind.i64.wrap (IntKind.i64.wrap b.f + wrapF IntKind.i64 ((wrapF IntKind.i64 (Int.add 0 1)).add 1)) : Bool) = (false))) ∧
 ((IntKind.i64.wrap g3.a != IntKind.i64.wrap (IntKind.i64.wrap b.f + wrapF IntKind.i64 ((wrapF IntKind.i64 (Int.add 0 1)).add 1)) : Bool) = (false))) ∧
 ((!g3.kp : Bool) = (false))) ∧
 (ident (e))) ∧
 ((decide (b.g < 1) : Bool) = (false))) ∧
 ((decide (b.g < 1) : Bool) = (false))) ∧
 ((decide (b.g < 1) : Bool) = (false))) ∧
 ((decide (b.g > 127) : Bool) = (false))) ∧
 ((decide (b.g ≤ b.h) : Bool) = (true))) ∧
 ((decide (b.g < 1) : Bool) = (false))) ∧
 ((decide (b.g < 1) : Bool) = (false))) ∧
 ((decide (b.g < 1) : Bool) = (false))) ∧
 ((decide (b.g > 127) : Bool) = (false))) ∧
 ((decide (IntKind.i64.wrap b.g ≤ IntKind.i64.wrap g3.a) : Bool) = (true))) ∧
 ((true : Bool) = (true)))) (by kernel_rfl) ⟨⟨⟨⟨⟨⟨⟨⟨⟨⟨⟨⟨⟨⟨⟨⟨⟨⟨⟨⟨⟨⟨⟨⟨⟨⟨⟨⟨⟨⟨⟨⟨⟨⟨⟨⟨⟨⟨True.intro, rfl⟩, d1⟩, d2⟩, d2⟩, d2⟩, d2⟩, d2⟩, d2⟩, d2⟩, d3⟩, d4⟩, d4⟩, d4⟩, d4⟩, d4⟩, d4⟩, d4⟩, d5⟩, d6⟩, d6⟩, d6⟩, d6⟩, d6⟩, d6⟩, d6⟩, d7⟩, rfl⟩, d8⟩, d8⟩, d8⟩, d9⟩, d10⟩, d8⟩, d8⟩, d8⟩, d9⟩, d11⟩, rfl⟩

set_option maxRecDepth 100000 in
theorem g_E_3_ok (b : BS) (s : SR) (e : Int) (g1 g2 g3 : GV) (n0 : 0 ≤ b.now) (n1 : b.now ≤ 30000) (f1 : 1 ≤ b.f) (f2 : b.f + 3 ≤ 128) (hh : b.h = b.f + 2) (ha1 : g1.a = b.f + 0) (hk1 : g1.kp = true) (ha2 : g2.a = b.f + 1) (hk2 : g2.kp = true) (ha3 : g3.a = b.f + 2) (hk3 : g3.kp = true) (h0 : 1 ≤ b.g) (h3 : b.g ≤ 127) (h1 : b.h < b.g) : Holds (endO Tryz.prog Tryz.f4 (ev1 qE (fin b e s [g1, g2, g3]) [false, false, false, false, false, false, false, false, false, false, false, false, false, false, false, false, false, false, false, false, false, false, false, false, false, false, false, false, false, false, false, false, false, false, false])) := by
  have d1 : ((decide ((↑(0 + [g1, g2, g3].length) : Int) > IntKind.i64.wrap (IntKind.i64.wrap (127 - IntKind.i64.wrap b.f) + 1)) : Bool) = (false)) := by exact decide_eq_false (by (try rw [wF2]); (try simp only [wF2, wF1, IntKind.wrap_i64, List.length_cons, List.length_nil]); (try simp); omega)
  have d2 : ((IntKind.i64.wrap g1.a != IntKind.i64.wrap (IntKind.i64.wrap b.f + 0) : Bool) = (false)) := by exact bne_eq_false_iff_eq.2 (by (try rw [wF2]); (try simp only [wF2, wF1, IntKind.wrap_i64, List.length_cons, List.length_nil]); (try simp); omega)
  have d3 : ((!g1.kp : Bool) = (false)) := by rw [hk1]; rfl
  have d4 : ((IntKind.i64.wrap g2.a != IntKind.i64.wrap (IntKind.i64.wrap b.f + wrapF IntKind.i64 (Int.add 0 1)) : Bool) = (false)) := by exact bne_eq_false_iff_eq.2 (by (try rw [wF2]); (try simp only [wF2, wF1, IntKind.wrap_i64, List.length_cons, List.length_nil]); (try simp); omega)
  have d5 : ((!g2.kp : Bool) = (false)) := by rw [hk2]; rfl
  have d6 : ((IntKind.i64.wrap g3.a != IntKind.i64.wrap (IntKind.i64.wrap b.f + wrapF IntKind.i64 ((wrapF IntKind.i64 (Int.add 0 1)).add 1)) : Bool) = (false)) := by exact bne_eq_false_iff_eq.2 (by (try rw [wF2]); (try simp only [wF2, wF1, IntKind.wrap_i64, List.length_cons, List.length_nil]); (try simp); omega)
  have d7 : ((!g3.kp : Bool) = (false)) := by rw [hk3]; rfl
  have d8 : ((decide (b.g < 1) : Bool) = (false)) := by exact decide_eq_false (by (try rw [wF2]); (try simp only [wF2, wF1, IntKind.wrap_i64, List.length_cons, List.length_nil]); (try simp); omega)
  have d9 : ((decide (b.g > 127) : Bool) = (false)) := by exact decide_eq_false (by (try rw [wF2]); (try simp only [wF2, wF1, IntKind.wrap_i64, List.length_cons, List.length_nil]); (try simp); omega)
  have d10 : ((decide (b.g ≤ b.h) : Bool) = (false)) := by exact decide_eq_false (by (try rw [wF2]); (try simp only [wF2, wF1, IntKind.wrap_i64, List.length_cons, List.length_nil]); (try simp); omega)
  have d11 : ((decide (IntKind.i64.wrap b.g ≤ IntKind.i64.wrap g3.a) : Bool) = (false)) := by exact decide_eq_false (by (try rw [wF2]); (try simp only [wF2, wF1, IntKind.wrap_i64, List.length_cons, List.length_nil]); (try simp); omega)
  exact Holds.of (p := ((((((((((((((((((((((((((((((((((((((True ∧
 (ident (e))) ∧
 ((decide ((↑(0 + [g1, g2, g3].length) : Int) > IntKind.i64.wrap (IntKind.i64.wrap (127 - IntKind.i64.wrap b.f) + 1)) : Bool) = (false))) ∧
 ((IntKind.i64.wrap g1.a != IntKind.i64.wrap (IntKind.i64.wrap b.f + 0) : Bool) = (false))) ∧
 ((IntKind.i64.wrap g1.a != IntKind.i64.wrap (IntKind.i64.wrap b.f + 0) : Bool) = (false))) ∧
 ((IntKind.i64.wrap g1.a != IntKind.i64.wrap (IntKind.i64.wrap b.f + 0) : Bool) = (false))) ∧
 ((IntKind.i64.wrap g1.a != IntKind.i64.wrap (IntKind.i64.wrap b.f + 0) : Bool) = (false))) ∧
 ((IntKind.i64.wrap g1.a != IntKind.i64.wrap (IntKind.i64.wrap b.f + 0) : Bool) = (false))) ∧
 ((IntKind.i64.wrap g1.a != IntKind.i64.wrap (IntKind.i64.wrap b.f + 0) : Bool) = (false))) ∧
 ((IntKind.i64.wrap g1.a != IntKind.i64.wrap (IntKind.i64.wrap b.f + 0) : Bool) = (false))) ∧
 ((!g1.kp : Bool) = (false))) ∧
 ((IntKind.i64.wrap g2.a != IntKind.i64.wrap (IntKind.i64.wrap b.f + wrapF IntKind.i64 (Int.add 0 1)) : Bool) = (false))) ∧
 ((IntKind.i64.wrap g2.a != IntKind.i64.wrap (IntKind.i64.wrap b.f + wrapF IntKind.i64 (Int.add 0 1)) : Bool) = (false))) ∧
 ((IntKind.i64.wrap g2.a != IntKind.i64.wrap (IntKind.i64.wrap b.f + wrapF IntKind.i64 (Int.add 0 1)) : Bool) = (false))) ∧
 ((IntKind.i64.wrap g2.a != IntKind.i64.wrap (IntKind.i64.wrap b.f + wrapF IntKind.i64 (Int.add 0 1)) : Bool) = (false))) ∧
 ((IntKind.i64.wrap g2.a != IntKind.i64.wrap (IntKind.i64.wrap b.f + wrapF IntKind.i64 (Int.add 0 1)) : Bool) = (false))) ∧
 ((IntKind.i64.wrap g2.a != IntKind.i64.wrap (IntKind.i64.wrap b.f + wrapF IntKind.i64 (Int.add 0 1)) : Bool) = (false))) ∧
 ((IntKind.i64.wrap g2.a != IntKind.i64.wrap (IntKind.i64.wrap b.f + wrapF IntKind.i64 (Int.add 0 1)) : Bool) = (false))) ∧
 ((!g2.kp : Bool) = (false))) ∧
 ((IntKind.i64.wrap g3.a != IntKind.i64.wrap (IntKind.i64.wrap b.f + wrapF IntKind.i64 ((wrapF IntKind.i64 (Int.add 0 1)).add 1)) : Bool) = (false))) ∧
 ((IntKind.i64.wrap g3.a != IntKind.i64.wrap (IntKind.i64.wrap b.f + wrapF IntKind.i64 ((wrapF IntKind.i64 (Int.add 0 1)).add 1)) : Bool) = (false))) ∧
 ((IntKind.i64.wrap g3.a != IntKind.i64.wrap (IntKind.i64.wrap b.f + wrapF IntKind.i64 ((wrapF IntKind.i64 (Int.add 0 1)).add 1)) : Bool) = (false))) ∧
 ((IntKind.i64.wrap g3.a != IntKind.i64.wrap (IntKind.i64.wrap b.f + wrapF IntKind.i64 ((wrapF IntKind.i64 (Int.add 0 1)).add 1)) : Bool) = (false))) ∧
 ((IntKind.i64.wrap g3.a != IntKind.i64.wrap (IntKind.i64.wrap b.f + wrapF IntKind.i64 ((wrapF IntKind.i64 (Int.add 0 1)).add 1)) : Bool) = (false))) ∧
 ((IntKind.i64.wrap g3.a != IntKind.i64.wrap (IntKind.i64.wrap b.f + wrapF IntKind.i64 ((wrapF IntKind.i64 (Int.add 0 1)).add 1)) : Bool) = (false))) ∧
 ((IntKind.i64.wrap g3.a != IntKind.i64.wrap (IntKind.i64.wrap b.f + wrapF IntKind.i64 ((wrapF IntKind.i64 (Int.add 0 1)).add 1)) : Bool) = (false))) ∧
 ((!g3.kp : Bool) = (false))) ∧
 (ident (e))) ∧
 ((decide (b.g < 1) : Bool) = (false))) ∧
 ((decide (b.g < 1) : Bool) = (false))) ∧
 ((decide (b.g < 1) : Bool) = (false))) ∧
 ((decide (b.g > 127) : Bool) = (false))) ∧
 ((decide (b.g ≤ b.h) : Bool) = (false))) ∧
 ((decide (b.g < 1) : Bool) = (false))) ∧
 ((decide (b.g < 1) : Bool) = (false))) ∧
 ((decide (b.g < 1) : Bool) = (false))) ∧
 ((decide (b.g > 127) : Bool) = (false))) ∧
 ((decide (IntKind.i64.wrap b.g ≤ IntKind.i64.wrap g3.a) : Bool) = (false))) ∧
 ((true : Bool) = (true)))) (by kernel_rfl) ⟨⟨⟨⟨⟨⟨⟨⟨⟨⟨⟨⟨⟨⟨⟨⟨⟨⟨⟨⟨⟨⟨⟨⟨⟨⟨⟨⟨⟨⟨⟨⟨⟨⟨⟨⟨⟨⟨True.intro, rfl⟩, d1⟩, d2⟩, d2⟩, d2⟩, d2⟩, d2⟩, d2⟩, d2⟩, d3⟩, d4⟩, d4⟩, d4⟩, d4⟩, d4⟩, d4⟩, d4⟩, d5⟩, d6⟩, d6⟩, d6⟩, d6⟩, d6⟩, d6⟩, d6⟩, d7⟩, rfl⟩, d8⟩, d8⟩, d8⟩, d9⟩, d10⟩, d8⟩, d8⟩, d8⟩, d9⟩, d11⟩, rfl⟩

end Go.Proofs.YtpdgklkcjegkfaaGreat
