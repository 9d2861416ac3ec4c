/-
  ManagerGives: ahead of the loop.
-/
import Derived.Test.YtpdgklkcjegkfaaGreatMgO
set_option linter.unusedSimpArgs false
set_option linter.unusedVariables false
namespace Go.Proofs.YtpdgklkcjegkfaaGreat
open Go Go.Sx

set_option maxRecDepth 100000 in
theorem g_IA (f g : Int) (p : Option Addr) (l q : Nat) (hl : l ≤ 3) : Holds (fitOA (crtS f g (.slice p l q)) none (evLF Tryz.prog kG 10000 qA (frO f g (.slice p l q)) { sE with orc := [false] })) := by
  have d1 : ((decide ((↑l : Int) > 3) : Bool) = (false)) := by exact decide_eq_false (by (try simp only [wF2, wF1, IntKind.wrap_i64, List.length_cons, List.length_nil]); (try simp); omega)
  exact Holds.of (p := ((((True ∧
 ((decide ((↑l : Int) > 3) : Bool) = (false))) ∧
 ((Value.slice p l q : _) = (Value.slice p l q))) ∧
 (ident (f))) ∧
 (ident (g)))) (by kernel_rfl) ⟨⟨⟨⟨True.intro, d1⟩, rfl⟩, rfl⟩, rfl⟩

set_option maxRecDepth 100000 in
theorem g_IN (f g : Int) (p : Option Addr) (l q : Nat) (hl : 3 < l) : Holds (endO Tryz.prog Tryz.f4 ((fast Tryz.prog kG 10000).1 (cC Tryz.prog bd) (frO f g (.slice p l q)) { sE with orc := [true] })) := by
  have d1 : ((decide ((↑l : Int) > 3) : Bool) = (true)) := by exact decide_eq_true (by (try simp only [wF2, wF1, IntKind.wrap_i64, List.length_cons, List.length_nil]); (try simp); omega)
  exact Holds.of (p := ((True ∧
 ((decide ((↑l : Int) > 3) : Bool) = (true))) ∧
 ((true : Bool) = (true)))) (by kernel_rfl) ⟨⟨True.intro, d1⟩, rfl⟩

set_option maxRecDepth 100000 in
theorem g_I5 (f g : Int) (p : Option Addr) (l q : Nat)  : Holds (fitOA (crt f g (.slice p l q) [] 0) none (ev1 qB5 (crtS f g (.slice p l q)) [])) := by
  exact Holds.of (p := ((((True ∧
 ((Value.slice p l q : _) = (Value.slice p l q))) ∧
 (ident (f))) ∧
 (ident (g))) ∧
 (ident (0)))) (by kernel_rfl) ⟨⟨⟨⟨True.intro, rfl⟩, rfl⟩, rfl⟩, rfl⟩

set_option maxRecDepth 100000 in
theorem g_N6_0 (f g : Int) (i : Int) (p : Option Addr) (l q : Nat) (hl : i < l) : Holds (fitOA (crt f g (.slice p l q) [] i) none (ev1 n6 (crt f g (.slice p l q) [] i) [true])) := by
  have d1 : ((decide (i < (↑l : Int)) : Bool) = (true)) := by exact decide_eq_true (by (try simp only [wF2, wF1, IntKind.wrap_i64, List.length_cons, List.length_nil]); (try simp); omega)
  exact Holds.of (p := (((((True ∧
 ((decide (i < (↑l : Int)) : Bool) = (true))) ∧
 ((Value.slice p l q : _) = (Value.slice p l q))) ∧
 (ident (f))) ∧
 (ident (g))) ∧
 (ident (i)))) (by kernel_rfl) ⟨⟨⟨⟨⟨True.intro, d1⟩, rfl⟩, rfl⟩, rfl⟩, rfl⟩

set_option maxRecDepth 100000 in
theorem g_N9_0 (f g : Int) (i : Int) (p : Option Addr) (l q : Nat) (m : ND)  : Holds (fitOA (crt f g (.slice p l q) [m] i) none (ev1 n9 (crtM f g (.slice p l q) [] m i) [])) := by
  exact Holds.of (p := (((((((((((True ∧
 ((Value.slice p l q : _) = (Value.slice p l q))) ∧
 (ident (f))) ∧
 (ident (g))) ∧
 (ident (i))) ∧
 (ident (m.i0))) ∧
 (ident (m.i1))) ∧
 (ident (m.i2))) ∧
 (ident (m.i3))) ∧
 (ident (m.x))) ∧
 ((m.c : Bool) = (m.c))) ∧
 (ident (m.pl)))) (by kernel_rfl) ⟨⟨⟨⟨⟨⟨⟨⟨⟨⟨⟨True.intro, rfl⟩, rfl⟩, rfl⟩, rfl⟩, rfl⟩, rfl⟩, rfl⟩, rfl⟩, rfl⟩, rfl⟩, rfl⟩

set_option maxRecDepth 100000 in
theorem g_X6_0 (f g : Int) (i : Int) (p : Option Addr) (l q : Nat) (hl : ¬ i < l) : Holds (fitOA (crt f g (.slice p l q) [] i) (some 0) (ev1 n6 (crt f g (.slice p l q) [] i) [false])) := by
  have d1 : ((decide (i < (↑l : Int)) : Bool) = (false)) := by exact decide_eq_false (by (try simp only [wF2, wF1, IntKind.wrap_i64, List.length_cons, List.length_nil]); (try simp); omega)
  exact Holds.of (p := (((((True ∧
 ((decide (i < (↑l : Int)) : Bool) = (false))) ∧
 ((Value.slice p l q : _) = (Value.slice p l q))) ∧
 (ident (f))) ∧
 (ident (g))) ∧
 (ident (i)))) (by kernel_rfl) ⟨⟨⟨⟨⟨True.intro, d1⟩, rfl⟩, rfl⟩, rfl⟩, rfl⟩

set_option maxRecDepth 100000 in
theorem g_C_0 (f g : Int) (i : Int) (p : Option Addr) (l q : Nat) (h1 : 1 ≤ f) (h2 : f ≤ 127) : Holds (fitOA (pre f g []) none (evN qC (crt f g (.slice p l q) [] i) [false, false, false, false, false, false, false, false, false])) := by
  have d1 : ((decide (f < 1) : Bool) = (false)) := by exact decide_eq_false (by (try simp only [wF2, wF1, IntKind.wrap_i64, List.length_cons, List.length_nil]); (try simp); omega)
  have d2 : ((decide (f > 127) : Bool) = (false)) := by exact decide_eq_false (by (try simp only [wF2, wF1, IntKind.wrap_i64, List.length_cons, List.length_nil]); (try simp); omega)
  have d3 : ((decide (f ≤ 0) : Bool) = (false)) := by exact decide_eq_false (by (try simp only [wF2, wF1, IntKind.wrap_i64, List.length_cons, List.length_nil]); (try simp); omega)
  have d4 : (((bs0 f g).kp : Bool) = (false)) := by first | assumption | rfl
  have d5 : ((SR.new.o : Bool) = (false)) := by first | assumption | rfl
  have d6 : ((SR.new.f : Bool) = (false)) := by first | assumption | rfl
  exact Holds.of (p := ((((((((((((((((((((((((((((((((True ∧
 ((decide (f < 1) : Bool) = (false))) ∧
 ((decide (f < 1) : Bool) = (false))) ∧
 ((decide (f < 1) : Bool) = (false))) ∧
 ((decide (f > 127) : Bool) = (false))) ∧
 ((decide (f ≤ 0) : Bool) = (false))) ∧
 ((decide (f < 1) : Bool) = (false))) ∧
 ((decide (f < 1) : Bool) = (false))) ∧
 ((decide (f < 1) : Bool) = (false))) ∧
 ((decide (f > 127) : Bool) = (false))) ∧
 (ident (f))) ∧
 (ident (g))) ∧
 (ident (0))) ∧
 (ident (mm true (mm false 0 0) 1099511627776))) ∧
 (ident (0))) ∧
 (ident (mm true (mm false 0 0) 1099511627776))) ∧
 (ident (f))) ∧
 (((bs0 f g).kp : Bool) = (false))) ∧
 (ident (0))) ∧
 (ident (0))) ∧
 (ident (0))) ∧
 (ident (0))) ∧
 (ident (0))) ∧
 (ident (32))) ∧
 ((SR.new.o : Bool) = (false))) ∧
 ((SR.new.f : Bool) = (false))) ∧
 (ident (wrapF IntKind.u8 0))) ∧
 (ident (wrapF IntKind.u8 (Int.ofNat (Nat.div 0 (Nat.pow 2 (min 8 IntKind.u32.bits))))))) ∧
 (ident (wrapF IntKind.u8 (Int.ofNat (Nat.div 0 (Nat.pow 2 (min 16 IntKind.u32.bits))))))) ∧
 (ident (wrapF IntKind.u8 (Int.ofNat (Nat.div 0 (Nat.pow 2 (min 24 IntKind.u32.bits))))))) ∧
 (ident (128))) ∧
 (ident (wrapF IntKind.u8 0))) ∧
 (ident (wrapF IntKind.u8 0)))) (by kernel_rfl) ⟨⟨⟨⟨⟨⟨⟨⟨⟨⟨⟨⟨⟨⟨⟨⟨⟨⟨⟨⟨⟨⟨⟨⟨⟨⟨⟨⟨⟨⟨⟨⟨True.intro, d1⟩, d1⟩, d1⟩, d2⟩, d3⟩, d1⟩, d1⟩, d1⟩, d2⟩, rfl⟩, rfl⟩, rfl⟩, rfl⟩, rfl⟩, rfl⟩, rfl⟩, d4⟩, rfl⟩, rfl⟩, rfl⟩, rfl⟩, rfl⟩, rfl⟩, d5⟩, d6⟩, rfl⟩, rfl⟩, rfl⟩, rfl⟩, rfl⟩, rfl⟩, rfl⟩

set_option maxRecDepth 100000 in
theorem g_G_0 (f g : Int)  : Holds (fitOA (head (bs0 f g) (SR.ask SR.new) SR.new [] []) none (ev1 q16 (pre f g []) [])) := by
  exact Holds.of (p := ((((((((((((((((((((((((True ∧
 (ident (f))) ∧
 (ident (g))) ∧
 (ident (0))) ∧
 (ident (0))) ∧
 (ident ((bs0 f g).ak))) ∧
 (ident ((bs0 f g).h))) ∧
 (ident ((bs0 f g).now))) ∧
 (ident ((bs0 f g).nx))) ∧
 (((bs0 f g).kp : Bool) = ((bs0 f g).kp))) ∧
 (ident (SR.new.i0))) ∧
 (ident (SR.new.i1))) ∧
 (ident (SR.new.i2))) ∧
 (ident (SR.new.i3))) ∧
 (ident (SR.new.p))) ∧
 (ident (SR.new.b))) ∧
 ((SR.new.o : Bool) = (SR.new.o))) ∧
 ((SR.new.f : Bool) = (SR.new.f))) ∧
 (ident (IntKind.u8.wrap (selI SR.new.i0 SR.new.i1 SR.new.i2 SR.new.i3 SR.new.p)))) ∧
 (ident (byK (selI SR.new.i0 SR.new.i1 SR.new.i2 SR.new.i3 SR.new.p) 8))) ∧
 (ident (byK (selI SR.new.i0 SR.new.i1 SR.new.i2 SR.new.i3 SR.new.p) 16))) ∧
 (ident (byK (selI SR.new.i0 SR.new.i1 SR.new.i2 SR.new.i3 SR.new.p) 24))) ∧
 (ident (bitsF SR.new.b))) ∧
 (ident (SR.new.p))) ∧
 (ident (nextF SR.new.p SR.new.b)))) (by kernel_rfl) ⟨⟨⟨⟨⟨⟨⟨⟨⟨⟨⟨⟨⟨⟨⟨⟨⟨⟨⟨⟨⟨⟨⟨⟨True.intro, rfl⟩, rfl⟩, rfl⟩, rfl⟩, rfl⟩, rfl⟩, rfl⟩, rfl⟩, rfl⟩, rfl⟩, rfl⟩, rfl⟩, rfl⟩, rfl⟩, rfl⟩, rfl⟩, rfl⟩, rfl⟩, rfl⟩, rfl⟩, rfl⟩, rfl⟩, rfl⟩, rfl⟩

set_option maxRecDepth 100000 in
theorem g_B0_0 (f g : Int) (i : Int) (p : Option Addr) (l q : Nat) (h1 : f < 1) : Holds (endO Tryz.prog Tryz.f4 (ev1 (tailC 5 bd) (crt f g (.slice p l q) [] i) [true, true, true, true, true, true])) := by
  have d1 : ((decide (f < 1) : Bool) = (true)) := by exact decide_eq_true (by (try simp only [wF2, wF1, IntKind.wrap_i64, List.length_cons, List.length_nil]); (try simp); omega)
  exact Holds.of (p := (((((((True ∧
 ((decide (f < 1) : Bool) = (true))) ∧
 ((decide (f < 1) : Bool) = (true))) ∧
 ((decide (f < 1) : Bool) = (true))) ∧
 ((decide (f < 1) : Bool) = (true))) ∧
 ((decide (f < 1) : Bool) = (true))) ∧
 ((decide (f < 1) : Bool) = (true))) ∧
 ((true : Bool) = (true)))) (by kernel_rfl) ⟨⟨⟨⟨⟨⟨⟨True.intro, d1⟩, d1⟩, d1⟩, d1⟩, d1⟩, d1⟩, rfl⟩

set_option maxRecDepth 100000 in
theorem g_B1_0 (f g : Int) (i : Int) (p : Option Addr) (l q : Nat) (h1 : 127 < f) : Holds (endO Tryz.prog Tryz.f4 (ev1 (tailC 5 bd) (crt f g (.slice p l q) [] i) [false, false, false, true, false, false, false, true])) := by
  have d1 : ((decide (f < 1) : Bool) = (false)) := by exact decide_eq_false (by (try simp only [wF2, wF1, IntKind.wrap_i64, List.length_cons, List.length_nil]); (try simp); omega)
  have d2 : ((decide (f > 127) : Bool) = (true)) := by exact decide_eq_true (by (try simp only [wF2, wF1, IntKind.wrap_i64, List.length_cons, List.length_nil]); (try simp); omega)
  exact Holds.of (p := (((((((((True ∧
 ((decide (f < 1) : Bool) = (false))) ∧
 ((decide (f < 1) : Bool) = (false))) ∧
 ((decide (f < 1) : Bool) = (false))) ∧
 ((decide (f > 127) : Bool) = (true))) ∧
 ((decide (f < 1) : Bool) = (false))) ∧
 ((decide (f < 1) : Bool) = (false))) ∧
 ((decide (f < 1) : Bool) = (false))) ∧
 ((decide (f > 127) : Bool) = (true))) ∧
 ((true : Bool) = (true)))) (by kernel_rfl) ⟨⟨⟨⟨⟨⟨⟨⟨⟨True.intro, d1⟩, d1⟩, d1⟩, d2⟩, d1⟩, d1⟩, d1⟩, d2⟩, rfl⟩

set_option maxRecDepth 100000 in
theorem g_N6_1 (f g : Int) (i : Int) (p : Option Addr) (l q : Nat) (n1 : ND) (hl : i < l) : Holds (fitOA (crt f g (.slice p l q) [n1] i) none (ev1 n6 (crt f g (.slice p l q) [n1] i) [true])) := by
  have d1 : ((decide (i < (↑l : Int)) : Bool) = (true)) := by exact decide_eq_true (by (try simp only [wF2, wF1, IntKind.wrap_i64, List.length_cons, List.length_nil]); (try simp); omega)
  exact Holds.of (p := ((((((((((((True ∧
 ((decide (i < (↑l : Int)) : Bool) = (true))) ∧
 ((Value.slice p l q : _) = (Value.slice p l q))) ∧
 (ident (f))) ∧
 (ident (g))) ∧
 (ident (i))) ∧
 (ident (n1.i0))) ∧
 (ident (n1.i1))) ∧
 (ident (n1.i2))) ∧
 (ident (n1.i3))) ∧
 (ident (n1.x))) ∧
 ((n1.c : Bool) = (n1.c))) ∧
 (ident (n1.pl)))) (by kernel_rfl) ⟨⟨⟨⟨⟨⟨⟨⟨⟨⟨⟨⟨True.intro, d1⟩, rfl⟩, rfl⟩, rfl⟩, rfl⟩, rfl⟩, rfl⟩, rfl⟩, rfl⟩, rfl⟩, rfl⟩, rfl⟩

set_option maxRecDepth 100000 in
theorem g_N9_1 (f g : Int) (i : Int) (p : Option Addr) (l q : Nat) (n1 : ND) (m : ND)  : Holds (fitOA (crt f g (.slice p l q) [n1, m] i) none (ev1 n9 (crtM f g (.slice p l q) [n1] m i) [])) := by
  exact Holds.of (p := ((((((((((((((((((True ∧
 ((Value.slice p l q : _) = (Value.slice p l q))) ∧
 (ident (f))) ∧
 (ident (g))) ∧
 (ident (i))) ∧
 (ident (n1.i0))) ∧
 (ident (n1.i1))) ∧
 (ident (n1.i2))) ∧
 (ident (n1.i3))) ∧
 (ident (n1.x))) ∧
 ((n1.c : Bool) = (n1.c))) ∧
 (ident (n1.pl))) ∧
 (ident (m.i0))) ∧
 (ident (m.i1))) ∧
 (ident (m.i2))) ∧
 (ident (m.i3))) ∧
 (ident (m.x))) ∧
 ((m.c : Bool) = (m.c))) ∧
 (ident (m.pl)))) (by kernel_rfl) ⟨⟨⟨⟨⟨⟨⟨⟨⟨⟨⟨⟨⟨⟨⟨⟨⟨⟨True.intro, rfl⟩, rfl⟩, rfl⟩, rfl⟩, rfl⟩, rfl⟩, rfl⟩, rfl⟩, rfl⟩, rfl⟩, rfl⟩, rfl⟩, rfl⟩, rfl⟩, rfl⟩, rfl⟩, rfl⟩, rfl⟩

set_option maxRecDepth 100000 in
theorem g_X6_1 (f g : Int) (i : Int) (p : Option Addr) (l q : Nat) (n1 : ND) (hl : ¬ i < l) : Holds (fitOA (crt f g (.slice p l q) [n1] i) (some 0) (ev1 n6 (crt f g (.slice p l q) [n1] i) [false])) := by
  have d1 : ((decide (i < (↑l : Int)) : Bool) = (false)) := by exact decide_eq_false (by (try simp only [wF2, wF1, IntKind.wrap_i64, List.length_cons, List.length_nil]); (try simp); omega)
  exact Holds.of (p := ((((((((((((True ∧
 ((decide (i < (↑l : Int)) : Bool) = (false))) ∧
 ((Value.slice p l q : _) = (Value.slice p l q))) ∧
 (ident (f))) ∧
 (ident (g))) ∧
 (ident (i))) ∧
 (ident (n1.i0))) ∧
 (ident (n1.i1))) ∧
 (ident (n1.i2))) ∧
 (ident (n1.i3))) ∧
 (ident (n1.x))) ∧
 ((n1.c : Bool) = (n1.c))) ∧
 (ident (n1.pl)))) (by kernel_rfl) ⟨⟨⟨⟨⟨⟨⟨⟨⟨⟨⟨⟨True.intro, d1⟩, rfl⟩, rfl⟩, rfl⟩, rfl⟩, rfl⟩, rfl⟩, rfl⟩, rfl⟩, rfl⟩, rfl⟩, rfl⟩

set_option maxRecDepth 100000 in
theorem g_N7_1 (f g : Int) (i : Int) (p : Option Addr) (l q : Nat) (n1 : ND) (hi : 0 ≤ i) (hi2 : i < 10) : Holds (fitOA (crt f g (.slice p l q) [n1] (i + 1)) none (ev1 n7 (crt f g (.slice p l q) [n1] i) [])) := by
  have d1 : ((i + 1 : Int) = (IntKind.i64.wrap (i + 1))) := by (try simp only [IntKind.wrap_i64]); omega
  exact Holds.of (p := (((((((((((True ∧
 ((Value.slice p l q : _) = (Value.slice p l q))) ∧
 (ident (f))) ∧
 (ident (g))) ∧
 ((i + 1 : Int) = (IntKind.i64.wrap (i + 1)))) ∧
 (ident (n1.i0))) ∧
 (ident (n1.i1))) ∧
 (ident (n1.i2))) ∧
 (ident (n1.i3))) ∧
 (ident (n1.x))) ∧
 ((n1.c : Bool) = (n1.c))) ∧
 (ident (n1.pl)))) (by kernel_rfl) ⟨⟨⟨⟨⟨⟨⟨⟨⟨⟨⟨True.intro, rfl⟩, rfl⟩, rfl⟩, d1⟩, rfl⟩, rfl⟩, rfl⟩, rfl⟩, rfl⟩, rfl⟩, rfl⟩

set_option maxRecDepth 100000 in
theorem g_C_1 (f g : Int) (i : Int) (p : Option Addr) (l q : Nat) (n1 : ND) (h1 : 1 ≤ f) (h2 : f ≤ 127) : Holds (fitOA (pre f g [n1]) none (evN qC (crt f g (.slice p l q) [n1] i) [false, false, false, false, false, false, false, false, false])) := by
  have d1 : ((decide (f < 1) : Bool) = (false)) := by exact decide_eq_false (by (try simp only [wF2, wF1, IntKind.wrap_i64, List.length_cons, List.length_nil]); (try simp); omega)
  have d2 : ((decide (f > 127) : Bool) = (false)) := by exact decide_eq_false (by (try simp only [wF2, wF1, IntKind.wrap_i64, List.length_cons, List.length_nil]); (try simp); omega)
  have d3 : ((decide (f ≤ 0) : Bool) = (false)) := by exact decide_eq_false (by (try simp only [wF2, wF1, IntKind.wrap_i64, List.length_cons, List.length_nil]); (try simp); omega)
  have d4 : (((bs0 f g).kp : Bool) = (false)) := by first | assumption | rfl
  have d5 : ((SR.new.o : Bool) = (false)) := by first | assumption | rfl
  have d6 : ((SR.new.f : Bool) = (false)) := by first | assumption | rfl
  exact Holds.of (p := (((((((((((((((((((((((((((((((((((((((True ∧
 ((decide (f < 1) : Bool) = (false))) ∧
 ((decide (f < 1) : Bool) = (false))) ∧
 ((decide (f < 1) : Bool) = (false))) ∧
 ((decide (f > 127) : Bool) = (false))) ∧
 ((decide (f ≤ 0) : Bool) = (false))) ∧
 ((decide (f < 1) : Bool) = (false))) ∧
 ((decide (f < 1) : Bool) = (false))) ∧
 ((decide (f < 1) : Bool) = (false))) ∧
 ((decide (f > 127) : Bool) = (false))) ∧
 (ident (f))) ∧
 (ident (g))) ∧
 (ident (0))) ∧
 (ident (mm true (mm false 0 0) 1099511627776))) ∧
 (ident (0))) ∧
 (ident (mm true (mm false 0 0) 1099511627776))) ∧
 (ident (f))) ∧
 (((bs0 f g).kp : Bool) = (false))) ∧
 (ident (0))) ∧
 (ident (0))) ∧
 (ident (0))) ∧
 (ident (0))) ∧
 (ident (0))) ∧
 (ident (32))) ∧
 ((SR.new.o : Bool) = (false))) ∧
 ((SR.new.f : Bool) = (false))) ∧
 (ident (n1.i0))) ∧
 (ident (n1.i1))) ∧
 (ident (n1.i2))) ∧
 (ident (n1.i3))) ∧
 (ident (n1.x))) ∧
 ((n1.c : Bool) = (n1.c))) ∧
 (ident (n1.pl))) ∧
 (ident (wrapF IntKind.u8 0))) ∧
 (ident (wrapF IntKind.u8 (Int.ofNat (Nat.div 0 (Nat.pow 2 (min 8 IntKind.u32.bits))))))) ∧
 (ident (wrapF IntKind.u8 (Int.ofNat (Nat.div 0 (Nat.pow 2 (min 16 IntKind.u32.bits))))))) ∧
 (ident (wrapF IntKind.u8 (Int.ofNat (Nat.div 0 (Nat.pow 2 (min 24 IntKind.u32.bits))))))) ∧
 (ident (128))) ∧
 (ident (wrapF IntKind.u8 0))) ∧
 (ident (wrapF IntKind.u8 0)))) (by kernel_rfl) ⟨⟨⟨⟨⟨⟨⟨⟨⟨⟨⟨⟨⟨⟨⟨⟨⟨⟨⟨⟨⟨⟨⟨⟨⟨⟨⟨⟨⟨⟨⟨⟨⟨⟨⟨⟨⟨⟨⟨True.intro, d1⟩, d1⟩, d1⟩, d2⟩, d3⟩, d1⟩, d1⟩, d1⟩, d2⟩, rfl⟩, rfl⟩, rfl⟩, rfl⟩, rfl⟩, rfl⟩, rfl⟩, d4⟩, rfl⟩, rfl⟩, rfl⟩, rfl⟩, rfl⟩, rfl⟩, d5⟩, d6⟩, rfl⟩, rfl⟩, rfl⟩, rfl⟩, rfl⟩, rfl⟩, rfl⟩, rfl⟩, rfl⟩, rfl⟩, rfl⟩, rfl⟩, rfl⟩, rfl⟩

set_option maxRecDepth 100000 in
theorem g_G_1 (f g : Int) (n1 : ND)  : Holds (fitOA (head (bs0 f g) (SR.ask SR.new) SR.new [n1] []) none (ev1 q16 (pre f g [n1]) [])) := by
  exact Holds.of (p := (((((((((((((((((((((((((((((((True ∧
 (ident (f))) ∧
 (ident (g))) ∧
 (ident (0))) ∧
 (ident (0))) ∧
 (ident ((bs0 f g).ak))) ∧
 (ident ((bs0 f g).h))) ∧
 (ident ((bs0 f g).now))) ∧
 (ident ((bs0 f g).nx))) ∧
 (((bs0 f g).kp : Bool) = ((bs0 f g).kp))) ∧
 (ident (SR.new.i0))) ∧
 (ident (SR.new.i1))) ∧
 (ident (SR.new.i2))) ∧
 (ident (SR.new.i3))) ∧
 (ident (SR.new.p))) ∧
 (ident (SR.new.b))) ∧
 ((SR.new.o : Bool) = (SR.new.o))) ∧
 ((SR.new.f : Bool) = (SR.new.f))) ∧
 (ident (n1.i0))) ∧
 (ident (n1.i1))) ∧
 (ident (n1.i2))) ∧
 (ident (n1.i3))) ∧
 (ident (n1.x))) ∧
 ((n1.c : Bool) = (n1.c))) ∧
 (ident (n1.pl))) ∧
 (ident (IntKind.u8.wrap (selI SR.new.i0 SR.new.i1 SR.new.i2 SR.new.i3 SR.new.p)))) ∧
 (ident (byK (selI SR.new.i0 SR.new.i1 SR.new.i2 SR.new.i3 SR.new.p) 8))) ∧
 (ident (byK (selI SR.new.i0 SR.new.i1 SR.new.i2 SR.new.i3 SR.new.p) 16))) ∧
 (ident (byK (selI SR.new.i0 SR.new.i1 SR.new.i2 SR.new.i3 SR.new.p) 24))) ∧
 (ident (bitsF SR.new.b))) ∧
 (ident (SR.new.p))) ∧
 (ident (nextF SR.new.p SR.new.b)))) (by kernel_rfl) ⟨⟨⟨⟨⟨⟨⟨⟨⟨⟨⟨⟨⟨⟨⟨⟨⟨⟨⟨⟨⟨⟨⟨⟨⟨⟨⟨⟨⟨⟨⟨True.intro, rfl⟩, rfl⟩, rfl⟩, rfl⟩, rfl⟩, rfl⟩, rfl⟩, rfl⟩, rfl⟩, rfl⟩, rfl⟩, rfl⟩, rfl⟩, rfl⟩, rfl⟩, rfl⟩, rfl⟩, rfl⟩, rfl⟩, rfl⟩, rfl⟩, rfl⟩, rfl⟩, rfl⟩, rfl⟩, rfl⟩, rfl⟩, rfl⟩, rfl⟩, rfl⟩, rfl⟩

set_option maxRecDepth 100000 in
theorem g_B0_1 (f g : Int) (i : Int) (p : Option Addr) (l q : Nat) (n1 : ND) (h1 : f < 1) : Holds (endO Tryz.prog Tryz.f4 (ev1 (tailC 5 bd) (crt f g (.slice p l q) [n1] i) [true, true, true, true, true, true])) := by
  have d1 : ((decide (f < 1) : Bool) = (true)) := by exact decide_eq_true (by (try simp only [wF2, wF1, IntKind.wrap_i64, List.length_cons, List.length_nil]); (try simp); omega)
  exact Holds.of (p := (((((((True ∧
 ((decide (f < 1) : Bool) = (true))) ∧
 ((decide (f < 1) : Bool) = (true))) ∧
 ((decide (f < 1) : Bool) = (true))) ∧
 ((decide (f < 1) : Bool) = (true))) ∧
 ((decide (f < 1) : Bool) = (true))) ∧
 ((decide (f < 1) : Bool) = (true))) ∧
 ((true : Bool) = (true)))) (by kernel_rfl) ⟨⟨⟨⟨⟨⟨⟨True.intro, d1⟩, d1⟩, d1⟩, d1⟩, d1⟩, d1⟩, rfl⟩

set_option maxRecDepth 100000 in
theorem g_B1_1 (f g : Int) (i : Int) (p : Option Addr) (l q : Nat) (n1 : ND) (h1 : 127 < f) : Holds (endO Tryz.prog Tryz.f4 (ev1 (tailC 5 bd) (crt f g (.slice p l q) [n1] i) [false, false, false, true, false, false, false, true])) := by
  have d1 : ((decide (f < 1) : Bool) = (false)) := by exact decide_eq_false (by (try simp only [wF2, wF1, IntKind.wrap_i64, List.length_cons, List.length_nil]); (try simp); omega)
  have d2 : ((decide (f > 127) : Bool) = (true)) := by exact decide_eq_true (by (try simp only [wF2, wF1, IntKind.wrap_i64, List.length_cons, List.length_nil]); (try simp); omega)
  exact Holds.of (p := (((((((((True ∧
 ((decide (f < 1) : Bool) = (false))) ∧
 ((decide (f < 1) : Bool) = (false))) ∧
 ((decide (f < 1) : Bool) = (false))) ∧
 ((decide (f > 127) : Bool) = (true))) ∧
 ((decide (f < 1) : Bool) = (false))) ∧
 ((decide (f < 1) : Bool) = (false))) ∧
 ((decide (f < 1) : Bool) = (false))) ∧
 ((decide (f > 127) : Bool) = (true))) ∧
 ((true : Bool) = (true)))) (by kernel_rfl) ⟨⟨⟨⟨⟨⟨⟨⟨⟨True.intro, d1⟩, d1⟩, d1⟩, d2⟩, d1⟩, d1⟩, d1⟩, d2⟩, rfl⟩

set_option maxRecDepth 100000 in
theorem g_N6_2 (f g : Int) (i : Int) (p : Option Addr) (l q : Nat) (n1 n2 : ND) (hl : i < l) : Holds (fitOA (crt f g (.slice p l q) [n1, n2] i) none (ev1 n6 (crt f g (.slice p l q) [n1, n2] i) [true])) := by
  have d1 : ((decide (i < (↑l : Int)) : Bool) = (true)) := by exact decide_eq_true (by (try simp only [wF2, wF1, IntKind.wrap_i64, List.length_cons, List.length_nil]); (try simp); omega)
  exact Holds.of (p := (((((((((((((((((((True ∧
 ((decide (i < (↑l : Int)) : Bool) = (true))) ∧
 ((Value.slice p l q : _) = (Value.slice p l q))) ∧
 (ident (f))) ∧
 (ident (g))) ∧
 (ident (i))) ∧
 (ident (n1.i0))) ∧
 (ident (n1.i1))) ∧
 (ident (n1.i2))) ∧
 (ident (n1.i3))) ∧
 (ident (n1.x))) ∧
 ((n1.c : Bool) = (n1.c))) ∧
 (ident (n1.pl))) ∧
 (ident (n2.i0))) ∧
 (ident (n2.i1))) ∧
 (ident (n2.i2))) ∧
 (ident (n2.i3))) ∧
 (ident (n2.x))) ∧
 ((n2.c : Bool) = (n2.c))) ∧
 (ident (n2.pl)))) (by kernel_rfl) ⟨⟨⟨⟨⟨⟨⟨⟨⟨⟨⟨⟨⟨⟨⟨⟨⟨⟨⟨True.intro, d1⟩, rfl⟩, rfl⟩, rfl⟩, rfl⟩, rfl⟩, rfl⟩, rfl⟩, rfl⟩, rfl⟩, rfl⟩, rfl⟩, rfl⟩, rfl⟩, rfl⟩, rfl⟩, rfl⟩, rfl⟩, rfl⟩

set_option maxRecDepth 100000 in
theorem g_N9_2 (f g : Int) (i : Int) (p : Option Addr) (l q : Nat) (n1 n2 : ND) (m : ND)  : Holds (fitOA (crt f g (.slice p l q) [n1, n2, m] i) none (ev1 n9 (crtM f g (.slice p l q) [n1, n2] m i) [])) := by
  exact Holds.of (p := (((((((((((((((((((((((((True ∧
 ((Value.slice p l q : _) = (Value.slice p l q))) ∧
 (ident (f))) ∧
 (ident (g))) ∧
 (ident (i))) ∧
 (ident (n1.i0))) ∧
 (ident (n1.i1))) ∧
 (ident (n1.i2))) ∧
 (ident (n1.i3))) ∧
 (ident (n1.x))) ∧
 ((n1.c : Bool) = (n1.c))) ∧
 (ident (n1.pl))) ∧
 (ident (n2.i0))) ∧
 (ident (n2.i1))) ∧
 (ident (n2.i2))) ∧
 (ident (n2.i3))) ∧
 (ident (n2.x))) ∧
 ((n2.c : Bool) = (n2.c))) ∧
 (ident (n2.pl))) ∧
 (ident (m.i0))) ∧
 (ident (m.i1))) ∧
 (ident (m.i2))) ∧
 (ident (m.i3))) ∧
 (ident (m.x))) ∧
 ((m.c : Bool) = (m.c))) ∧
 (ident (m.pl)))) (by kernel_rfl) ⟨⟨⟨⟨⟨⟨⟨⟨⟨⟨⟨⟨⟨⟨⟨⟨⟨⟨⟨⟨⟨⟨⟨⟨⟨True.intro, rfl⟩, rfl⟩, rfl⟩, rfl⟩, rfl⟩, rfl⟩, rfl⟩, rfl⟩, rfl⟩, rfl⟩, rfl⟩, rfl⟩, rfl⟩, rfl⟩, rfl⟩, rfl⟩, rfl⟩, rfl⟩, rfl⟩, rfl⟩, rfl⟩, rfl⟩, rfl⟩, rfl⟩, rfl⟩

set_option maxRecDepth 100000 in
theorem g_X6_2 (f g : Int) (i : Int) (p : Option Addr) (l q : Nat) (n1 n2 : ND) (hl : ¬ i < l) : Holds (fitOA (crt f g (.slice p l q) [n1, n2] i) (some 0) (ev1 n6 (crt f g (.slice p l q) [n1, n2] i) [false])) := by
  have d1 : ((decide (i < (↑l : Int)) : Bool) = (false)) := by exact decide_eq_false (by (try simp only [wF2, wF1, IntKind.wrap_i64, List.length_cons, List.length_nil]); (try simp); omega)
  exact Holds.of (p := (((((((((((((((((((True ∧
 ((decide (i < (↑l : Int)) : Bool) = (false))) ∧
 ((Value.slice p l q : _) = (Value.slice p l q))) ∧
 (ident (f))) ∧
 (ident (g))) ∧
 (ident (i))) ∧
 (ident (n1.i0))) ∧
 (ident (n1.i1))) ∧
 (ident (n1.i2))) ∧
 (ident (n1.i3))) ∧
 (ident (n1.x))) ∧
 ((n1.c : Bool) = (n1.c))) ∧
 (ident (n1.pl))) ∧
 (ident (n2.i0))) ∧
 (ident (n2.i1))) ∧
 (ident (n2.i2))) ∧
 (ident (n2.i3))) ∧
 (ident (n2.x))) ∧
 ((n2.c : Bool) = (n2.c))) ∧
 (ident (n2.pl)))) (by kernel_rfl) ⟨⟨⟨⟨⟨⟨⟨⟨⟨⟨⟨⟨⟨⟨⟨⟨⟨⟨⟨True.intro, d1⟩, rfl⟩, rfl⟩, rfl⟩, rfl⟩, rfl⟩, rfl⟩, rfl⟩, rfl⟩, rfl⟩, rfl⟩, rfl⟩, rfl⟩, rfl⟩, rfl⟩, rfl⟩, rfl⟩, rfl⟩, rfl⟩

set_option maxRecDepth 100000 in
theorem g_N7_2 (f g : Int) (i : Int) (p : Option Addr) (l q : Nat) (n1 n2 : ND) (hi : 0 ≤ i) (hi2 : i < 10) : Holds (fitOA (crt f g (.slice p l q) [n1, n2] (i + 1)) none (ev1 n7 (crt f g (.slice p l q) [n1, n2] i) [])) := by
  have d1 : ((i + 1 : Int) = (IntKind.i64.wrap (i + 1))) := by (try simp only [IntKind.wrap_i64]); omega
  exact Holds.of (p := ((((((((((((((((((True ∧
 ((Value.slice p l q : _) = (Value.slice p l q))) ∧
 (ident (f))) ∧
 (ident (g))) ∧
 ((i + 1 : Int) = (IntKind.i64.wrap (i + 1)))) ∧
 (ident (n1.i0))) ∧
 (ident (n1.i1))) ∧
 (ident (n1.i2))) ∧
 (ident (n1.i3))) ∧
 (ident (n1.x))) ∧
 ((n1.c : Bool) = (n1.c))) ∧
 (ident (n1.pl))) ∧
 (ident (n2.i0))) ∧
 (ident (n2.i1))) ∧
 (ident (n2.i2))) ∧
 (ident (n2.i3))) ∧
 (ident (n2.x))) ∧
 ((n2.c : Bool) = (n2.c))) ∧
 (ident (n2.pl)))) (by kernel_rfl) ⟨⟨⟨⟨⟨⟨⟨⟨⟨⟨⟨⟨⟨⟨⟨⟨⟨⟨True.intro, rfl⟩, rfl⟩, rfl⟩, d1⟩, rfl⟩, rfl⟩, rfl⟩, rfl⟩, rfl⟩, rfl⟩, rfl⟩, rfl⟩, rfl⟩, rfl⟩, rfl⟩, rfl⟩, rfl⟩, rfl⟩

set_option maxRecDepth 100000 in
theorem g_C_2 (f g : Int) (i : Int) (p : Option Addr) (l q : Nat) (n1 n2 : ND) (h1 : 1 ≤ f) (h2 : f ≤ 127) : Holds (fitOA (pre f g [n1, n2]) none (evN qC (crt f g (.slice p l q) [n1, n2] i) [false, false, false, false, false, false, false, false, false])) := by
  have d1 : ((decide (f < 1) : Bool) = (false)) := by exact decide_eq_false (by (try simp only [wF2, wF1, IntKind.wrap_i64, List.length_cons, List.length_nil]); (try simp); omega)
  have d2 : ((decide (f > 127) : Bool) = (false)) := by exact decide_eq_false (by (try simp only [wF2, wF1, IntKind.wrap_i64, List.length_cons, List.length_nil]); (try simp); omega)
  have d3 : ((decide (f ≤ 0) : Bool) = (false)) := by exact decide_eq_false (by (try simp only [wF2, wF1, IntKind.wrap_i64, List.length_cons, List.length_nil]); (try simp); omega)
  have d4 : (((bs0 f g).kp : Bool) = (false)) := by first | assumption | rfl
  have d5 : ((SR.new.o : Bool) = (false)) := by first | assumption | rfl
  have d6 : ((SR.new.f : Bool) = (false)) := by first | assumption | rfl
  exact Holds.of (p := ((((((((((((((((((((((((((((((((((((((((((((((True ∧
 ((decide (f < 1) : Bool) = (false))) ∧
 ((decide (f < 1) : Bool) = (false))) ∧
 ((decide (f < 1) : Bool) = (false))) ∧
 ((decide (f > 127) : Bool) = (false))) ∧
 ((decide (f ≤ 0) : Bool) = (false))) ∧
 ((decide (f < 1) : Bool) = (false))) ∧
 ((decide (f < 1) : Bool) = (false))) ∧
 ((decide (f < 1) : Bool) = (false))) ∧
 ((decide (f > 127) : Bool) = (false))) ∧
 (ident (f))) ∧
 (ident (g))) ∧
 (ident (0))) ∧
 (ident (mm true (mm false 0 0) 1099511627776))) ∧
 (ident (0))) ∧
 (ident (mm true (mm false 0 0) 1099511627776))) ∧
 (ident (f))) ∧
 (((bs0 f g).kp : Bool) = (false))) ∧
 (ident (0))) ∧
 (ident (0))) ∧
 (ident (0))) ∧
 (ident (0))) ∧
 (ident (0))) ∧
 (ident (32))) ∧
 ((SR.new.o : Bool) = (false))) ∧
 ((SR.new.f : Bool) = (false))) ∧
 (ident (n1.i0))) ∧
 (ident (n1.i1))) ∧
 (ident (n1.i2))) ∧
 (ident (n1.i3))) ∧
 (ident (n1.x))) ∧
 ((n1.c : Bool) = (n1.c))) ∧
 (ident (n1.pl))) ∧
 (ident (n2.i0))) ∧
 (ident (n2.i1))) ∧
 (ident (n2.i2))) ∧
 (ident (n2.i3))) ∧
 (ident (n2.x))) ∧
 ((n2.c : Bool) = (n2.c))) ∧
 (ident (n2.pl))) ∧
 (ident (wrapF IntKind.u8 0))) ∧
 (ident (wrapF IntKind.u8 (Int.ofNat (Nat.div 0 (Nat.pow 2 (min 8 IntKind.u32.bits))))))) ∧
 (ident (wrapF IntKind.u8 (Int.ofNat (Nat.div 0 (Nat.pow 2 (min 16 IntKind.u32.bits))))))) ∧
 (ident (wrapF IntKind.u8 (Int.ofNat (Nat.div 0 (Nat.pow 2 (min 24 IntKind.u32.bits))))))) ∧
 (ident (128))) ∧
 (ident (wrapF IntKind.u8 0))) ∧
 (ident (wrapF IntKind.u8 0)))) (by kernel_rfl) ⟨⟨⟨⟨⟨⟨⟨⟨⟨⟨⟨⟨⟨⟨⟨⟨⟨⟨⟨⟨⟨⟨⟨⟨⟨⟨⟨⟨⟨⟨⟨⟨⟨⟨⟨⟨⟨⟨⟨⟨⟨⟨⟨⟨⟨⟨True.intro, d1⟩, d1⟩, d1⟩, d2⟩, d3⟩, d1⟩, d1⟩, d1⟩, d2⟩, rfl⟩, rfl⟩, rfl⟩, rfl⟩, rfl⟩, rfl⟩, rfl⟩, d4⟩, rfl⟩, rfl⟩, rfl⟩, rfl⟩, rfl⟩, rfl⟩, d5⟩, d6⟩, rfl⟩, rfl⟩, rfl⟩, rfl⟩, rfl⟩, rfl⟩, rfl⟩, rfl⟩, rfl⟩, rfl⟩, rfl⟩, rfl⟩, rfl⟩, rfl⟩, rfl⟩, rfl⟩, rfl⟩, rfl⟩, rfl⟩, rfl⟩, rfl⟩

set_option maxRecDepth 100000 in
theorem g_G_2 (f g : Int) (n1 n2 : ND)  : Holds (fitOA (head (bs0 f g) (SR.ask SR.new) SR.new [n1, n2] []) none (ev1 q16 (pre f g [n1, n2]) [])) := by
  exact Holds.of (p := ((((((((((((((((((((((((((((((((((((((True ∧
 (ident (f))) ∧
 (ident (g))) ∧
 (ident (0))) ∧
 (ident (0))) ∧
 (ident ((bs0 f g).ak))) ∧
 (ident ((bs0 f g).h))) ∧
 (ident ((bs0 f g).now))) ∧
 (ident ((bs0 f g).nx))) ∧
 (((bs0 f g).kp : Bool) = ((bs0 f g).kp))) ∧
 (ident (SR.new.i0))) ∧
 (ident (SR.new.i1))) ∧
 (ident (SR.new.i2))) ∧
 (ident (SR.new.i3))) ∧
 (ident (SR.new.p))) ∧
 (ident (SR.new.b))) ∧
 ((SR.new.o : Bool) = (SR.new.o))) ∧
 ((SR.new.f : Bool) = (SR.new.f))) ∧
 (ident (n1.i0))) ∧
 (ident (n1.i1))) ∧
 (ident (n1.i2))) ∧
 (ident (n1.i3))) ∧
 (ident (n1.x))) ∧
 ((n1.c : Bool) = (n1.c))) ∧
 (ident (n1.pl))) ∧
 (ident (n2.i0))) ∧
 (ident (n2.i1))) ∧
 (ident (n2.i2))) ∧
 (ident (n2.i3))) ∧
 (ident (n2.x))) ∧
 ((n2.c : Bool) = (n2.c))) ∧
 (ident (n2.pl))) ∧
 (ident (IntKind.u8.wrap (selI SR.new.i0 SR.new.i1 SR.new.i2 SR.new.i3 SR.new.p)))) ∧
 (ident (byK (selI SR.new.i0 SR.new.i1 SR.new.i2 SR.new.i3 SR.new.p) 8))) ∧
 (ident (byK (selI SR.new.i0 SR.new.i1 SR.new.i2 SR.new.i3 SR.new.p) 16))) ∧
 (ident (byK (selI SR.new.i0 SR.new.i1 SR.new.i2 SR.new.i3 SR.new.p) 24))) ∧
 (ident (bitsF SR.new.b))) ∧
 (ident (SR.new.p))) ∧
 (ident (nextF SR.new.p SR.new.b)))) (by kernel_rfl) ⟨⟨⟨⟨⟨⟨⟨⟨⟨⟨⟨⟨⟨⟨⟨⟨⟨⟨⟨⟨⟨⟨⟨⟨⟨⟨⟨⟨⟨⟨⟨⟨⟨⟨⟨⟨⟨⟨True.intro, rfl⟩, rfl⟩, rfl⟩, rfl⟩, rfl⟩, rfl⟩, rfl⟩, rfl⟩, rfl⟩, rfl⟩, rfl⟩, rfl⟩, rfl⟩, rfl⟩, rfl⟩, rfl⟩, rfl⟩, rfl⟩, rfl⟩, rfl⟩, rfl⟩, rfl⟩, rfl⟩, rfl⟩, rfl⟩, rfl⟩, rfl⟩, rfl⟩, rfl⟩, rfl⟩, rfl⟩, rfl⟩, rfl⟩, rfl⟩, rfl⟩, rfl⟩, rfl⟩, rfl⟩

set_option maxRecDepth 100000 in
theorem g_B0_2 (f g : Int) (i : Int) (p : Option Addr) (l q : Nat) (n1 n2 : ND) (h1 : f < 1) : Holds (endO Tryz.prog Tryz.f4 (ev1 (tailC 5 bd) (crt f g (.slice p l q) [n1, n2] i) [true, true, true, true, true, true])) := by
  have d1 : ((decide (f < 1) : Bool) = (true)) := by exact decide_eq_true (by (try simp only [wF2, wF1, IntKind.wrap_i64, List.length_cons, List.length_nil]); (try simp); omega)
  exact Holds.of (p := (((((((True ∧
 ((decide (f < 1) : Bool) = (true))) ∧
 ((decide (f < 1) : Bool) = (true))) ∧
 ((decide (f < 1) : Bool) = (true))) ∧
 ((decide (f < 1) : Bool) = (true))) ∧
 ((decide (f < 1) : Bool) = (true))) ∧
 ((decide (f < 1) : Bool) = (true))) ∧
 ((true : Bool) = (true)))) (by kernel_rfl) ⟨⟨⟨⟨⟨⟨⟨True.intro, d1⟩, d1⟩, d1⟩, d1⟩, d1⟩, d1⟩, rfl⟩

set_option maxRecDepth 100000 in
theorem g_B1_2 (f g : Int) (i : Int) (p : Option Addr) (l q : Nat) (n1 n2 : ND) (h1 : 127 < f) : Holds (endO Tryz.prog Tryz.f4 (ev1 (tailC 5 bd) (crt f g (.slice p l q) [n1, n2] i) [false, false, false, true, false, false, false, true])) := by
  have d1 : ((decide (f < 1) : Bool) = (false)) := by exact decide_eq_false (by (try simp only [wF2, wF1, IntKind.wrap_i64, List.length_cons, List.length_nil]); (try simp); omega)
  have d2 : ((decide (f > 127) : Bool) = (true)) := by exact decide_eq_true (by (try simp only [wF2, wF1, IntKind.wrap_i64, List.length_cons, List.length_nil]); (try simp); omega)
  exact Holds.of (p := (((((((((True ∧
 ((decide (f < 1) : Bool) = (false))) ∧
 ((decide (f < 1) : Bool) = (false))) ∧
 ((decide (f < 1) : Bool) = (false))) ∧
 ((decide (f > 127) : Bool) = (true))) ∧
 ((decide (f < 1) : Bool) = (false))) ∧
 ((decide (f < 1) : Bool) = (false))) ∧
 ((decide (f < 1) : Bool) = (false))) ∧
 ((decide (f > 127) : Bool) = (true))) ∧
 ((true : Bool) = (true)))) (by kernel_rfl) ⟨⟨⟨⟨⟨⟨⟨⟨⟨True.intro, d1⟩, d1⟩, d1⟩, d2⟩, d1⟩, d1⟩, d1⟩, d2⟩, rfl⟩

set_option maxRecDepth 100000 in
theorem g_X6_3 (f g : Int) (i : Int) (p : Option Addr) (l q : Nat) (n1 n2 n3 : ND) (hl : ¬ i < l) : Holds (fitOA (crt f g (.slice p l q) [n1, n2, n3] i) (some 0) (ev1 n6 (crt f g (.slice p l q) [n1, n2, n3] i) [false])) := by
  have d1 : ((decide (i < (↑l : Int)) : Bool) = (false)) := by exact decide_eq_false (by (try simp only [wF2, wF1, IntKind.wrap_i64, List.length_cons, List.length_nil]); (try simp); omega)
  exact Holds.of (p := ((((((((((((((((((((((((((True ∧
 ((decide (i < (↑l : Int)) : Bool) = (false))) ∧
 ((Value.slice p l q : _) = (Value.slice p l q))) ∧
 (ident (f))) ∧
 (ident (g))) ∧
 (ident (i))) ∧
 (ident (n1.i0))) ∧
 (ident (n1.i1))) ∧
 (ident (n1.i2))) ∧
 (ident (n1.i3))) ∧
 (ident (n1.x))) ∧
 ((n1.c : Bool) = (n1.c))) ∧
 (ident (n1.pl))) ∧
 (ident (n2.i0))) ∧
 (ident (n2.i1))) ∧
 (ident (n2.i2))) ∧
 (ident (n2.i3))) ∧
 (ident (n2.x))) ∧
 ((n2.c : Bool) = (n2.c))) ∧
 (ident (n2.pl))) ∧
 (ident (n3.i0))) ∧
 (ident (n3.i1))) ∧
 (ident (n3.i2))) ∧
 (ident (n3.i3))) ∧
 (ident (n3.x))) ∧
 ((n3.c : Bool) = (n3.c))) ∧
 (ident (n3.pl)))) (by kernel_rfl) ⟨⟨⟨⟨⟨⟨⟨⟨⟨⟨⟨⟨⟨⟨⟨⟨⟨⟨⟨⟨⟨⟨⟨⟨⟨⟨True.intro, d1⟩, rfl⟩, rfl⟩, rfl⟩, rfl⟩, rfl⟩, rfl⟩, rfl⟩, rfl⟩, rfl⟩, rfl⟩, rfl⟩, rfl⟩, rfl⟩, rfl⟩, rfl⟩, rfl⟩, rfl⟩, rfl⟩, rfl⟩, rfl⟩, rfl⟩, rfl⟩, rfl⟩, rfl⟩, rfl⟩

set_option maxRecDepth 100000 in
theorem g_N7_3 (f g : Int) (i : Int) (p : Option Addr) (l q : Nat) (n1 n2 n3 : ND) (hi : 0 ≤ i) (hi2 : i < 10) : Holds (fitOA (crt f g (.slice p l q) [n1, n2, n3] (i + 1)) none (ev1 n7 (crt f g (.slice p l q) [n1, n2, n3] i) [])) := by
  have d1 : ((i + 1 : Int) = (IntKind.i64.wrap (i + 1))) := by (try simp only [IntKind.wrap_i64]); omega
  exact Holds.of (p := (((((((((((((((((((((((((True ∧
 ((Value.slice p l q : _) = (Value.slice p l q))) ∧
 (ident (f))) ∧
 (ident (g))) ∧
 ((i + 1 : Int) = (IntKind.i64.wrap (i + 1)))) ∧
 (ident (n1.i0))) ∧
 (ident (n1.i1))) ∧
 (ident (n1.i2))) ∧
 (ident (n1.i3))) ∧
 (ident (n1.x))) ∧
 ((n1.c : Bool) = (n1.c))) ∧
 (ident (n1.pl))) ∧
 (ident (n2.i0))) ∧
 (ident (n2.i1))) ∧
 (ident (n2.i2))) ∧
 (ident (n2.i3))) ∧
 (ident (n2.x))) ∧
 ((n2.c : Bool) = (n2.c))) ∧
 (ident (n2.pl))) ∧
 (ident (n3.i0))) ∧
 (ident (n3.i1))) ∧
 (ident (n3.i2))) ∧
 (ident (n3.i3))) ∧
 (ident (n3.x))) ∧
 ((n3.c : Bool) = (n3.c))) ∧
 (ident (n3.pl)))) (by kernel_rfl) ⟨⟨⟨⟨⟨⟨⟨⟨⟨⟨⟨⟨⟨⟨⟨⟨⟨⟨⟨⟨⟨⟨⟨⟨⟨True.intro, rfl⟩, rfl⟩, rfl⟩, d1⟩, rfl⟩, rfl⟩, rfl⟩, rfl⟩, rfl⟩, rfl⟩, rfl⟩, rfl⟩, rfl⟩, rfl⟩, rfl⟩, rfl⟩, rfl⟩, rfl⟩, rfl⟩, rfl⟩, rfl⟩, rfl⟩, rfl⟩, rfl⟩, rfl⟩

set_option maxRecDepth 100000 in
theorem g_C_3 (f g : Int) (i : Int) (p : Option Addr) (l q : Nat) (n1 n2 n3 : ND) (h1 : 1 ≤ f) (h2 : f ≤ 127) : Holds (fitOA (pre f g [n1, n2, n3]) none (evN qC (crt f g (.slice p l q) [n1, n2, n3] i) [false, false, false, false, false, false, false, false, false])) := by
  have d1 : ((decide (f < 1) : Bool) = (false)) := by exact decide_eq_false (by (try simp only [wF2, wF1, IntKind.wrap_i64, List.length_cons, List.length_nil]); (try simp); omega)
  have d2 : ((decide (f > 127) : Bool) = (false)) := by exact decide_eq_false (by (try simp only [wF2, wF1, IntKind.wrap_i64, List.length_cons, List.length_nil]); (try simp); omega)
  have d3 : ((decide (f ≤ 0) : Bool) = (false)) := by exact decide_eq_false (by (try simp only [wF2, wF1, IntKind.wrap_i64, List.length_cons, List.length_nil]); (try simp); omega)
  have d4 : (((bs0 f g).kp : Bool) = (false)) := by first | assumption | rfl
  have d5 : ((SR.new.o : Bool) = (false)) := by first | assumption | rfl
  have d6 : ((SR.new.f : Bool) = (false)) := by first | assumption | rfl
  exact Holds.of (p := (((((((((((((((((((((((((((((((((((((((((((((((((((((True ∧
 ((decide (f < 1) : Bool) = (false))) ∧
 ((decide (f < 1) : Bool) = (false))) ∧
 ((decide (f < 1) : Bool) = (false))) ∧
 ((decide (f > 127) : Bool) = (false))) ∧
 ((decide (f ≤ 0) : Bool) = (false))) ∧
 ((decide (f < 1) : Bool) = (false))) ∧
 ((decide (f < 1) : Bool) = (false))) ∧
 ((decide (f < 1) : Bool) = (false))) ∧
 ((decide (f > 127) : Bool) = (false))) ∧
 (ident (f))) ∧
 (ident (g))) ∧
 (ident (0))) ∧
 (ident (mm true (mm false 0 0) 1099511627776))) ∧
 (ident (0))) ∧
 (ident (mm true (mm false 0 0) 1099511627776))) ∧
 (ident (f))) ∧
 (((bs0 f g).kp : Bool) = (false))) ∧
 (ident (0))) ∧
 (ident (0))) ∧
 (ident (0))) ∧
 (ident (0))) ∧
 (ident (0))) ∧
 (ident (32))) ∧
 ((SR.new.o : Bool) = (false))) ∧
 ((SR.new.f : Bool) = (false))) ∧
 (ident (n1.i0))) ∧
 (ident (n1.i1))) ∧
 (ident (n1.i2))) ∧
 (ident (n1.i3))) ∧
 (ident (n1.x))) ∧
 ((n1.c : Bool) = (n1.c))) ∧
 (ident (n1.pl))) ∧
 (ident (n2.i0))) ∧
 (ident (n2.i1))) ∧
 (ident (n2.i2))) ∧
 (ident (n2.i3))) ∧
 (ident (n2.x))) ∧
 ((n2.c : Bool) = (n2.c))) ∧
 (ident (n2.pl))) ∧
 (ident (n3.i0))) ∧
 (ident (n3.i1))) ∧
 (ident (n3.i2))) ∧
 (ident (n3.i3))) ∧
 (ident (n3.x))) ∧
 ((n3.c : Bool) = (n3.c))) ∧
 (ident (n3.pl))) ∧
 (ident (wrapF IntKind.u8 0))) ∧
 (ident (wrapF IntKind.u8 (Int.ofNat (Nat.div 0 (Nat.pow 2 (min 8 IntKind.u32.bits))))))) ∧
 (ident (wrapF IntKind.u8 (Int.ofNat (Nat.div 0 (Nat.pow 2 (min 16 IntKind.u32.bits))))))) ∧
 (ident (wrapF IntKind.u8 (Int.ofNat (Nat.div 0 (Nat.pow 2 (min 24 IntKind.u32.bits))))))) ∧
 (ident (128))) ∧
 (ident (wrapF IntKind.u8 0))) ∧
 (ident (wrapF IntKind.u8 0)))) (by kernel_rfl) ⟨⟨⟨⟨⟨⟨⟨⟨⟨⟨⟨⟨⟨⟨⟨⟨⟨⟨⟨⟨⟨⟨⟨⟨⟨⟨⟨⟨⟨⟨⟨⟨⟨⟨⟨⟨⟨⟨⟨⟨⟨⟨⟨⟨⟨⟨⟨⟨⟨⟨⟨⟨⟨True.intro, d1⟩, d1⟩, d1⟩, d2⟩, d3⟩, d1⟩, d1⟩, d1⟩, d2⟩, rfl⟩, rfl⟩, rfl⟩, rfl⟩, rfl⟩, rfl⟩, rfl⟩, d4⟩, rfl⟩, rfl⟩, rfl⟩, rfl⟩, rfl⟩, rfl⟩, d5⟩, d6⟩, rfl⟩, rfl⟩, rfl⟩, rfl⟩, rfl⟩, rfl⟩, rfl⟩, rfl⟩, rfl⟩, rfl⟩, rfl⟩, rfl⟩, rfl⟩, rfl⟩, rfl⟩, rfl⟩, rfl⟩, rfl⟩, rfl⟩, rfl⟩, rfl⟩, rfl⟩, rfl⟩, rfl⟩, rfl⟩, rfl⟩, rfl⟩, rfl⟩

set_option maxRecDepth 100000 in
theorem g_G_3 (f g : Int) (n1 n2 n3 : ND)  : Holds (fitOA (head (bs0 f g) (SR.ask SR.new) SR.new [n1, n2, n3] []) none (ev1 q16 (pre f g [n1, n2, n3]) [])) := by
  exact Holds.of (p := (((((((((((((((((((((((((((((((((((((((((((((True ∧
 (ident (f))) ∧
 (ident (g))) ∧
 (ident (0))) ∧
 (ident (0))) ∧
 (ident ((bs0 f g).ak))) ∧
 (ident ((bs0 f g).h))) ∧
 (ident ((bs0 f g).now))) ∧
 (ident ((bs0 f g).nx))) ∧
 (((bs0 f g).kp : Bool) = ((bs0 f g).kp))) ∧
 (ident (SR.new.i0))) ∧
 (ident (SR.new.i1))) ∧
 (ident (SR.new.i2))) ∧
 (ident (SR.new.i3))) ∧
 (ident (SR.new.p))) ∧
 (ident (SR.new.b))) ∧
 ((SR.new.o : Bool) = (SR.new.o))) ∧
 ((SR.new.f : Bool) = (SR.new.f))) ∧
 (ident (n1.i0))) ∧
 (ident (n1.i1))) ∧
 (ident (n1.i2))) ∧
 (ident (n1.i3))) ∧
 (ident (n1.x))) ∧
 ((n1.c : Bool) = (n1.c))) ∧
 (ident (n1.pl))) ∧
 (ident (n2.i0))) ∧
 (ident (n2.i1))) ∧
 (ident (n2.i2))) ∧
 (ident (n2.i3))) ∧
 (ident (n2.x))) ∧
 ((n2.c : Bool) = (n2.c))) ∧
 (ident (n2.pl))) ∧
 (ident (n3.i0))) ∧
 (ident (n3.i1))) ∧
 (ident (n3.i2))) ∧
 (ident (n3.i3))) ∧
 (ident (n3.x))) ∧
 ((n3.c : Bool) = (n3.c))) ∧
 (ident (n3.pl))) ∧
 (ident (IntKind.u8.wrap (selI SR.new.i0 SR.new.i1 SR.new.i2 SR.new.i3 SR.new.p)))) ∧
 (ident (byK (selI SR.new.i0 SR.new.i1 SR.new.i2 SR.new.i3 SR.new.p) 8))) ∧
 (ident (byK (selI SR.new.i0 SR.new.i1 SR.new.i2 SR.new.i3 SR.new.p) 16))) ∧
 (ident (byK (selI SR.new.i0 SR.new.i1 SR.new.i2 SR.new.i3 SR.new.p) 24))) ∧
 (ident (bitsF SR.new.b))) ∧
 (ident (SR.new.p))) ∧
 (ident (nextF SR.new.p SR.new.b)))) (by kernel_rfl) ⟨⟨⟨⟨⟨⟨⟨⟨⟨⟨⟨⟨⟨⟨⟨⟨⟨⟨⟨⟨⟨⟨⟨⟨⟨⟨⟨⟨⟨⟨⟨⟨⟨⟨⟨⟨⟨⟨⟨⟨⟨⟨⟨⟨⟨True.intro, rfl⟩, rfl⟩, rfl⟩, rfl⟩, rfl⟩, rfl⟩, rfl⟩, rfl⟩, rfl⟩, rfl⟩, rfl⟩, rfl⟩, rfl⟩, rfl⟩, rfl⟩, rfl⟩, rfl⟩, rfl⟩, rfl⟩, rfl⟩, rfl⟩, rfl⟩, rfl⟩, rfl⟩, rfl⟩, rfl⟩, rfl⟩, rfl⟩, rfl⟩, rfl⟩, rfl⟩, rfl⟩, rfl⟩, rfl⟩, rfl⟩, rfl⟩, rfl⟩, rfl⟩, rfl⟩, rfl⟩, rfl⟩, rfl⟩, rfl⟩, rfl⟩, rfl⟩

set_option maxRecDepth 100000 in
theorem g_B0_3 (f g : Int) (i : Int) (p : Option Addr) (l q : Nat) (n1 n2 n3 : ND) (h1 : f < 1) : Holds (endO Tryz.prog Tryz.f4 (ev1 (tailC 5 bd) (crt f g (.slice p l q) [n1, n2, n3] i) [true, true, true, true, true, true])) := by
  have d1 : ((decide (f < 1) : Bool) = (true)) := by exact decide_eq_true (by (try simp only [wF2, wF1, IntKind.wrap_i64, List.length_cons, List.length_nil]); (try simp); omega)
  exact Holds.of (p := (((((((True ∧
 ((decide (f < 1) : Bool) = (true))) ∧
 ((decide (f < 1) : Bool) = (true))) ∧
 ((decide (f < 1) : Bool) = (true))) ∧
 ((decide (f < 1) : Bool) = (true))) ∧
 ((decide (f < 1) : Bool) = (true))) ∧
 ((decide (f < 1) : Bool) = (true))) ∧
 ((true : Bool) = (true)))) (by kernel_rfl) ⟨⟨⟨⟨⟨⟨⟨True.intro, d1⟩, d1⟩, d1⟩, d1⟩, d1⟩, d1⟩, rfl⟩

set_option maxRecDepth 100000 in
theorem g_B1_3 (f g : Int) (i : Int) (p : Option Addr) (l q : Nat) (n1 n2 n3 : ND) (h1 : 127 < f) : Holds (endO Tryz.prog Tryz.f4 (ev1 (tailC 5 bd) (crt f g (.slice p l q) [n1, n2, n3] i) [false, false, false, true, false, false, false, true])) := by
  have d1 : ((decide (f < 1) : Bool) = (false)) := by exact decide_eq_false (by (try simp only [wF2, wF1, IntKind.wrap_i64, List.length_cons, List.length_nil]); (try simp); omega)
  have d2 : ((decide (f > 127) : Bool) = (true)) := by exact decide_eq_true (by (try simp only [wF2, wF1, IntKind.wrap_i64, List.length_cons, List.length_nil]); (try simp); omega)
  exact Holds.of (p := (((((((((True ∧
 ((decide (f < 1) : Bool) = (false))) ∧
 ((decide (f < 1) : Bool) = (false))) ∧
 ((decide (f < 1) : Bool) = (false))) ∧
 ((decide (f > 127) : Bool) = (true))) ∧
 ((decide (f < 1) : Bool) = (false))) ∧
 ((decide (f < 1) : Bool) = (false))) ∧
 ((decide (f < 1) : Bool) = (false))) ∧
 ((decide (f > 127) : Bool) = (true))) ∧
 ((true : Bool) = (true)))) (by kernel_rfl) ⟨⟨⟨⟨⟨⟨⟨⟨⟨True.intro, d1⟩, d1⟩, d1⟩, d2⟩, d1⟩, d1⟩, d1⟩, d2⟩, rfl⟩

end Go.Proofs.YtpdgklkcjegkfaaGreat
