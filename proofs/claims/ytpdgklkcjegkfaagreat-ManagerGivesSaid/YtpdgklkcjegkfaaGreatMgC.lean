/-
  ManagerGives: what the contracts' runs ask.
-/
import Derived.Test.YtpdgklkcjegkfaaGreatMgB
import Derived.Lib.SmallJoins
set_option linter.unusedSimpArgs false
set_option linter.unusedVariables false
namespace Go.Proofs.YtpdgklkcjegkfaaGreat
open Go Go.Sx

theorem w64 {x : Int} (h : -9223372036854775808 ≤ x) (h2 : x ≤ 9223372036854775807) : IntKind.i64.wrap x = x := by rw [IntKind.wrap_i64]; omega

noncomputable def st_Ask0f (i0 i1 i2 i3 : Int) : Option Prop := fitOne (askV i0 i1 i2 i3 0 32) (srch i0 i1 i2 i3 (.sint .i64 0) (.sint .i64 32)) (rAsk i0 i1 i2 i3 32 [true] 0)
set_option maxRecDepth 100000 in
theorem g_Ask0f (i0 i1 i2 i3 : Int)  : holdsO (st_Ask0f i0 i1 i2 i3) := by
  have e : holdsO (st_Ask0f i0 i1 i2 i3) = ((((((((((((((((True ∧
  ((32 : Int) = (32))) ∧
  ((32 == 32 : Bool) = (true))) ∧
  ((i0 : Int) = (i0))) ∧
  ((i0 : Int) = (i0))) ∧
  ((i1 : Int) = (i1))) ∧
  ((i2 : Int) = (i2))) ∧
  ((i3 : Int) = (i3))) ∧
  ((0 : Int) = (0))) ∧
  ((32 : Int) = (32))) ∧
  ((IntKind.u8.wrap i0 : Int) = (IntKind.u8.wrap i0))) ∧
  ((IntKind.u8.wrap (i0.fdiv (2 ^ min (Int.toNat 8) IntKind.u32.bits)) : Int) = (IntKind.u8.wrap (i0.fdiv (2 ^ min (Int.toNat 8) IntKind.u32.bits))))) ∧
  ((IntKind.u8.wrap (i0.fdiv (2 ^ min (Int.toNat 16) IntKind.u32.bits)) : Int) = (IntKind.u8.wrap (i0.fdiv (2 ^ min (Int.toNat 16) IntKind.u32.bits))))) ∧
  ((IntKind.u8.wrap (i0.fdiv (2 ^ min (Int.toNat 24) IntKind.u32.bits)) : Int) = (IntKind.u8.wrap (i0.fdiv (2 ^ min (Int.toNat 24) IntKind.u32.bits))))) ∧
  ((128 : Int) = (128))) ∧
  ((wrapF IntKind.u8 0 : Int) = (wrapF IntKind.u8 0))) ∧
  ((wrapF IntKind.u8 0 : Int) = (wrapF IntKind.u8 0))) := by kernel_rfl
  have d1 : ((32 == 32 : Bool) = (true)) := by first | assumption | (rw [w64 (by omega) (by omega)]; done) | (simp [bitsF, nextF, *]; done) | omega | (rw [w64 (by omega) (by omega)]; first | (simp; done) | omega | (simp; omega)) | (simp [bitsF, nextF, *]; rfl) | (simp [bitsF, nextF, *]; omega)
  rw [e]
  exact ⟨⟨⟨⟨⟨⟨⟨⟨⟨⟨⟨⟨⟨⟨⟨⟨True.intro, rfl⟩, d1⟩, rfl⟩, rfl⟩, rfl⟩, rfl⟩, rfl⟩, rfl⟩, rfl⟩, rfl⟩, rfl⟩, rfl⟩, rfl⟩, rfl⟩, rfl⟩, rfl⟩

noncomputable def st_Ask0l (i0 i1 i2 i3 : Int) : Option Prop := fitOne (askV i0 i1 i2 i3 0 (-1)) (srch i0 i1 i2 i3 (.sint .i64 0) (.sint .i64 (-1))) (rAsk i0 i1 i2 i3 (-1) [false, true] 0)
set_option maxRecDepth 100000 in
theorem g_Ask0l (i0 i1 i2 i3 : Int)  : holdsO (st_Ask0l i0 i1 i2 i3) := by
  have e : holdsO (st_Ask0l i0 i1 i2 i3) = (((((((((((((((((True ∧
  ((-1 : Int) = (-1))) ∧
  ((-1 == 32 : Bool) = (false))) ∧
  ((-1 == -1 : Bool) = (true))) ∧
  ((i0 : Int) = (i0))) ∧
  ((i0 : Int) = (i0))) ∧
  ((i1 : Int) = (i1))) ∧
  ((i2 : Int) = (i2))) ∧
  ((i3 : Int) = (i3))) ∧
  ((0 : Int) = (0))) ∧
  ((-1 : Int) = (-1))) ∧
  ((IntKind.u8.wrap i0 : Int) = (IntKind.u8.wrap i0))) ∧
  ((IntKind.u8.wrap (i0.fdiv (2 ^ min (Int.toNat 8) IntKind.u32.bits)) : Int) = (IntKind.u8.wrap (i0.fdiv (2 ^ min (Int.toNat 8) IntKind.u32.bits))))) ∧
  ((IntKind.u8.wrap (i0.fdiv (2 ^ min (Int.toNat 16) IntKind.u32.bits)) : Int) = (IntKind.u8.wrap (i0.fdiv (2 ^ min (Int.toNat 16) IntKind.u32.bits))))) ∧
  ((IntKind.u8.wrap (i0.fdiv (2 ^ min (Int.toNat 24) IntKind.u32.bits)) : Int) = (IntKind.u8.wrap (i0.fdiv (2 ^ min (Int.toNat 24) IntKind.u32.bits))))) ∧
  ((0 : Int) = (0))) ∧
  ((wrapF IntKind.u8 0 : Int) = (wrapF IntKind.u8 0))) ∧
  (((wrapF IntKind.u8 (wrapF IntKind.i64 (Int.add 0 1))).tmod 4 : Int) = ((wrapF IntKind.u8 (wrapF IntKind.i64 (Int.add 0 1))).tmod 4))) := by kernel_rfl
  have d1 : ((-1 == 32 : Bool) = (false)) := by first | assumption | (rw [w64 (by omega) (by omega)]; done) | (simp [bitsF, nextF, *]; done) | omega | (rw [w64 (by omega) (by omega)]; first | (simp; done) | omega | (simp; omega)) | (simp [bitsF, nextF, *]; rfl) | (simp [bitsF, nextF, *]; omega)
  have d2 : ((-1 == -1 : Bool) = (true)) := by first | assumption | (rw [w64 (by omega) (by omega)]; done) | (simp [bitsF, nextF, *]; done) | omega | (rw [w64 (by omega) (by omega)]; first | (simp; done) | omega | (simp; omega)) | (simp [bitsF, nextF, *]; rfl) | (simp [bitsF, nextF, *]; omega)
  rw [e]
  exact ⟨⟨⟨⟨⟨⟨⟨⟨⟨⟨⟨⟨⟨⟨⟨⟨⟨True.intro, rfl⟩, d1⟩, d2⟩, rfl⟩, rfl⟩, rfl⟩, rfl⟩, rfl⟩, rfl⟩, rfl⟩, rfl⟩, rfl⟩, rfl⟩, rfl⟩, rfl⟩, rfl⟩, rfl⟩

noncomputable def st_Ask0m (i0 i1 i2 i3 : Int) (b : Int) : Option Prop := fitOne (askV i0 i1 i2 i3 0 b) (srch i0 i1 i2 i3 (.sint .i64 0) (.sint .i64 b)) (rAsk i0 i1 i2 i3 b [false, false] 0)
set_option maxRecDepth 100000 in
theorem g_Ask0m (i0 i1 i2 i3 : Int) (b : Int) (h1 : b ≠ 32) (h2 : b ≠ -1) : holdsO (st_Ask0m i0 i1 i2 i3 b) := by
  have e : holdsO (st_Ask0m i0 i1 i2 i3 b) = (((((((((((((((((True ∧
  ((b : Int) = (b))) ∧
  ((b == 32 : Bool) = (false))) ∧
  ((b == -1 : Bool) = (false))) ∧
  ((i0 : Int) = (i0))) ∧
  ((i0 : Int) = (i0))) ∧
  ((i1 : Int) = (i1))) ∧
  ((i2 : Int) = (i2))) ∧
  ((i3 : Int) = (i3))) ∧
  ((0 : Int) = (0))) ∧
  ((b : Int) = (b))) ∧
  ((IntKind.u8.wrap i0 : Int) = (IntKind.u8.wrap i0))) ∧
  ((IntKind.u8.wrap (i0.fdiv (2 ^ min (Int.toNat 8) IntKind.u32.bits)) : Int) = (IntKind.u8.wrap (i0.fdiv (2 ^ min (Int.toNat 8) IntKind.u32.bits))))) ∧
  ((IntKind.u8.wrap (i0.fdiv (2 ^ min (Int.toNat 16) IntKind.u32.bits)) : Int) = (IntKind.u8.wrap (i0.fdiv (2 ^ min (Int.toNat 16) IntKind.u32.bits))))) ∧
  ((IntKind.u8.wrap (i0.fdiv (2 ^ min (Int.toNat 24) IntKind.u32.bits)) : Int) = (IntKind.u8.wrap (i0.fdiv (2 ^ min (Int.toNat 24) IntKind.u32.bits))))) ∧
  ((bitsF b : Int) = (IntKind.u8.wrap b))) ∧
  ((wrapF IntKind.u8 0 : Int) = (wrapF IntKind.u8 0))) ∧
  ((nextF 0 b : Int) = (wrapF IntKind.u8 0))) := by kernel_rfl
  have d1 : ((b == 32 : Bool) = (false)) := by first | assumption | (rw [w64 (by omega) (by omega)]; done) | (simp [bitsF, nextF, *]; done) | omega | (rw [w64 (by omega) (by omega)]; first | (simp; done) | omega | (simp; omega)) | (simp [bitsF, nextF, *]; rfl) | (simp [bitsF, nextF, *]; omega)
  have d2 : ((b == -1 : Bool) = (false)) := by first | assumption | (rw [w64 (by omega) (by omega)]; done) | (simp [bitsF, nextF, *]; done) | omega | (rw [w64 (by omega) (by omega)]; first | (simp; done) | omega | (simp; omega)) | (simp [bitsF, nextF, *]; rfl) | (simp [bitsF, nextF, *]; omega)
  have d3 : ((bitsF b : Int) = (IntKind.u8.wrap b)) := by first | assumption | (rw [w64 (by omega) (by omega)]; done) | (simp [bitsF, nextF, *]; done) | omega | (rw [w64 (by omega) (by omega)]; first | (simp; done) | omega | (simp; omega)) | (simp [bitsF, nextF, *]; rfl) | (simp [bitsF, nextF, *]; omega)
  have d4 : ((nextF 0 b : Int) = (wrapF IntKind.u8 0)) := by first | assumption | (rw [w64 (by omega) (by omega)]; done) | (simp [bitsF, nextF, *]; done) | omega | (rw [w64 (by omega) (by omega)]; first | (simp; done) | omega | (simp; omega)) | (simp [bitsF, nextF, *]; rfl) | (simp [bitsF, nextF, *]; omega)
  rw [e]
  exact ⟨⟨⟨⟨⟨⟨⟨⟨⟨⟨⟨⟨⟨⟨⟨⟨⟨True.intro, rfl⟩, d1⟩, d2⟩, rfl⟩, rfl⟩, rfl⟩, rfl⟩, rfl⟩, rfl⟩, rfl⟩, rfl⟩, rfl⟩, rfl⟩, rfl⟩, d3⟩, rfl⟩, d4⟩

noncomputable def st_Ask1f (i0 i1 i2 i3 : Int) : Option Prop := fitOne (askV i0 i1 i2 i3 1 32) (srch i0 i1 i2 i3 (.sint .i64 1) (.sint .i64 32)) (rAsk i0 i1 i2 i3 32 [true] 1)
set_option maxRecDepth 100000 in
theorem g_Ask1f (i0 i1 i2 i3 : Int)  : holdsO (st_Ask1f i0 i1 i2 i3) := by
  have e : holdsO (st_Ask1f i0 i1 i2 i3) = ((((((((((((((((True ∧
  ((32 : Int) = (32))) ∧
  ((32 == 32 : Bool) = (true))) ∧
  ((i1 : Int) = (i1))) ∧
  ((i0 : Int) = (i0))) ∧
  ((i1 : Int) = (i1))) ∧
  ((i2 : Int) = (i2))) ∧
  ((i3 : Int) = (i3))) ∧
  ((1 : Int) = (1))) ∧
  ((32 : Int) = (32))) ∧
  ((IntKind.u8.wrap i1 : Int) = (IntKind.u8.wrap i1))) ∧
  ((IntKind.u8.wrap (i1.fdiv (2 ^ min (Int.toNat 8) IntKind.u32.bits)) : Int) = (IntKind.u8.wrap (i1.fdiv (2 ^ min (Int.toNat 8) IntKind.u32.bits))))) ∧
  ((IntKind.u8.wrap (i1.fdiv (2 ^ min (Int.toNat 16) IntKind.u32.bits)) : Int) = (IntKind.u8.wrap (i1.fdiv (2 ^ min (Int.toNat 16) IntKind.u32.bits))))) ∧
  ((IntKind.u8.wrap (i1.fdiv (2 ^ min (Int.toNat 24) IntKind.u32.bits)) : Int) = (IntKind.u8.wrap (i1.fdiv (2 ^ min (Int.toNat 24) IntKind.u32.bits))))) ∧
  ((128 : Int) = (128))) ∧
  ((wrapF IntKind.u8 1 : Int) = (wrapF IntKind.u8 1))) ∧
  ((wrapF IntKind.u8 1 : Int) = (wrapF IntKind.u8 1))) := by kernel_rfl
  have d1 : ((32 == 32 : Bool) = (true)) := by first | assumption | (rw [w64 (by omega) (by omega)]; done) | (simp [bitsF, nextF, *]; done) | omega | (rw [w64 (by omega) (by omega)]; first | (simp; done) | omega | (simp; omega)) | (simp [bitsF, nextF, *]; rfl) | (simp [bitsF, nextF, *]; omega)
  rw [e]
  exact ⟨⟨⟨⟨⟨⟨⟨⟨⟨⟨⟨⟨⟨⟨⟨⟨True.intro, rfl⟩, d1⟩, rfl⟩, rfl⟩, rfl⟩, rfl⟩, rfl⟩, rfl⟩, rfl⟩, rfl⟩, rfl⟩, rfl⟩, rfl⟩, rfl⟩, rfl⟩, rfl⟩

noncomputable def st_Ask1l (i0 i1 i2 i3 : Int) : Option Prop := fitOne (askV i0 i1 i2 i3 1 (-1)) (srch i0 i1 i2 i3 (.sint .i64 1) (.sint .i64 (-1))) (rAsk i0 i1 i2 i3 (-1) [false, true] 1)
set_option maxRecDepth 100000 in
theorem g_Ask1l (i0 i1 i2 i3 : Int)  : holdsO (st_Ask1l i0 i1 i2 i3) := by
  have e : holdsO (st_Ask1l i0 i1 i2 i3) = (((((((((((((((((True ∧
  ((-1 : Int) = (-1))) ∧
  ((-1 == 32 : Bool) = (false))) ∧
  ((-1 == -1 : Bool) = (true))) ∧
  ((i1 : Int) = (i1))) ∧
  ((i0 : Int) = (i0))) ∧
  ((i1 : Int) = (i1))) ∧
  ((i2 : Int) = (i2))) ∧
  ((i3 : Int) = (i3))) ∧
  ((1 : Int) = (1))) ∧
  ((-1 : Int) = (-1))) ∧
  ((IntKind.u8.wrap i1 : Int) = (IntKind.u8.wrap i1))) ∧
  ((IntKind.u8.wrap (i1.fdiv (2 ^ min (Int.toNat 8) IntKind.u32.bits)) : Int) = (IntKind.u8.wrap (i1.fdiv (2 ^ min (Int.toNat 8) IntKind.u32.bits))))) ∧
  ((IntKind.u8.wrap (i1.fdiv (2 ^ min (Int.toNat 16) IntKind.u32.bits)) : Int) = (IntKind.u8.wrap (i1.fdiv (2 ^ min (Int.toNat 16) IntKind.u32.bits))))) ∧
  ((IntKind.u8.wrap (i1.fdiv (2 ^ min (Int.toNat 24) IntKind.u32.bits)) : Int) = (IntKind.u8.wrap (i1.fdiv (2 ^ min (Int.toNat 24) IntKind.u32.bits))))) ∧
  ((0 : Int) = (0))) ∧
  ((wrapF IntKind.u8 1 : Int) = (wrapF IntKind.u8 1))) ∧
  (((wrapF IntKind.u8 (wrapF IntKind.i64 (Int.add 1 1))).tmod 4 : Int) = ((wrapF IntKind.u8 (wrapF IntKind.i64 (Int.add 1 1))).tmod 4))) := by kernel_rfl
  have d1 : ((-1 == 32 : Bool) = (false)) := by first | assumption | (rw [w64 (by omega) (by omega)]; done) | (simp [bitsF, nextF, *]; done) | omega | (rw [w64 (by omega) (by omega)]; first | (simp; done) | omega | (simp; omega)) | (simp [bitsF, nextF, *]; rfl) | (simp [bitsF, nextF, *]; omega)
  have d2 : ((-1 == -1 : Bool) = (true)) := by first | assumption | (rw [w64 (by omega) (by omega)]; done) | (simp [bitsF, nextF, *]; done) | omega | (rw [w64 (by omega) (by omega)]; first | (simp; done) | omega | (simp; omega)) | (simp [bitsF, nextF, *]; rfl) | (simp [bitsF, nextF, *]; omega)
  rw [e]
  exact ⟨⟨⟨⟨⟨⟨⟨⟨⟨⟨⟨⟨⟨⟨⟨⟨⟨True.intro, rfl⟩, d1⟩, d2⟩, rfl⟩, rfl⟩, rfl⟩, rfl⟩, rfl⟩, rfl⟩, rfl⟩, rfl⟩, rfl⟩, rfl⟩, rfl⟩, rfl⟩, rfl⟩, rfl⟩

noncomputable def st_Ask1m (i0 i1 i2 i3 : Int) (b : Int) : Option Prop := fitOne (askV i0 i1 i2 i3 1 b) (srch i0 i1 i2 i3 (.sint .i64 1) (.sint .i64 b)) (rAsk i0 i1 i2 i3 b [false, false] 1)
set_option maxRecDepth 100000 in
theorem g_Ask1m (i0 i1 i2 i3 : Int) (b : Int) (h1 : b ≠ 32) (h2 : b ≠ -1) : holdsO (st_Ask1m i0 i1 i2 i3 b) := by
  have e : holdsO (st_Ask1m i0 i1 i2 i3 b) = (((((((((((((((((True ∧
  ((b : Int) = (b))) ∧
  ((b == 32 : Bool) = (false))) ∧
  ((b == -1 : Bool) = (false))) ∧
  ((i1 : Int) = (i1))) ∧
  ((i0 : Int) = (i0))) ∧
  ((i1 : Int) = (i1))) ∧
  ((i2 : Int) = (i2))) ∧
  ((i3 : Int) = (i3))) ∧
  ((1 : Int) = (1))) ∧
  ((b : Int) = (b))) ∧
  ((IntKind.u8.wrap i1 : Int) = (IntKind.u8.wrap i1))) ∧
  ((IntKind.u8.wrap (i1.fdiv (2 ^ min (Int.toNat 8) IntKind.u32.bits)) : Int) = (IntKind.u8.wrap (i1.fdiv (2 ^ min (Int.toNat 8) IntKind.u32.bits))))) ∧
  ((IntKind.u8.wrap (i1.fdiv (2 ^ min (Int.toNat 16) IntKind.u32.bits)) : Int) = (IntKind.u8.wrap (i1.fdiv (2 ^ min (Int.toNat 16) IntKind.u32.bits))))) ∧
  ((IntKind.u8.wrap (i1.fdiv (2 ^ min (Int.toNat 24) IntKind.u32.bits)) : Int) = (IntKind.u8.wrap (i1.fdiv (2 ^ min (Int.toNat 24) IntKind.u32.bits))))) ∧
  ((bitsF b : Int) = (IntKind.u8.wrap b))) ∧
  ((wrapF IntKind.u8 1 : Int) = (wrapF IntKind.u8 1))) ∧
  ((nextF 1 b : Int) = (wrapF IntKind.u8 1))) := by kernel_rfl
  have d1 : ((b == 32 : Bool) = (false)) := by first | assumption | (rw [w64 (by omega) (by omega)]; done) | (simp [bitsF, nextF, *]; done) | omega | (rw [w64 (by omega) (by omega)]; first | (simp; done) | omega | (simp; omega)) | (simp [bitsF, nextF, *]; rfl) | (simp [bitsF, nextF, *]; omega)
  have d2 : ((b == -1 : Bool) = (false)) := by first | assumption | (rw [w64 (by omega) (by omega)]; done) | (simp [bitsF, nextF, *]; done) | omega | (rw [w64 (by omega) (by omega)]; first | (simp; done) | omega | (simp; omega)) | (simp [bitsF, nextF, *]; rfl) | (simp [bitsF, nextF, *]; omega)
  have d3 : ((bitsF b : Int) = (IntKind.u8.wrap b)) := by first | assumption | (rw [w64 (by omega) (by omega)]; done) | (simp [bitsF, nextF, *]; done) | omega | (rw [w64 (by omega) (by omega)]; first | (simp; done) | omega | (simp; omega)) | (simp [bitsF, nextF, *]; rfl) | (simp [bitsF, nextF, *]; omega)
  have d4 : ((nextF 1 b : Int) = (wrapF IntKind.u8 1)) := by first | assumption | (rw [w64 (by omega) (by omega)]; done) | (simp [bitsF, nextF, *]; done) | omega | (rw [w64 (by omega) (by omega)]; first | (simp; done) | omega | (simp; omega)) | (simp [bitsF, nextF, *]; rfl) | (simp [bitsF, nextF, *]; omega)
  rw [e]
  exact ⟨⟨⟨⟨⟨⟨⟨⟨⟨⟨⟨⟨⟨⟨⟨⟨⟨True.intro, rfl⟩, d1⟩, d2⟩, rfl⟩, rfl⟩, rfl⟩, rfl⟩, rfl⟩, rfl⟩, rfl⟩, rfl⟩, rfl⟩, rfl⟩, rfl⟩, d3⟩, rfl⟩, d4⟩

noncomputable def st_Ask2f (i0 i1 i2 i3 : Int) : Option Prop := fitOne (askV i0 i1 i2 i3 2 32) (srch i0 i1 i2 i3 (.sint .i64 2) (.sint .i64 32)) (rAsk i0 i1 i2 i3 32 [true] 2)
set_option maxRecDepth 100000 in
theorem g_Ask2f (i0 i1 i2 i3 : Int)  : holdsO (st_Ask2f i0 i1 i2 i3) := by
  have e : holdsO (st_Ask2f i0 i1 i2 i3) = ((((((((((((((((True ∧
  ((32 : Int) = (32))) ∧
  ((32 == 32 : Bool) = (true))) ∧
  ((i2 : Int) = (i2))) ∧
  ((i0 : Int) = (i0))) ∧
  ((i1 : Int) = (i1))) ∧
  ((i2 : Int) = (i2))) ∧
  ((i3 : Int) = (i3))) ∧
  ((2 : Int) = (2))) ∧
  ((32 : Int) = (32))) ∧
  ((IntKind.u8.wrap i2 : Int) = (IntKind.u8.wrap i2))) ∧
  ((IntKind.u8.wrap (i2.fdiv (2 ^ min (Int.toNat 8) IntKind.u32.bits)) : Int) = (IntKind.u8.wrap (i2.fdiv (2 ^ min (Int.toNat 8) IntKind.u32.bits))))) ∧
  ((IntKind.u8.wrap (i2.fdiv (2 ^ min (Int.toNat 16) IntKind.u32.bits)) : Int) = (IntKind.u8.wrap (i2.fdiv (2 ^ min (Int.toNat 16) IntKind.u32.bits))))) ∧
  ((IntKind.u8.wrap (i2.fdiv (2 ^ min (Int.toNat 24) IntKind.u32.bits)) : Int) = (IntKind.u8.wrap (i2.fdiv (2 ^ min (Int.toNat 24) IntKind.u32.bits))))) ∧
  ((128 : Int) = (128))) ∧
  ((wrapF IntKind.u8 2 : Int) = (wrapF IntKind.u8 2))) ∧
  ((wrapF IntKind.u8 2 : Int) = (wrapF IntKind.u8 2))) := by kernel_rfl
  have d1 : ((32 == 32 : Bool) = (true)) := by first | assumption | (rw [w64 (by omega) (by omega)]; done) | (simp [bitsF, nextF, *]; done) | omega | (rw [w64 (by omega) (by omega)]; first | (simp; done) | omega | (simp; omega)) | (simp [bitsF, nextF, *]; rfl) | (simp [bitsF, nextF, *]; omega)
  rw [e]
  exact ⟨⟨⟨⟨⟨⟨⟨⟨⟨⟨⟨⟨⟨⟨⟨⟨True.intro, rfl⟩, d1⟩, rfl⟩, rfl⟩, rfl⟩, rfl⟩, rfl⟩, rfl⟩, rfl⟩, rfl⟩, rfl⟩, rfl⟩, rfl⟩, rfl⟩, rfl⟩, rfl⟩

noncomputable def st_Ask2l (i0 i1 i2 i3 : Int) : Option Prop := fitOne (askV i0 i1 i2 i3 2 (-1)) (srch i0 i1 i2 i3 (.sint .i64 2) (.sint .i64 (-1))) (rAsk i0 i1 i2 i3 (-1) [false, true] 2)
set_option maxRecDepth 100000 in
theorem g_Ask2l (i0 i1 i2 i3 : Int)  : holdsO (st_Ask2l i0 i1 i2 i3) := by
  have e : holdsO (st_Ask2l i0 i1 i2 i3) = (((((((((((((((((True ∧
  ((-1 : Int) = (-1))) ∧
  ((-1 == 32 : Bool) = (false))) ∧
  ((-1 == -1 : Bool) = (true))) ∧
  ((i2 : Int) = (i2))) ∧
  ((i0 : Int) = (i0))) ∧
  ((i1 : Int) = (i1))) ∧
  ((i2 : Int) = (i2))) ∧
  ((i3 : Int) = (i3))) ∧
  ((2 : Int) = (2))) ∧
  ((-1 : Int) = (-1))) ∧
  ((IntKind.u8.wrap i2 : Int) = (IntKind.u8.wrap i2))) ∧
  ((IntKind.u8.wrap (i2.fdiv (2 ^ min (Int.toNat 8) IntKind.u32.bits)) : Int) = (IntKind.u8.wrap (i2.fdiv (2 ^ min (Int.toNat 8) IntKind.u32.bits))))) ∧
  ((IntKind.u8.wrap (i2.fdiv (2 ^ min (Int.toNat 16) IntKind.u32.bits)) : Int) = (IntKind.u8.wrap (i2.fdiv (2 ^ min (Int.toNat 16) IntKind.u32.bits))))) ∧
  ((IntKind.u8.wrap (i2.fdiv (2 ^ min (Int.toNat 24) IntKind.u32.bits)) : Int) = (IntKind.u8.wrap (i2.fdiv (2 ^ min (Int.toNat 24) IntKind.u32.bits))))) ∧
  ((0 : Int) = (0))) ∧
  ((wrapF IntKind.u8 2 : Int) = (wrapF IntKind.u8 2))) ∧
  (((wrapF IntKind.u8 (wrapF IntKind.i64 (Int.add 2 1))).tmod 4 : Int) = ((wrapF IntKind.u8 (wrapF IntKind.i64 (Int.add 2 1))).tmod 4))) := by kernel_rfl
  have d1 : ((-1 == 32 : Bool) = (false)) := by first | assumption | (rw [w64 (by omega) (by omega)]; done) | (simp [bitsF, nextF, *]; done) | omega | (rw [w64 (by omega) (by omega)]; first | (simp; done) | omega | (simp; omega)) | (simp [bitsF, nextF, *]; rfl) | (simp [bitsF, nextF, *]; omega)
  have d2 : ((-1 == -1 : Bool) = (true)) := by first | assumption | (rw [w64 (by omega) (by omega)]; done) | (simp [bitsF, nextF, *]; done) | omega | (rw [w64 (by omega) (by omega)]; first | (simp; done) | omega | (simp; omega)) | (simp [bitsF, nextF, *]; rfl) | (simp [bitsF, nextF, *]; omega)
  rw [e]
  exact ⟨⟨⟨⟨⟨⟨⟨⟨⟨⟨⟨⟨⟨⟨⟨⟨⟨True.intro, rfl⟩, d1⟩, d2⟩, rfl⟩, rfl⟩, rfl⟩, rfl⟩, rfl⟩, rfl⟩, rfl⟩, rfl⟩, rfl⟩, rfl⟩, rfl⟩, rfl⟩, rfl⟩, rfl⟩

noncomputable def st_Ask2m (i0 i1 i2 i3 : Int) (b : Int) : Option Prop := fitOne (askV i0 i1 i2 i3 2 b) (srch i0 i1 i2 i3 (.sint .i64 2) (.sint .i64 b)) (rAsk i0 i1 i2 i3 b [false, false] 2)
set_option maxRecDepth 100000 in
theorem g_Ask2m (i0 i1 i2 i3 : Int) (b : Int) (h1 : b ≠ 32) (h2 : b ≠ -1) : holdsO (st_Ask2m i0 i1 i2 i3 b) := by
  have e : holdsO (st_Ask2m i0 i1 i2 i3 b) = (((((((((((((((((True ∧
  ((b : Int) = (b))) ∧
  ((b == 32 : Bool) = (false))) ∧
  ((b == -1 : Bool) = (false))) ∧
  ((i2 : Int) = (i2))) ∧
  ((i0 : Int) = (i0))) ∧
  ((i1 : Int) = (i1))) ∧
  ((i2 : Int) = (i2))) ∧
  ((i3 : Int) = (i3))) ∧
  ((2 : Int) = (2))) ∧
  ((b : Int) = (b))) ∧
  ((IntKind.u8.wrap i2 : Int) = (IntKind.u8.wrap i2))) ∧
  ((IntKind.u8.wrap (i2.fdiv (2 ^ min (Int.toNat 8) IntKind.u32.bits)) : Int) = (IntKind.u8.wrap (i2.fdiv (2 ^ min (Int.toNat 8) IntKind.u32.bits))))) ∧
  ((IntKind.u8.wrap (i2.fdiv (2 ^ min (Int.toNat 16) IntKind.u32.bits)) : Int) = (IntKind.u8.wrap (i2.fdiv (2 ^ min (Int.toNat 16) IntKind.u32.bits))))) ∧
  ((IntKind.u8.wrap (i2.fdiv (2 ^ min (Int.toNat 24) IntKind.u32.bits)) : Int) = (IntKind.u8.wrap (i2.fdiv (2 ^ min (Int.toNat 24) IntKind.u32.bits))))) ∧
  ((bitsF b : Int) = (IntKind.u8.wrap b))) ∧
  ((wrapF IntKind.u8 2 : Int) = (wrapF IntKind.u8 2))) ∧
  ((nextF 2 b : Int) = (wrapF IntKind.u8 2))) := by kernel_rfl
  have d1 : ((b == 32 : Bool) = (false)) := by first | assumption | (rw [w64 (by omega) (by omega)]; done) | (simp [bitsF, nextF, *]; done) | omega | (rw [w64 (by omega) (by omega)]; first | (simp; done) | omega | (simp; omega)) | (simp [bitsF, nextF, *]; rfl) | (simp [bitsF, nextF, *]; omega)
  have d2 : ((b == -1 : Bool) = (false)) := by first | assumption | (rw [w64 (by omega) (by omega)]; done) | (simp [bitsF, nextF, *]; done) | omega | (rw [w64 (by omega) (by omega)]; first | (simp; done) | omega | (simp; omega)) | (simp [bitsF, nextF, *]; rfl) | (simp [bitsF, nextF, *]; omega)
  have d3 : ((bitsF b : Int) = (IntKind.u8.wrap b)) := by first | assumption | (rw [w64 (by omega) (by omega)]; done) | (simp [bitsF, nextF, *]; done) | omega | (rw [w64 (by omega) (by omega)]; first | (simp; done) | omega | (simp; omega)) | (simp [bitsF, nextF, *]; rfl) | (simp [bitsF, nextF, *]; omega)
  have d4 : ((nextF 2 b : Int) = (wrapF IntKind.u8 2)) := by first | assumption | (rw [w64 (by omega) (by omega)]; done) | (simp [bitsF, nextF, *]; done) | omega | (rw [w64 (by omega) (by omega)]; first | (simp; done) | omega | (simp; omega)) | (simp [bitsF, nextF, *]; rfl) | (simp [bitsF, nextF, *]; omega)
  rw [e]
  exact ⟨⟨⟨⟨⟨⟨⟨⟨⟨⟨⟨⟨⟨⟨⟨⟨⟨True.intro, rfl⟩, d1⟩, d2⟩, rfl⟩, rfl⟩, rfl⟩, rfl⟩, rfl⟩, rfl⟩, rfl⟩, rfl⟩, rfl⟩, rfl⟩, rfl⟩, d3⟩, rfl⟩, d4⟩

noncomputable def st_Ask3f (i0 i1 i2 i3 : Int) : Option Prop := fitOne (askV i0 i1 i2 i3 3 32) (srch i0 i1 i2 i3 (.sint .i64 3) (.sint .i64 32)) (rAsk i0 i1 i2 i3 32 [true] 3)
set_option maxRecDepth 100000 in
theorem g_Ask3f (i0 i1 i2 i3 : Int)  : holdsO (st_Ask3f i0 i1 i2 i3) := by
  have e : holdsO (st_Ask3f i0 i1 i2 i3) = ((((((((((((((((True ∧
  ((32 : Int) = (32))) ∧
  ((32 == 32 : Bool) = (true))) ∧
  ((i3 : Int) = (i3))) ∧
  ((i0 : Int) = (i0))) ∧
  ((i1 : Int) = (i1))) ∧
  ((i2 : Int) = (i2))) ∧
  ((i3 : Int) = (i3))) ∧
  ((3 : Int) = (3))) ∧
  ((32 : Int) = (32))) ∧
  ((IntKind.u8.wrap i3 : Int) = (IntKind.u8.wrap i3))) ∧
  ((IntKind.u8.wrap (i3.fdiv (2 ^ min (Int.toNat 8) IntKind.u32.bits)) : Int) = (IntKind.u8.wrap (i3.fdiv (2 ^ min (Int.toNat 8) IntKind.u32.bits))))) ∧
  ((IntKind.u8.wrap (i3.fdiv (2 ^ min (Int.toNat 16) IntKind.u32.bits)) : Int) = (IntKind.u8.wrap (i3.fdiv (2 ^ min (Int.toNat 16) IntKind.u32.bits))))) ∧
  ((IntKind.u8.wrap (i3.fdiv (2 ^ min (Int.toNat 24) IntKind.u32.bits)) : Int) = (IntKind.u8.wrap (i3.fdiv (2 ^ min (Int.toNat 24) IntKind.u32.bits))))) ∧
  ((128 : Int) = (128))) ∧
  ((wrapF IntKind.u8 3 : Int) = (wrapF IntKind.u8 3))) ∧
  ((wrapF IntKind.u8 3 : Int) = (wrapF IntKind.u8 3))) := by kernel_rfl
  have d1 : ((32 == 32 : Bool) = (true)) := by first | assumption | (rw [w64 (by omega) (by omega)]; done) | (simp [bitsF, nextF, *]; done) | omega | (rw [w64 (by omega) (by omega)]; first | (simp; done) | omega | (simp; omega)) | (simp [bitsF, nextF, *]; rfl) | (simp [bitsF, nextF, *]; omega)
  rw [e]
  exact ⟨⟨⟨⟨⟨⟨⟨⟨⟨⟨⟨⟨⟨⟨⟨⟨True.intro, rfl⟩, d1⟩, rfl⟩, rfl⟩, rfl⟩, rfl⟩, rfl⟩, rfl⟩, rfl⟩, rfl⟩, rfl⟩, rfl⟩, rfl⟩, rfl⟩, rfl⟩, rfl⟩

noncomputable def st_Ask3l (i0 i1 i2 i3 : Int) : Option Prop := fitOne (askV i0 i1 i2 i3 3 (-1)) (srch i0 i1 i2 i3 (.sint .i64 3) (.sint .i64 (-1))) (rAsk i0 i1 i2 i3 (-1) [false, true] 3)
set_option maxRecDepth 100000 in
theorem g_Ask3l (i0 i1 i2 i3 : Int)  : holdsO (st_Ask3l i0 i1 i2 i3) := by
  have e : holdsO (st_Ask3l i0 i1 i2 i3) = (((((((((((((((((True ∧
  ((-1 : Int) = (-1))) ∧
  ((-1 == 32 : Bool) = (false))) ∧
  ((-1 == -1 : Bool) = (true))) ∧
  ((i3 : Int) = (i3))) ∧
  ((i0 : Int) = (i0))) ∧
  ((i1 : Int) = (i1))) ∧
  ((i2 : Int) = (i2))) ∧
  ((i3 : Int) = (i3))) ∧
  ((3 : Int) = (3))) ∧
  ((-1 : Int) = (-1))) ∧
  ((IntKind.u8.wrap i3 : Int) = (IntKind.u8.wrap i3))) ∧
  ((IntKind.u8.wrap (i3.fdiv (2 ^ min (Int.toNat 8) IntKind.u32.bits)) : Int) = (IntKind.u8.wrap (i3.fdiv (2 ^ min (Int.toNat 8) IntKind.u32.bits))))) ∧
  ((IntKind.u8.wrap (i3.fdiv (2 ^ min (Int.toNat 16) IntKind.u32.bits)) : Int) = (IntKind.u8.wrap (i3.fdiv (2 ^ min (Int.toNat 16) IntKind.u32.bits))))) ∧
  ((IntKind.u8.wrap (i3.fdiv (2 ^ min (Int.toNat 24) IntKind.u32.bits)) : Int) = (IntKind.u8.wrap (i3.fdiv (2 ^ min (Int.toNat 24) IntKind.u32.bits))))) ∧
  ((0 : Int) = (0))) ∧
  ((wrapF IntKind.u8 3 : Int) = (wrapF IntKind.u8 3))) ∧
  (((wrapF IntKind.u8 (wrapF IntKind.i64 (Int.add 3 1))).tmod 4 : Int) = ((wrapF IntKind.u8 (wrapF IntKind.i64 (Int.add 3 1))).tmod 4))) := by kernel_rfl
  have d1 : ((-1 == 32 : Bool) = (false)) := by first | assumption | (rw [w64 (by omega) (by omega)]; done) | (simp [bitsF, nextF, *]; done) | omega | (rw [w64 (by omega) (by omega)]; first | (simp; done) | omega | (simp; omega)) | (simp [bitsF, nextF, *]; rfl) | (simp [bitsF, nextF, *]; omega)
  have d2 : ((-1 == -1 : Bool) = (true)) := by first | assumption | (rw [w64 (by omega) (by omega)]; done) | (simp [bitsF, nextF, *]; done) | omega | (rw [w64 (by omega) (by omega)]; first | (simp; done) | omega | (simp; omega)) | (simp [bitsF, nextF, *]; rfl) | (simp [bitsF, nextF, *]; omega)
  rw [e]
  exact ⟨⟨⟨⟨⟨⟨⟨⟨⟨⟨⟨⟨⟨⟨⟨⟨⟨True.intro, rfl⟩, d1⟩, d2⟩, rfl⟩, rfl⟩, rfl⟩, rfl⟩, rfl⟩, rfl⟩, rfl⟩, rfl⟩, rfl⟩, rfl⟩, rfl⟩, rfl⟩, rfl⟩, rfl⟩

noncomputable def st_Ask3m (i0 i1 i2 i3 : Int) (b : Int) : Option Prop := fitOne (askV i0 i1 i2 i3 3 b) (srch i0 i1 i2 i3 (.sint .i64 3) (.sint .i64 b)) (rAsk i0 i1 i2 i3 b [false, false] 3)
set_option maxRecDepth 100000 in
theorem g_Ask3m (i0 i1 i2 i3 : Int) (b : Int) (h1 : b ≠ 32) (h2 : b ≠ -1) : holdsO (st_Ask3m i0 i1 i2 i3 b) := by
  have e : holdsO (st_Ask3m i0 i1 i2 i3 b) = (((((((((((((((((True ∧
  ((b : Int) = (b))) ∧
  ((b == 32 : Bool) = (false))) ∧
  ((b == -1 : Bool) = (false))) ∧
  ((i3 : Int) = (i3))) ∧
  ((i0 : Int) = (i0))) ∧
  ((i1 : Int) = (i1))) ∧
  ((i2 : Int) = (i2))) ∧
  ((i3 : Int) = (i3))) ∧
  ((3 : Int) = (3))) ∧
  ((b : Int) = (b))) ∧
  ((IntKind.u8.wrap i3 : Int) = (IntKind.u8.wrap i3))) ∧
  ((IntKind.u8.wrap (i3.fdiv (2 ^ min (Int.toNat 8) IntKind.u32.bits)) : Int) = (IntKind.u8.wrap (i3.fdiv (2 ^ min (Int.toNat 8) IntKind.u32.bits))))) ∧
  ((IntKind.u8.wrap (i3.fdiv (2 ^ min (Int.toNat 16) IntKind.u32.bits)) : Int) = (IntKind.u8.wrap (i3.fdiv (2 ^ min (Int.toNat 16) IntKind.u32.bits))))) ∧
  ((IntKind.u8.wrap (i3.fdiv (2 ^ min (Int.toNat 24) IntKind.u32.bits)) : Int) = (IntKind.u8.wrap (i3.fdiv (2 ^ min (Int.toNat 24) IntKind.u32.bits))))) ∧
  ((bitsF b : Int) = (IntKind.u8.wrap b))) ∧
  ((wrapF IntKind.u8 3 : Int) = (wrapF IntKind.u8 3))) ∧
  ((nextF 3 b : Int) = (wrapF IntKind.u8 3))) := by kernel_rfl
  have d1 : ((b == 32 : Bool) = (false)) := by first | assumption | (rw [w64 (by omega) (by omega)]; done) | (simp [bitsF, nextF, *]; done) | omega | (rw [w64 (by omega) (by omega)]; first | (simp; done) | omega | (simp; omega)) | (simp [bitsF, nextF, *]; rfl) | (simp [bitsF, nextF, *]; omega)
  have d2 : ((b == -1 : Bool) = (false)) := by first | assumption | (rw [w64 (by omega) (by omega)]; done) | (simp [bitsF, nextF, *]; done) | omega | (rw [w64 (by omega) (by omega)]; first | (simp; done) | omega | (simp; omega)) | (simp [bitsF, nextF, *]; rfl) | (simp [bitsF, nextF, *]; omega)
  have d3 : ((bitsF b : Int) = (IntKind.u8.wrap b)) := by first | assumption | (rw [w64 (by omega) (by omega)]; done) | (simp [bitsF, nextF, *]; done) | omega | (rw [w64 (by omega) (by omega)]; first | (simp; done) | omega | (simp; omega)) | (simp [bitsF, nextF, *]; rfl) | (simp [bitsF, nextF, *]; omega)
  have d4 : ((nextF 3 b : Int) = (wrapF IntKind.u8 3)) := by first | assumption | (rw [w64 (by omega) (by omega)]; done) | (simp [bitsF, nextF, *]; done) | omega | (rw [w64 (by omega) (by omega)]; first | (simp; done) | omega | (simp; omega)) | (simp [bitsF, nextF, *]; rfl) | (simp [bitsF, nextF, *]; omega)
  rw [e]
  exact ⟨⟨⟨⟨⟨⟨⟨⟨⟨⟨⟨⟨⟨⟨⟨⟨⟨True.intro, rfl⟩, d1⟩, d2⟩, rfl⟩, rfl⟩, rfl⟩, rfl⟩, rfl⟩, rfl⟩, rfl⟩, rfl⟩, rfl⟩, rfl⟩, rfl⟩, d3⟩, rfl⟩, d4⟩

noncomputable def st_Yes0 (i0 i1 i2 i3 : Int) (p b : Int) : Option Prop := fitOne (e0) (srchT i0 i1 i2 i3 p (b - 1) false false) (rToldS i0 i1 i2 i3 p b [false, false] true)
set_option maxRecDepth 100000 in
theorem g_Yes0 (i0 i1 i2 i3 : Int) (p b : Int) (h1 : -1 < b) (h2 : b ≤ 32) (h3 : p ≤ 3) : holdsO (st_Yes0 i0 i1 i2 i3 p b) := by
  have e : holdsO (st_Yes0 i0 i1 i2 i3 p b) = ((((((((((True ∧
  ((IntKind.i64.wrap (b - 1) == -2 : Bool) = (false))) ∧
  ((p == 4 : Bool) = (false))) ∧
  ((i0 : Int) = (i0))) ∧
  ((i1 : Int) = (i1))) ∧
  ((i2 : Int) = (i2))) ∧
  ((i3 : Int) = (i3))) ∧
  ((p : Int) = (p))) ∧
  ((b - 1 : Int) = (IntKind.i64.wrap (b - 1)))) ∧
  ((false : Bool) = (false))) ∧
  ((false : Bool) = (false))) := by kernel_rfl
  have d1 : ((IntKind.i64.wrap (b - 1) == -2 : Bool) = (false)) := by first | assumption | (rw [w64 (by omega) (by omega)]; done) | (simp [bitsF, nextF, *]; done) | omega | (rw [w64 (by omega) (by omega)]; first | (simp; done) | omega | (simp; omega)) | (simp [bitsF, nextF, *]; rfl) | (simp [bitsF, nextF, *]; omega)
  have d2 : ((p == 4 : Bool) = (false)) := by first | assumption | (rw [w64 (by omega) (by omega)]; done) | (simp [bitsF, nextF, *]; done) | omega | (rw [w64 (by omega) (by omega)]; first | (simp; done) | omega | (simp; omega)) | (simp [bitsF, nextF, *]; rfl) | (simp [bitsF, nextF, *]; omega)
  have d3 : ((b - 1 : Int) = (IntKind.i64.wrap (b - 1))) := by first | assumption | (rw [w64 (by omega) (by omega)]; done) | (simp [bitsF, nextF, *]; done) | omega | (rw [w64 (by omega) (by omega)]; first | (simp; done) | omega | (simp; omega)) | (simp [bitsF, nextF, *]; rfl) | (simp [bitsF, nextF, *]; omega)
  rw [e]
  exact ⟨⟨⟨⟨⟨⟨⟨⟨⟨⟨True.intro, d1⟩, d2⟩, rfl⟩, rfl⟩, rfl⟩, rfl⟩, rfl⟩, d3⟩, rfl⟩, rfl⟩

noncomputable def st_Yes1 (i0 i1 i2 i3 : Int) (p : Int) : Option Prop := fitOne (e0) (srchT i0 i1 i2 i3 (p + 1) 31 false false) (rToldS i0 i1 i2 i3 p (-1) [true, false] true)
set_option maxRecDepth 100000 in
theorem g_Yes1 (i0 i1 i2 i3 : Int) (p : Int) (h1 : 0 ≤ p) (h3 : p < 3) : holdsO (st_Yes1 i0 i1 i2 i3 p) := by
  have e : holdsO (st_Yes1 i0 i1 i2 i3 p) = ((((((((((True ∧
  ((IntKind.i64.wrap (-1 - 1) == -2 : Bool) = (true))) ∧
  ((IntKind.i64.wrap (p + 1) == 4 : Bool) = (false))) ∧
  ((i0 : Int) = (i0))) ∧
  ((i1 : Int) = (i1))) ∧
  ((i2 : Int) = (i2))) ∧
  ((i3 : Int) = (i3))) ∧
  ((p + 1 : Int) = (IntKind.i64.wrap (p + 1)))) ∧
  ((31 : Int) = (31))) ∧
  ((false : Bool) = (false))) ∧
  ((false : Bool) = (false))) := by kernel_rfl
  have d1 : ((IntKind.i64.wrap (-1 - 1) == -2 : Bool) = (true)) := by first | assumption | (rw [w64 (by omega) (by omega)]; done) | (simp [bitsF, nextF, *]; done) | omega | (rw [w64 (by omega) (by omega)]; first | (simp; done) | omega | (simp; omega)) | (simp [bitsF, nextF, *]; rfl) | (simp [bitsF, nextF, *]; omega)
  have d2 : ((IntKind.i64.wrap (p + 1) == 4 : Bool) = (false)) := by first | assumption | (rw [w64 (by omega) (by omega)]; done) | (simp [bitsF, nextF, *]; done) | omega | (rw [w64 (by omega) (by omega)]; first | (simp; done) | omega | (simp; omega)) | (simp [bitsF, nextF, *]; rfl) | (simp [bitsF, nextF, *]; omega)
  have d3 : ((p + 1 : Int) = (IntKind.i64.wrap (p + 1))) := by first | assumption | (rw [w64 (by omega) (by omega)]; done) | (simp [bitsF, nextF, *]; done) | omega | (rw [w64 (by omega) (by omega)]; first | (simp; done) | omega | (simp; omega)) | (simp [bitsF, nextF, *]; rfl) | (simp [bitsF, nextF, *]; omega)
  rw [e]
  exact ⟨⟨⟨⟨⟨⟨⟨⟨⟨⟨True.intro, d1⟩, d2⟩, rfl⟩, rfl⟩, rfl⟩, rfl⟩, d3⟩, rfl⟩, rfl⟩, rfl⟩

noncomputable def st_Yes2 (i0 i1 i2 i3 : Int) : Option Prop := fitOne (e0) (srchT i0 i1 i2 i3 4 31 true true) (rToldS i0 i1 i2 i3 3 (-1) [true, true] true)
set_option maxRecDepth 100000 in
theorem g_Yes2 (i0 i1 i2 i3 : Int)  : holdsO (st_Yes2 i0 i1 i2 i3) := by
  have e : holdsO (st_Yes2 i0 i1 i2 i3) = ((((((((((True ∧
  ((IntKind.i64.wrap (-1 - 1) == -2 : Bool) = (true))) ∧
  ((IntKind.i64.wrap (3 + 1) == 4 : Bool) = (true))) ∧
  ((i0 : Int) = (i0))) ∧
  ((i1 : Int) = (i1))) ∧
  ((i2 : Int) = (i2))) ∧
  ((i3 : Int) = (i3))) ∧
  ((IntKind.i64.wrap (3 + 1) : Int) = (IntKind.i64.wrap (3 + 1)))) ∧
  ((31 : Int) = (31))) ∧
  ((true : Bool) = (true))) ∧
  ((true : Bool) = (true))) := by kernel_rfl
  have d1 : ((IntKind.i64.wrap (-1 - 1) == -2 : Bool) = (true)) := by first | assumption | (rw [w64 (by omega) (by omega)]; done) | (simp [bitsF, nextF, *]; done) | omega | (rw [w64 (by omega) (by omega)]; first | (simp; done) | omega | (simp; omega)) | (simp [bitsF, nextF, *]; rfl) | (simp [bitsF, nextF, *]; omega)
  have d2 : ((IntKind.i64.wrap (3 + 1) == 4 : Bool) = (true)) := by first | assumption | (rw [w64 (by omega) (by omega)]; done) | (simp [bitsF, nextF, *]; done) | omega | (rw [w64 (by omega) (by omega)]; first | (simp; done) | omega | (simp; omega)) | (simp [bitsF, nextF, *]; rfl) | (simp [bitsF, nextF, *]; omega)
  rw [e]
  exact ⟨⟨⟨⟨⟨⟨⟨⟨⟨⟨True.intro, d1⟩, d2⟩, rfl⟩, rfl⟩, rfl⟩, rfl⟩, rfl⟩, rfl⟩, rfl⟩, rfl⟩

noncomputable def st_No0 (i0 i1 i2 i3 : Int) (p : Int) : Option Prop := fitOne (e0) (srchT i0 i1 i2 i3 p (-1) true false) (rToldS i0 i1 i2 i3 p (-1) [true, true, true, true, true, true] false)
set_option maxRecDepth 100000 in
theorem g_No0 (i0 i1 i2 i3 : Int) (p : Int)  : holdsO (st_No0 i0 i1 i2 i3 p) := by
  have e : holdsO (st_No0 i0 i1 i2 i3 p) = ((((((((((((((True ∧
  ((decide (-1 < 0) : Bool) = (true))) ∧
  ((decide (-1 < 0) : Bool) = (true))) ∧
  ((decide (-1 < 0) : Bool) = (true))) ∧
  ((decide (-1 < 0) : Bool) = (true))) ∧
  ((decide (-1 < 0) : Bool) = (true))) ∧
  ((decide (-1 < 0) : Bool) = (true))) ∧
  ((i0 : Int) = (i0))) ∧
  ((i1 : Int) = (i1))) ∧
  ((i2 : Int) = (i2))) ∧
  ((i3 : Int) = (i3))) ∧
  ((p : Int) = (p))) ∧
  ((-1 : Int) = (-1))) ∧
  ((true : Bool) = (true))) ∧
  ((false : Bool) = (false))) := by kernel_rfl
  have d1 : ((decide (-1 < 0) : Bool) = (true)) := by first | assumption | (rw [w64 (by omega) (by omega)]; done) | (simp [bitsF, nextF, *]; done) | omega | (rw [w64 (by omega) (by omega)]; first | (simp; done) | omega | (simp; omega)) | (simp [bitsF, nextF, *]; rfl) | (simp [bitsF, nextF, *]; omega)
  rw [e]
  exact ⟨⟨⟨⟨⟨⟨⟨⟨⟨⟨⟨⟨⟨⟨True.intro, d1⟩, d1⟩, d1⟩, d1⟩, d1⟩, d1⟩, rfl⟩, rfl⟩, rfl⟩, rfl⟩, rfl⟩, rfl⟩, rfl⟩, rfl⟩

noncomputable def st_No1 (i0 i1 i2 i3 : Int) (p : Int) : Option Prop := fitOne (e0) (srchT i0 i1 i2 i3 p 32 true false) (rToldS i0 i1 i2 i3 p 32 [false, false, false, false, false, false, true] false)
set_option maxRecDepth 100000 in
theorem g_No1 (i0 i1 i2 i3 : Int) (p : Int)  : holdsO (st_No1 i0 i1 i2 i3 p) := by
  have e : holdsO (st_No1 i0 i1 i2 i3 p) = (((((((((((((((True ∧
  ((decide (32 < 0) : Bool) = (false))) ∧
  ((decide (32 < 0) : Bool) = (false))) ∧
  ((decide (32 < 0) : Bool) = (false))) ∧
  ((decide (32 < 0) : Bool) = (false))) ∧
  ((decide (32 < 0) : Bool) = (false))) ∧
  ((decide (32 < 0) : Bool) = (false))) ∧
  ((32 == 32 : Bool) = (true))) ∧
  ((i0 : Int) = (i0))) ∧
  ((i1 : Int) = (i1))) ∧
  ((i2 : Int) = (i2))) ∧
  ((i3 : Int) = (i3))) ∧
  ((p : Int) = (p))) ∧
  ((32 : Int) = (32))) ∧
  ((true : Bool) = (true))) ∧
  ((false : Bool) = (false))) := by kernel_rfl
  have d1 : ((decide (32 < 0) : Bool) = (false)) := by first | assumption | (rw [w64 (by omega) (by omega)]; done) | (simp [bitsF, nextF, *]; done) | omega | (rw [w64 (by omega) (by omega)]; first | (simp; done) | omega | (simp; omega)) | (simp [bitsF, nextF, *]; rfl) | (simp [bitsF, nextF, *]; omega)
  have d2 : ((32 == 32 : Bool) = (true)) := by first | assumption | (rw [w64 (by omega) (by omega)]; done) | (simp [bitsF, nextF, *]; done) | omega | (rw [w64 (by omega) (by omega)]; first | (simp; done) | omega | (simp; omega)) | (simp [bitsF, nextF, *]; rfl) | (simp [bitsF, nextF, *]; omega)
  rw [e]
  exact ⟨⟨⟨⟨⟨⟨⟨⟨⟨⟨⟨⟨⟨⟨⟨True.intro, d1⟩, d1⟩, d1⟩, d1⟩, d1⟩, d1⟩, d2⟩, rfl⟩, rfl⟩, rfl⟩, rfl⟩, rfl⟩, rfl⟩, rfl⟩, rfl⟩

noncomputable def st_NoC0 (i0 i1 i2 i3 : Int) (b : Int) : Option Prop := fitOne (e0) (srchT (setB i0 b) i1 i2 i3 0 (b - 1) false false) (rToldC i0 i1 i2 i3 b [false, false, false, false, false, false, false, false] 0)
set_option maxRecDepth 100000 in
theorem g_NoC0 (i0 i1 i2 i3 : Int) (b : Int) (h1 : 0 ≤ b) (h2 : b < 32) : holdsO (st_NoC0 i0 i1 i2 i3 b) := by
  have e : holdsO (st_NoC0 i0 i1 i2 i3 b) = (((((((((((((((((((True ∧
  ((decide (b < 0) : Bool) = (false))) ∧
  ((decide (b < 0) : Bool) = (false))) ∧
  ((decide (b < 0) : Bool) = (false))) ∧
  ((decide (b < 0) : Bool) = (false))) ∧
  ((decide (b < 0) : Bool) = (false))) ∧
  ((decide (b < 0) : Bool) = (false))) ∧
  ((b == 32 : Bool) = (false))) ∧
  (Int.NonNeg (b - 0 : Int))) ∧
  ((i0 : Int) = (i0))) ∧
  ((b : Int) = (b))) ∧
  ((IntKind.i64.wrap (b - 1) == -2 : Bool) = (false))) ∧
  ((IntKind.u32.wrap (↑(BitVec.ofInt IntKind.u32.bits i0 ||| BitVec.ofInt IntKind.u32.bits (IntKind.u32.wrap (1 * 2 ^ min b.toNat IntKind.u32.bits))).toNat : Int) : Int) = (IntKind.u32.wrap (↑(BitVec.ofInt IntKind.u32.bits i0 ||| BitVec.ofInt IntKind.u32.bits (IntKind.u32.wrap (1 * 2 ^ min b.toNat IntKind.u32.bits))).toNat : Int)))) ∧
  ((i1 : Int) = (i1))) ∧
  ((i2 : Int) = (i2))) ∧
  ((i3 : Int) = (i3))) ∧
  ((0 : Int) = (0))) ∧
  ((b - 1 : Int) = (IntKind.i64.wrap (b - 1)))) ∧
  ((false : Bool) = (false))) ∧
  ((false : Bool) = (false))) := by kernel_rfl
  have d1 : ((decide (b < 0) : Bool) = (false)) := by first | assumption | (rw [w64 (by omega) (by omega)]; done) | (simp [bitsF, nextF, *]; done) | omega | (rw [w64 (by omega) (by omega)]; first | (simp; done) | omega | (simp; omega)) | (simp [bitsF, nextF, *]; rfl) | (simp [bitsF, nextF, *]; omega)
  have d2 : ((b == 32 : Bool) = (false)) := by first | assumption | (rw [w64 (by omega) (by omega)]; done) | (simp [bitsF, nextF, *]; done) | omega | (rw [w64 (by omega) (by omega)]; first | (simp; done) | omega | (simp; omega)) | (simp [bitsF, nextF, *]; rfl) | (simp [bitsF, nextF, *]; omega)
  have d3 : (Int.NonNeg (b - 0 : Int)) := by exact Int.le_def.1 (by omega : (0 : Int) ≤ b)
  have d4 : ((IntKind.i64.wrap (b - 1) == -2 : Bool) = (false)) := by first | assumption | (rw [w64 (by omega) (by omega)]; done) | (simp [bitsF, nextF, *]; done) | omega | (rw [w64 (by omega) (by omega)]; first | (simp; done) | omega | (simp; omega)) | (simp [bitsF, nextF, *]; rfl) | (simp [bitsF, nextF, *]; omega)
  have d5 : ((b - 1 : Int) = (IntKind.i64.wrap (b - 1))) := by first | assumption | (rw [w64 (by omega) (by omega)]; done) | (simp [bitsF, nextF, *]; done) | omega | (rw [w64 (by omega) (by omega)]; first | (simp; done) | omega | (simp; omega)) | (simp [bitsF, nextF, *]; rfl) | (simp [bitsF, nextF, *]; omega)
  rw [e]
  exact ⟨⟨⟨⟨⟨⟨⟨⟨⟨⟨⟨⟨⟨⟨⟨⟨⟨⟨⟨True.intro, d1⟩, d1⟩, d1⟩, d1⟩, d1⟩, d1⟩, d2⟩, d3⟩, rfl⟩, rfl⟩, d4⟩, rfl⟩, rfl⟩, rfl⟩, rfl⟩, rfl⟩, d5⟩, rfl⟩, rfl⟩

noncomputable def st_NoC1 (i0 i1 i2 i3 : Int) (b : Int) : Option Prop := fitOne (e0) (srchT i0 (setB i1 b) i2 i3 1 (b - 1) false false) (rToldC i0 i1 i2 i3 b [false, false, false, false, false, false, false, false] 1)
set_option maxRecDepth 100000 in
theorem g_NoC1 (i0 i1 i2 i3 : Int) (b : Int) (h1 : 0 ≤ b) (h2 : b < 32) : holdsO (st_NoC1 i0 i1 i2 i3 b) := by
  have e : holdsO (st_NoC1 i0 i1 i2 i3 b) = (((((((((((((((((((True ∧
  ((decide (b < 0) : Bool) = (false))) ∧
  ((decide (b < 0) : Bool) = (false))) ∧
  ((decide (b < 0) : Bool) = (false))) ∧
  ((decide (b < 0) : Bool) = (false))) ∧
  ((decide (b < 0) : Bool) = (false))) ∧
  ((decide (b < 0) : Bool) = (false))) ∧
  ((b == 32 : Bool) = (false))) ∧
  (Int.NonNeg (b - 0 : Int))) ∧
  ((i1 : Int) = (i1))) ∧
  ((b : Int) = (b))) ∧
  ((IntKind.i64.wrap (b - 1) == -2 : Bool) = (false))) ∧
  ((i0 : Int) = (i0))) ∧
  ((IntKind.u32.wrap (↑(BitVec.ofInt IntKind.u32.bits i1 ||| BitVec.ofInt IntKind.u32.bits (IntKind.u32.wrap (1 * 2 ^ min b.toNat IntKind.u32.bits))).toNat : Int) : Int) = (IntKind.u32.wrap (↑(BitVec.ofInt IntKind.u32.bits i1 ||| BitVec.ofInt IntKind.u32.bits (IntKind.u32.wrap (1 * 2 ^ min b.toNat IntKind.u32.bits))).toNat : Int)))) ∧
  ((i2 : Int) = (i2))) ∧
  ((i3 : Int) = (i3))) ∧
  ((1 : Int) = (1))) ∧
  ((b - 1 : Int) = (IntKind.i64.wrap (b - 1)))) ∧
  ((false : Bool) = (false))) ∧
  ((false : Bool) = (false))) := by kernel_rfl
  have d1 : ((decide (b < 0) : Bool) = (false)) := by first | assumption | (rw [w64 (by omega) (by omega)]; done) | (simp [bitsF, nextF, *]; done) | omega | (rw [w64 (by omega) (by omega)]; first | (simp; done) | omega | (simp; omega)) | (simp [bitsF, nextF, *]; rfl) | (simp [bitsF, nextF, *]; omega)
  have d2 : ((b == 32 : Bool) = (false)) := by first | assumption | (rw [w64 (by omega) (by omega)]; done) | (simp [bitsF, nextF, *]; done) | omega | (rw [w64 (by omega) (by omega)]; first | (simp; done) | omega | (simp; omega)) | (simp [bitsF, nextF, *]; rfl) | (simp [bitsF, nextF, *]; omega)
  have d3 : (Int.NonNeg (b - 0 : Int)) := by exact Int.le_def.1 (by omega : (0 : Int) ≤ b)
  have d4 : ((IntKind.i64.wrap (b - 1) == -2 : Bool) = (false)) := by first | assumption | (rw [w64 (by omega) (by omega)]; done) | (simp [bitsF, nextF, *]; done) | omega | (rw [w64 (by omega) (by omega)]; first | (simp; done) | omega | (simp; omega)) | (simp [bitsF, nextF, *]; rfl) | (simp [bitsF, nextF, *]; omega)
  have d5 : ((b - 1 : Int) = (IntKind.i64.wrap (b - 1))) := by first | assumption | (rw [w64 (by omega) (by omega)]; done) | (simp [bitsF, nextF, *]; done) | omega | (rw [w64 (by omega) (by omega)]; first | (simp; done) | omega | (simp; omega)) | (simp [bitsF, nextF, *]; rfl) | (simp [bitsF, nextF, *]; omega)
  rw [e]
  exact ⟨⟨⟨⟨⟨⟨⟨⟨⟨⟨⟨⟨⟨⟨⟨⟨⟨⟨⟨True.intro, d1⟩, d1⟩, d1⟩, d1⟩, d1⟩, d1⟩, d2⟩, d3⟩, rfl⟩, rfl⟩, d4⟩, rfl⟩, rfl⟩, rfl⟩, rfl⟩, rfl⟩, d5⟩, rfl⟩, rfl⟩

noncomputable def st_NoC2 (i0 i1 i2 i3 : Int) (b : Int) : Option Prop := fitOne (e0) (srchT i0 i1 (setB i2 b) i3 2 (b - 1) false false) (rToldC i0 i1 i2 i3 b [false, false, false, false, false, false, false, false] 2)
set_option maxRecDepth 100000 in
theorem g_NoC2 (i0 i1 i2 i3 : Int) (b : Int) (h1 : 0 ≤ b) (h2 : b < 32) : holdsO (st_NoC2 i0 i1 i2 i3 b) := by
  have e : holdsO (st_NoC2 i0 i1 i2 i3 b) = (((((((((((((((((((True ∧
  ((decide (b < 0) : Bool) = (false))) ∧
  ((decide (b < 0) : Bool) = (false))) ∧
  ((decide (b < 0) : Bool) = (false))) ∧
  ((decide (b < 0) : Bool) = (false))) ∧
  ((decide (b < 0) : Bool) = (false))) ∧
  ((decide (b < 0) : Bool) = (false))) ∧
  ((b == 32 : Bool) = (false))) ∧
  (Int.NonNeg (b - 0 : Int))) ∧
  ((i2 : Int) = (i2))) ∧
  ((b : Int) = (b))) ∧
  ((IntKind.i64.wrap (b - 1) == -2 : Bool) = (false))) ∧
  ((i0 : Int) = (i0))) ∧
  ((i1 : Int) = (i1))) ∧
  ((IntKind.u32.wrap (↑(BitVec.ofInt IntKind.u32.bits i2 ||| BitVec.ofInt IntKind.u32.bits (IntKind.u32.wrap (1 * 2 ^ min b.toNat IntKind.u32.bits))).toNat : Int) : Int) = (IntKind.u32.wrap (↑(BitVec.ofInt IntKind.u32.bits i2 ||| BitVec.ofInt IntKind.u32.bits (IntKind.u32.wrap (1 * 2 ^ min b.toNat IntKind.u32.bits))).toNat : Int)))) ∧
  ((i3 : Int) = (i3))) ∧
  ((2 : Int) = (2))) ∧
  ((b - 1 : Int) = (IntKind.i64.wrap (b - 1)))) ∧
  ((false : Bool) = (false))) ∧
  ((false : Bool) = (false))) := by kernel_rfl
  have d1 : ((decide (b < 0) : Bool) = (false)) := by first | assumption | (rw [w64 (by omega) (by omega)]; done) | (simp [bitsF, nextF, *]; done) | omega | (rw [w64 (by omega) (by omega)]; first | (simp; done) | omega | (simp; omega)) | (simp [bitsF, nextF, *]; rfl) | (simp [bitsF, nextF, *]; omega)
  have d2 : ((b == 32 : Bool) = (false)) := by first | assumption | (rw [w64 (by omega) (by omega)]; done) | (simp [bitsF, nextF, *]; done) | omega | (rw [w64 (by omega) (by omega)]; first | (simp; done) | omega | (simp; omega)) | (simp [bitsF, nextF, *]; rfl) | (simp [bitsF, nextF, *]; omega)
  have d3 : (Int.NonNeg (b - 0 : Int)) := by exact Int.le_def.1 (by omega : (0 : Int) ≤ b)
  have d4 : ((IntKind.i64.wrap (b - 1) == -2 : Bool) = (false)) := by first | assumption | (rw [w64 (by omega) (by omega)]; done) | (simp [bitsF, nextF, *]; done) | omega | (rw [w64 (by omega) (by omega)]; first | (simp; done) | omega | (simp; omega)) | (simp [bitsF, nextF, *]; rfl) | (simp [bitsF, nextF, *]; omega)
  have d5 : ((b - 1 : Int) = (IntKind.i64.wrap (b - 1))) := by first | assumption | (rw [w64 (by omega) (by omega)]; done) | (simp [bitsF, nextF, *]; done) | omega | (rw [w64 (by omega) (by omega)]; first | (simp; done) | omega | (simp; omega)) | (simp [bitsF, nextF, *]; rfl) | (simp [bitsF, nextF, *]; omega)
  rw [e]
  exact ⟨⟨⟨⟨⟨⟨⟨⟨⟨⟨⟨⟨⟨⟨⟨⟨⟨⟨⟨True.intro, d1⟩, d1⟩, d1⟩, d1⟩, d1⟩, d1⟩, d2⟩, d3⟩, rfl⟩, rfl⟩, d4⟩, rfl⟩, rfl⟩, rfl⟩, rfl⟩, rfl⟩, d5⟩, rfl⟩, rfl⟩

noncomputable def st_NoC3 (i0 i1 i2 i3 : Int) (b : Int) : Option Prop := fitOne (e0) (srchT i0 i1 i2 (setB i3 b) 3 (b - 1) false false) (rToldC i0 i1 i2 i3 b [false, false, false, false, false, false, false, false] 3)
set_option maxRecDepth 100000 in
theorem g_NoC3 (i0 i1 i2 i3 : Int) (b : Int) (h1 : 0 ≤ b) (h2 : b < 32) : holdsO (st_NoC3 i0 i1 i2 i3 b) := by
  have e : holdsO (st_NoC3 i0 i1 i2 i3 b) = (((((((((((((((((((True ∧
  ((decide (b < 0) : Bool) = (false))) ∧
  ((decide (b < 0) : Bool) = (false))) ∧
  ((decide (b < 0) : Bool) = (false))) ∧
  ((decide (b < 0) : Bool) = (false))) ∧
  ((decide (b < 0) : Bool) = (false))) ∧
  ((decide (b < 0) : Bool) = (false))) ∧
  ((b == 32 : Bool) = (false))) ∧
  (Int.NonNeg (b - 0 : Int))) ∧
  ((i3 : Int) = (i3))) ∧
  ((b : Int) = (b))) ∧
  ((IntKind.i64.wrap (b - 1) == -2 : Bool) = (false))) ∧
  ((i0 : Int) = (i0))) ∧
  ((i1 : Int) = (i1))) ∧
  ((i2 : Int) = (i2))) ∧
  ((IntKind.u32.wrap (↑(BitVec.ofInt IntKind.u32.bits i3 ||| BitVec.ofInt IntKind.u32.bits (IntKind.u32.wrap (1 * 2 ^ min b.toNat IntKind.u32.bits))).toNat : Int) : Int) = (IntKind.u32.wrap (↑(BitVec.ofInt IntKind.u32.bits i3 ||| BitVec.ofInt IntKind.u32.bits (IntKind.u32.wrap (1 * 2 ^ min b.toNat IntKind.u32.bits))).toNat : Int)))) ∧
  ((3 : Int) = (3))) ∧
  ((b - 1 : Int) = (IntKind.i64.wrap (b - 1)))) ∧
  ((false : Bool) = (false))) ∧
  ((false : Bool) = (false))) := by kernel_rfl
  have d1 : ((decide (b < 0) : Bool) = (false)) := by first | assumption | (rw [w64 (by omega) (by omega)]; done) | (simp [bitsF, nextF, *]; done) | omega | (rw [w64 (by omega) (by omega)]; first | (simp; done) | omega | (simp; omega)) | (simp [bitsF, nextF, *]; rfl) | (simp [bitsF, nextF, *]; omega)
  have d2 : ((b == 32 : Bool) = (false)) := by first | assumption | (rw [w64 (by omega) (by omega)]; done) | (simp [bitsF, nextF, *]; done) | omega | (rw [w64 (by omega) (by omega)]; first | (simp; done) | omega | (simp; omega)) | (simp [bitsF, nextF, *]; rfl) | (simp [bitsF, nextF, *]; omega)
  have d3 : (Int.NonNeg (b - 0 : Int)) := by exact Int.le_def.1 (by omega : (0 : Int) ≤ b)
  have d4 : ((IntKind.i64.wrap (b - 1) == -2 : Bool) = (false)) := by first | assumption | (rw [w64 (by omega) (by omega)]; done) | (simp [bitsF, nextF, *]; done) | omega | (rw [w64 (by omega) (by omega)]; first | (simp; done) | omega | (simp; omega)) | (simp [bitsF, nextF, *]; rfl) | (simp [bitsF, nextF, *]; omega)
  have d5 : ((b - 1 : Int) = (IntKind.i64.wrap (b - 1))) := by first | assumption | (rw [w64 (by omega) (by omega)]; done) | (simp [bitsF, nextF, *]; done) | omega | (rw [w64 (by omega) (by omega)]; first | (simp; done) | omega | (simp; omega)) | (simp [bitsF, nextF, *]; rfl) | (simp [bitsF, nextF, *]; omega)
  rw [e]
  exact ⟨⟨⟨⟨⟨⟨⟨⟨⟨⟨⟨⟨⟨⟨⟨⟨⟨⟨⟨True.intro, d1⟩, d1⟩, d1⟩, d1⟩, d1⟩, d1⟩, d2⟩, d3⟩, rfl⟩, rfl⟩, d4⟩, rfl⟩, rfl⟩, rfl⟩, rfl⟩, rfl⟩, d5⟩, rfl⟩, rfl⟩

noncomputable def st_HA (i0 i1 i2 i3 : Int) (a1 a2 a3 a4 u t pl x b : Int) : Option Prop := fitOne (noV) (nodeC i0 i1 i2 i3 x (.sbool false) pl (.bool false)) (rHearS i0 i1 i2 i3 b x a1 a2 a3 a4 u t pl [true])
set_option maxRecDepth 100000 in
theorem g_HA (i0 i1 i2 i3 : Int) (a1 a2 a3 a4 u t pl x b : Int) (h1 : x ≠ 255) : holdsO (st_HA i0 i1 i2 i3 a1 a2 a3 a4 u t pl x b) := by
  have e : holdsO (st_HA i0 i1 i2 i3 a1 a2 a3 a4 u t pl x b) = (((((((((((True ∧
  ((b : Int) = (b))) ∧
  ((u : Int) = (u))) ∧
  ((t : Int) = (t))) ∧
  ((!(255 == 255 && (x == 255 && true)) : Bool) = (true))) ∧
  ((i0 : Int) = (i0))) ∧
  ((i1 : Int) = (i1))) ∧
  ((i2 : Int) = (i2))) ∧
  ((i3 : Int) = (i3))) ∧
  ((x : Int) = (x))) ∧
  ((false : Bool) = (false))) ∧
  ((pl : Int) = (pl))) := by kernel_rfl
  have d1 : ((!(255 == 255 && (x == 255 && true)) : Bool) = (true)) := by first | assumption | (rw [w64 (by omega) (by omega)]; done) | (simp [bitsF, nextF, *]; done) | omega | (rw [w64 (by omega) (by omega)]; first | (simp; done) | omega | (simp; omega)) | (simp [bitsF, nextF, *]; rfl) | (simp [bitsF, nextF, *]; omega)
  rw [e]
  exact ⟨⟨⟨⟨⟨⟨⟨⟨⟨⟨⟨True.intro, rfl⟩, rfl⟩, rfl⟩, d1⟩, rfl⟩, rfl⟩, rfl⟩, rfl⟩, rfl⟩, rfl⟩, rfl⟩

noncomputable def st_HB (i0 i1 i2 i3 : Int) (a1 a2 a3 a4 u t pl : Int) : Option Prop := fitOne (foundV) (nodeC i0 i1 i2 i3 255 (.sbool false) 0 (.bool false)) (rHearS i0 i1 i2 i3 128 255 a1 a2 a3 a4 u t pl [false, true])
set_option maxRecDepth 100000 in
theorem g_HB (i0 i1 i2 i3 : Int) (a1 a2 a3 a4 u t pl : Int)  : holdsO (st_HB i0 i1 i2 i3 a1 a2 a3 a4 u t pl) := by
  have e : holdsO (st_HB i0 i1 i2 i3 a1 a2 a3 a4 u t pl) = ((((((((((((True ∧
  ((128 : Int) = (128))) ∧
  ((u : Int) = (u))) ∧
  ((t : Int) = (t))) ∧
  ((!(255 == 255 && (255 == 255 && true)) : Bool) = (false))) ∧
  ((128 == 128 : Bool) = (true))) ∧
  ((i0 : Int) = (i0))) ∧
  ((i1 : Int) = (i1))) ∧
  ((i2 : Int) = (i2))) ∧
  ((i3 : Int) = (i3))) ∧
  ((255 : Int) = (255))) ∧
  ((false : Bool) = (false))) ∧
  ((0 : Int) = (0))) := by kernel_rfl
  have d1 : ((!(255 == 255 && (255 == 255 && true)) : Bool) = (false)) := by first | assumption | (rw [w64 (by omega) (by omega)]; done) | (simp [bitsF, nextF, *]; done) | omega | (rw [w64 (by omega) (by omega)]; first | (simp; done) | omega | (simp; omega)) | (simp [bitsF, nextF, *]; rfl) | (simp [bitsF, nextF, *]; omega)
  have d2 : ((128 == 128 : Bool) = (true)) := by first | assumption | (rw [w64 (by omega) (by omega)]; done) | (simp [bitsF, nextF, *]; done) | omega | (rw [w64 (by omega) (by omega)]; first | (simp; done) | omega | (simp; omega)) | (simp [bitsF, nextF, *]; rfl) | (simp [bitsF, nextF, *]; omega)
  rw [e]
  exact ⟨⟨⟨⟨⟨⟨⟨⟨⟨⟨⟨⟨True.intro, rfl⟩, rfl⟩, rfl⟩, d1⟩, d2⟩, rfl⟩, rfl⟩, rfl⟩, rfl⟩, rfl⟩, rfl⟩, rfl⟩

noncomputable def st_HC1 (i0 i1 i2 i3 : Int) (a1 a2 a3 a4 u t pl b : Int) : Option Prop := fitOne (noV) (nodeC i0 i1 i2 i3 255 (.sbool false) pl (.bool false)) (rHearS i0 i1 i2 i3 b 255 a1 a2 a3 a4 u t pl [false, false, true, true, true, true, true, true, true])
set_option maxRecDepth 100000 in
theorem g_HC1 (i0 i1 i2 i3 : Int) (a1 a2 a3 a4 u t pl b : Int) (h2 : b ≠ 128) (h3 : b > 31) : holdsO (st_HC1 i0 i1 i2 i3 a1 a2 a3 a4 u t pl b) := by
  have e : holdsO (st_HC1 i0 i1 i2 i3 a1 a2 a3 a4 u t pl b) = (((((((((((((((((((True ∧
  ((b : Int) = (b))) ∧
  ((u : Int) = (u))) ∧
  ((t : Int) = (t))) ∧
  ((!(255 == 255 && (255 == 255 && true)) : Bool) = (false))) ∧
  ((b == 128 : Bool) = (false))) ∧
  ((decide (b > 31) : Bool) = (true))) ∧
  ((decide (b > 31) : Bool) = (true))) ∧
  ((decide (b > 31) : Bool) = (true))) ∧
  ((decide (b > 31) : Bool) = (true))) ∧
  ((decide (b > 31) : Bool) = (true))) ∧
  ((decide (b > 31) : Bool) = (true))) ∧
  ((decide (b > 31) : Bool) = (true))) ∧
  ((i0 : Int) = (i0))) ∧
  ((i1 : Int) = (i1))) ∧
  ((i2 : Int) = (i2))) ∧
  ((i3 : Int) = (i3))) ∧
  ((255 : Int) = (255))) ∧
  ((false : Bool) = (false))) ∧
  ((pl : Int) = (pl))) := by kernel_rfl
  have d1 : ((!(255 == 255 && (255 == 255 && true)) : Bool) = (false)) := by first | assumption | (rw [w64 (by omega) (by omega)]; done) | (simp [bitsF, nextF, *]; done) | omega | (rw [w64 (by omega) (by omega)]; first | (simp; done) | omega | (simp; omega)) | (simp [bitsF, nextF, *]; rfl) | (simp [bitsF, nextF, *]; omega)
  have d2 : ((b == 128 : Bool) = (false)) := by first | assumption | (rw [w64 (by omega) (by omega)]; done) | (simp [bitsF, nextF, *]; done) | omega | (rw [w64 (by omega) (by omega)]; first | (simp; done) | omega | (simp; omega)) | (simp [bitsF, nextF, *]; rfl) | (simp [bitsF, nextF, *]; omega)
  have d3 : ((decide (b > 31) : Bool) = (true)) := by first | assumption | (rw [w64 (by omega) (by omega)]; done) | (simp [bitsF, nextF, *]; done) | omega | (rw [w64 (by omega) (by omega)]; first | (simp; done) | omega | (simp; omega)) | (simp [bitsF, nextF, *]; rfl) | (simp [bitsF, nextF, *]; omega)
  rw [e]
  exact ⟨⟨⟨⟨⟨⟨⟨⟨⟨⟨⟨⟨⟨⟨⟨⟨⟨⟨⟨True.intro, rfl⟩, rfl⟩, rfl⟩, d1⟩, d2⟩, d3⟩, d3⟩, d3⟩, d3⟩, d3⟩, d3⟩, d3⟩, rfl⟩, rfl⟩, rfl⟩, rfl⟩, rfl⟩, rfl⟩, rfl⟩

noncomputable def st_HC2 (i0 i1 i2 i3 : Int) (a1 a2 a3 a4 u t pl b : Int) : Option Prop := fitOne (noV) (nodeC i0 i1 i2 i3 255 (.sbool false) pl (.bool false)) (rHearS i0 i1 i2 i3 b 255 a1 a2 a3 a4 u t pl [false, false, false, false, false, false, false, false, false, true, true, true])
set_option maxRecDepth 100000 in
theorem g_HC2 (i0 i1 i2 i3 : Int) (a1 a2 a3 a4 u t pl b : Int) (h3 : b ≤ 31) (h4 : u ≠ pl) : holdsO (st_HC2 i0 i1 i2 i3 a1 a2 a3 a4 u t pl b) := by
  have e : holdsO (st_HC2 i0 i1 i2 i3 a1 a2 a3 a4 u t pl b) = (((((((((((((((((((((((True ∧
  ((b : Int) = (b))) ∧
  ((u : Int) = (u))) ∧
  ((t : Int) = (t))) ∧
  ((!(255 == 255 && (255 == 255 && true)) : Bool) = (false))) ∧
  ((b == 128 : Bool) = (false))) ∧
  ((decide (b > 31) : Bool) = (false))) ∧
  ((decide (b > 31) : Bool) = (false))) ∧
  ((decide (b > 31) : Bool) = (false))) ∧
  ((decide (b > 31) : Bool) = (false))) ∧
  ((decide (b > 31) : Bool) = (false))) ∧
  ((decide (b > 31) : Bool) = (false))) ∧
  ((decide (b > 31) : Bool) = (false))) ∧
  ((u != pl : Bool) = (true))) ∧
  ((u != pl : Bool) = (true))) ∧
  ((u != pl : Bool) = (true))) ∧
  ((pl : Int) = (pl))) ∧
  ((i0 : Int) = (i0))) ∧
  ((i1 : Int) = (i1))) ∧
  ((i2 : Int) = (i2))) ∧
  ((i3 : Int) = (i3))) ∧
  ((255 : Int) = (255))) ∧
  ((false : Bool) = (false))) ∧
  ((pl : Int) = (pl))) := by kernel_rfl
  have d1 : ((!(255 == 255 && (255 == 255 && true)) : Bool) = (false)) := by first | assumption | (rw [w64 (by omega) (by omega)]; done) | (simp [bitsF, nextF, *]; done) | omega | (rw [w64 (by omega) (by omega)]; first | (simp; done) | omega | (simp; omega)) | (simp [bitsF, nextF, *]; rfl) | (simp [bitsF, nextF, *]; omega)
  have d2 : ((b == 128 : Bool) = (false)) := by first | assumption | (rw [w64 (by omega) (by omega)]; done) | (simp [bitsF, nextF, *]; done) | omega | (rw [w64 (by omega) (by omega)]; first | (simp; done) | omega | (simp; omega)) | (simp [bitsF, nextF, *]; rfl) | (simp [bitsF, nextF, *]; omega)
  have d3 : ((decide (b > 31) : Bool) = (false)) := by first | assumption | (rw [w64 (by omega) (by omega)]; done) | (simp [bitsF, nextF, *]; done) | omega | (rw [w64 (by omega) (by omega)]; first | (simp; done) | omega | (simp; omega)) | (simp [bitsF, nextF, *]; rfl) | (simp [bitsF, nextF, *]; omega)
  have d4 : ((u != pl : Bool) = (true)) := by first | assumption | (rw [w64 (by omega) (by omega)]; done) | (simp [bitsF, nextF, *]; done) | omega | (rw [w64 (by omega) (by omega)]; first | (simp; done) | omega | (simp; omega)) | (simp [bitsF, nextF, *]; rfl) | (simp [bitsF, nextF, *]; omega)
  rw [e]
  exact ⟨⟨⟨⟨⟨⟨⟨⟨⟨⟨⟨⟨⟨⟨⟨⟨⟨⟨⟨⟨⟨⟨⟨True.intro, rfl⟩, rfl⟩, rfl⟩, d1⟩, d2⟩, d3⟩, d3⟩, d3⟩, d3⟩, d3⟩, d3⟩, d3⟩, d4⟩, d4⟩, d4⟩, rfl⟩, rfl⟩, rfl⟩, rfl⟩, rfl⟩, rfl⟩, rfl⟩, rfl⟩

noncomputable def st_HN0 (i0 i1 i2 i3 : Int) (a1 a2 a3 a4 t b : Int) : Option Prop := fitOne (noV) (nodeC i0 i1 i2 i3 255 (.sbool false) 0 (.bool false)) (rHearC i0 i1 i2 i3 b 255 a1 a2 a3 a4 t 0 [false, false, false, false, false, false, false, false, false, false, false, false, true] 0)
set_option maxRecDepth 100000 in
theorem g_HN0 (i0 i1 i2 i3 : Int) (a1 a2 a3 a4 t b : Int) (h0 : 0 ≤ b) (h3 : b ≤ 31) (h5 : (xorT a1 a2 a3 a4 i0 b != 0) = true) : holdsO (st_HN0 i0 i1 i2 i3 a1 a2 a3 a4 t b) := by
  have e : holdsO (st_HN0 i0 i1 i2 i3 a1 a2 a3 a4 t b) = ((((((((((((((((((((((((((((((((True ∧
  ((b : Int) = (b))) ∧
  ((t : Int) = (t))) ∧
  ((!(255 == 255 && (255 == 255 && true)) : Bool) = (false))) ∧
  ((b == 128 : Bool) = (false))) ∧
  ((decide (b > 31) : Bool) = (false))) ∧
  ((decide (b > 31) : Bool) = (false))) ∧
  ((decide (b > 31) : Bool) = (false))) ∧
  ((decide (b > 31) : Bool) = (false))) ∧
  ((decide (b > 31) : Bool) = (false))) ∧
  ((decide (b > 31) : Bool) = (false))) ∧
  ((decide (b > 31) : Bool) = (false))) ∧
  ((0 != 0 : Bool) = (false))) ∧
  ((0 != 0 : Bool) = (false))) ∧
  ((0 != 0 : Bool) = (false))) ∧
  (Int.NonNeg (b - 0 : Int))) ∧
  ((0 : Int) = (0))) ∧
  ((a1 : Int) = (a1))) ∧
  ((a2 : Int) = (a2))) ∧
  ((a3 : Int) = (a3))) ∧
  ((a4 : Int) = (a4))) ∧
  ((b : Int) = (b))) ∧
  ((t : Int) = (t))) ∧
  ((i0 : Int) = (i0))) ∧
  ((i0 : Int) = (i0))) ∧
  (((IntKind.u32.wrap (↑(BitVec.ofInt IntKind.u32.bits (IntKind.u32.wrap (↑(BitVec.ofInt IntKind.u32.bits (IntKind.u32.wrap (↑(BitVec.ofInt IntKind.u32.bits (IntKind.u32.wrap (↑(BitVec.ofInt IntKind.u32.bits (IntKind.u32.wrap a1) ||| BitVec.ofInt IntKind.u32.bits (IntKind.u32.wrap (IntKind.u32.wrap a2 * 2 ^ min (Int.toNat 8) IntKind.u32.bits))).toNat : Int)) ||| BitVec.ofInt IntKind.u32.bits (IntKind.u32.wrap (IntKind.u32.wrap a3 * 2 ^ min (Int.toNat 16) IntKind.u32.bits))).toNat : Int)) ||| BitVec.ofInt IntKind.u32.bits (IntKind.u32.wrap (IntKind.u32.wrap a4 * 2 ^ min (Int.toNat 24) IntKind.u32.bits))).toNat : Int)) ^^^ BitVec.ofInt IntKind.u32.bits i0).toNat : Int)).fdiv (2 ^ min b.toNat IntKind.u32.bits) != 0 : Bool) = (true))) ∧
  ((i0 : Int) = (i0))) ∧
  ((i1 : Int) = (i1))) ∧
  ((i2 : Int) = (i2))) ∧
  ((i3 : Int) = (i3))) ∧
  ((255 : Int) = (255))) ∧
  ((false : Bool) = (false))) ∧
  ((0 : Int) = (0))) := by kernel_rfl
  have d1 : ((!(255 == 255 && (255 == 255 && true)) : Bool) = (false)) := by first | assumption | (rw [w64 (by omega) (by omega)]; done) | (simp [bitsF, nextF, *]; done) | omega | (rw [w64 (by omega) (by omega)]; first | (simp; done) | omega | (simp; omega)) | (simp [bitsF, nextF, *]; rfl) | (simp [bitsF, nextF, *]; omega)
  have d2 : ((b == 128 : Bool) = (false)) := by first | assumption | (rw [w64 (by omega) (by omega)]; done) | (simp [bitsF, nextF, *]; done) | omega | (rw [w64 (by omega) (by omega)]; first | (simp; done) | omega | (simp; omega)) | (simp [bitsF, nextF, *]; rfl) | (simp [bitsF, nextF, *]; omega)
  have d3 : ((decide (b > 31) : Bool) = (false)) := by first | assumption | (rw [w64 (by omega) (by omega)]; done) | (simp [bitsF, nextF, *]; done) | omega | (rw [w64 (by omega) (by omega)]; first | (simp; done) | omega | (simp; omega)) | (simp [bitsF, nextF, *]; rfl) | (simp [bitsF, nextF, *]; omega)
  have d4 : ((0 != 0 : Bool) = (false)) := by first | assumption | (rw [w64 (by omega) (by omega)]; done) | (simp [bitsF, nextF, *]; done) | omega | (rw [w64 (by omega) (by omega)]; first | (simp; done) | omega | (simp; omega)) | (simp [bitsF, nextF, *]; rfl) | (simp [bitsF, nextF, *]; omega)
  have d5 : (Int.NonNeg (b - 0 : Int)) := by exact Int.le_def.1 (by omega : (0 : Int) ≤ b)
  have d6 : (((IntKind.u32.wrap (↑(BitVec.ofInt IntKind.u32.bits (IntKind.u32.wrap (↑(BitVec.ofInt IntKind.u32.bits (IntKind.u32.wrap (↑(BitVec.ofInt IntKind.u32.bits (IntKind.u32.wrap (↑(BitVec.ofInt IntKind.u32.bits (IntKind.u32.wrap a1) ||| BitVec.ofInt IntKind.u32.bits (IntKind.u32.wrap (IntKind.u32.wrap a2 * 2 ^ min (Int.toNat 8) IntKind.u32.bits))).toNat : Int)) ||| BitVec.ofInt IntKind.u32.bits (IntKind.u32.wrap (IntKind.u32.wrap a3 * 2 ^ min (Int.toNat 16) IntKind.u32.bits))).toNat : Int)) ||| BitVec.ofInt IntKind.u32.bits (IntKind.u32.wrap (IntKind.u32.wrap a4 * 2 ^ min (Int.toNat 24) IntKind.u32.bits))).toNat : Int)) ^^^ BitVec.ofInt IntKind.u32.bits i0).toNat : Int)).fdiv (2 ^ min b.toNat IntKind.u32.bits) != 0 : Bool) = (true)) := by first | assumption | (rw [w64 (by omega) (by omega)]; done) | (simp [bitsF, nextF, *]; done) | omega | (rw [w64 (by omega) (by omega)]; first | (simp; done) | omega | (simp; omega)) | (simp [bitsF, nextF, *]; rfl) | (simp [bitsF, nextF, *]; omega)
  rw [e]
  exact ⟨⟨⟨⟨⟨⟨⟨⟨⟨⟨⟨⟨⟨⟨⟨⟨⟨⟨⟨⟨⟨⟨⟨⟨⟨⟨⟨⟨⟨⟨⟨⟨True.intro, rfl⟩, rfl⟩, d1⟩, d2⟩, d3⟩, d3⟩, d3⟩, d3⟩, d3⟩, d3⟩, d3⟩, d4⟩, d4⟩, d4⟩, d5⟩, rfl⟩, rfl⟩, rfl⟩, rfl⟩, rfl⟩, rfl⟩, rfl⟩, rfl⟩, rfl⟩, d6⟩, rfl⟩, rfl⟩, rfl⟩, rfl⟩, rfl⟩, rfl⟩, rfl⟩

noncomputable def st_HY0 (i0 i1 i2 i3 : Int) (a1 a2 a3 a4 t b : Int) : Option Prop := fitOne (foundV) (nodeC i0 i1 i2 i3 255 (.sbool false) 0 (.bool false)) (rHearC i0 i1 i2 i3 b 255 a1 a2 a3 a4 t 0 [false, false, false, false, false, false, false, false, false, false, false, false, false, false] 0)
set_option maxRecDepth 100000 in
theorem g_HY0 (i0 i1 i2 i3 : Int) (a1 a2 a3 a4 t b : Int) (h0 : 0 ≤ b) (h3 : b ≤ 31) (h5 : (xorT a1 a2 a3 a4 i0 b != 0) = false) (h6 : b ≠ 0) : holdsO (st_HY0 i0 i1 i2 i3 a1 a2 a3 a4 t b) := by
  have e : holdsO (st_HY0 i0 i1 i2 i3 a1 a2 a3 a4 t b) = (((((((((((((((((((((((((((((((((True ∧
  ((b : Int) = (b))) ∧
  ((t : Int) = (t))) ∧
  ((!(255 == 255 && (255 == 255 && true)) : Bool) = (false))) ∧
  ((b == 128 : Bool) = (false))) ∧
  ((decide (b > 31) : Bool) = (false))) ∧
  ((decide (b > 31) : Bool) = (false))) ∧
  ((decide (b > 31) : Bool) = (false))) ∧
  ((decide (b > 31) : Bool) = (false))) ∧
  ((decide (b > 31) : Bool) = (false))) ∧
  ((decide (b > 31) : Bool) = (false))) ∧
  ((decide (b > 31) : Bool) = (false))) ∧
  ((0 != 0 : Bool) = (false))) ∧
  ((0 != 0 : Bool) = (false))) ∧
  ((0 != 0 : Bool) = (false))) ∧
  (Int.NonNeg (b - 0 : Int))) ∧
  ((0 : Int) = (0))) ∧
  ((a1 : Int) = (a1))) ∧
  ((a2 : Int) = (a2))) ∧
  ((a3 : Int) = (a3))) ∧
  ((a4 : Int) = (a4))) ∧
  ((b : Int) = (b))) ∧
  ((t : Int) = (t))) ∧
  ((i0 : Int) = (i0))) ∧
  ((i0 : Int) = (i0))) ∧
  (((IntKind.u32.wrap (↑(BitVec.ofInt IntKind.u32.bits (IntKind.u32.wrap (↑(BitVec.ofInt IntKind.u32.bits (IntKind.u32.wrap (↑(BitVec.ofInt IntKind.u32.bits (IntKind.u32.wrap (↑(BitVec.ofInt IntKind.u32.bits (IntKind.u32.wrap a1) ||| BitVec.ofInt IntKind.u32.bits (IntKind.u32.wrap (IntKind.u32.wrap a2 * 2 ^ min (Int.toNat 8) IntKind.u32.bits))).toNat : Int)) ||| BitVec.ofInt IntKind.u32.bits (IntKind.u32.wrap (IntKind.u32.wrap a3 * 2 ^ min (Int.toNat 16) IntKind.u32.bits))).toNat : Int)) ||| BitVec.ofInt IntKind.u32.bits (IntKind.u32.wrap (IntKind.u32.wrap a4 * 2 ^ min (Int.toNat 24) IntKind.u32.bits))).toNat : Int)) ^^^ BitVec.ofInt IntKind.u32.bits i0).toNat : Int)).fdiv (2 ^ min b.toNat IntKind.u32.bits) != 0 : Bool) = (false))) ∧
  ((b == 0 : Bool) = (false))) ∧
  ((i0 : Int) = (i0))) ∧
  ((i1 : Int) = (i1))) ∧
  ((i2 : Int) = (i2))) ∧
  ((i3 : Int) = (i3))) ∧
  ((255 : Int) = (255))) ∧
  ((false : Bool) = (false))) ∧
  ((0 : Int) = (0))) := by kernel_rfl
  have d1 : ((!(255 == 255 && (255 == 255 && true)) : Bool) = (false)) := by first | assumption | (rw [w64 (by omega) (by omega)]; done) | (simp [bitsF, nextF, *]; done) | omega | (rw [w64 (by omega) (by omega)]; first | (simp; done) | omega | (simp; omega)) | (simp [bitsF, nextF, *]; rfl) | (simp [bitsF, nextF, *]; omega)
  have d2 : ((b == 128 : Bool) = (false)) := by first | assumption | (rw [w64 (by omega) (by omega)]; done) | (simp [bitsF, nextF, *]; done) | omega | (rw [w64 (by omega) (by omega)]; first | (simp; done) | omega | (simp; omega)) | (simp [bitsF, nextF, *]; rfl) | (simp [bitsF, nextF, *]; omega)
  have d3 : ((decide (b > 31) : Bool) = (false)) := by first | assumption | (rw [w64 (by omega) (by omega)]; done) | (simp [bitsF, nextF, *]; done) | omega | (rw [w64 (by omega) (by omega)]; first | (simp; done) | omega | (simp; omega)) | (simp [bitsF, nextF, *]; rfl) | (simp [bitsF, nextF, *]; omega)
  have d4 : ((0 != 0 : Bool) = (false)) := by first | assumption | (rw [w64 (by omega) (by omega)]; done) | (simp [bitsF, nextF, *]; done) | omega | (rw [w64 (by omega) (by omega)]; first | (simp; done) | omega | (simp; omega)) | (simp [bitsF, nextF, *]; rfl) | (simp [bitsF, nextF, *]; omega)
  have d5 : (Int.NonNeg (b - 0 : Int)) := by exact Int.le_def.1 (by omega : (0 : Int) ≤ b)
  have d6 : (((IntKind.u32.wrap (↑(BitVec.ofInt IntKind.u32.bits (IntKind.u32.wrap (↑(BitVec.ofInt IntKind.u32.bits (IntKind.u32.wrap (↑(BitVec.ofInt IntKind.u32.bits (IntKind.u32.wrap (↑(BitVec.ofInt IntKind.u32.bits (IntKind.u32.wrap a1) ||| BitVec.ofInt IntKind.u32.bits (IntKind.u32.wrap (IntKind.u32.wrap a2 * 2 ^ min (Int.toNat 8) IntKind.u32.bits))).toNat : Int)) ||| BitVec.ofInt IntKind.u32.bits (IntKind.u32.wrap (IntKind.u32.wrap a3 * 2 ^ min (Int.toNat 16) IntKind.u32.bits))).toNat : Int)) ||| BitVec.ofInt IntKind.u32.bits (IntKind.u32.wrap (IntKind.u32.wrap a4 * 2 ^ min (Int.toNat 24) IntKind.u32.bits))).toNat : Int)) ^^^ BitVec.ofInt IntKind.u32.bits i0).toNat : Int)).fdiv (2 ^ min b.toNat IntKind.u32.bits) != 0 : Bool) = (false)) := by first | assumption | (rw [w64 (by omega) (by omega)]; done) | (simp [bitsF, nextF, *]; done) | omega | (rw [w64 (by omega) (by omega)]; first | (simp; done) | omega | (simp; omega)) | (simp [bitsF, nextF, *]; rfl) | (simp [bitsF, nextF, *]; omega)
  have d7 : ((b == 0 : Bool) = (false)) := by first | assumption | (rw [w64 (by omega) (by omega)]; done) | (simp [bitsF, nextF, *]; done) | omega | (rw [w64 (by omega) (by omega)]; first | (simp; done) | omega | (simp; omega)) | (simp [bitsF, nextF, *]; rfl) | (simp [bitsF, nextF, *]; omega)
  rw [e]
  exact ⟨⟨⟨⟨⟨⟨⟨⟨⟨⟨⟨⟨⟨⟨⟨⟨⟨⟨⟨⟨⟨⟨⟨⟨⟨⟨⟨⟨⟨⟨⟨⟨⟨True.intro, rfl⟩, rfl⟩, d1⟩, d2⟩, d3⟩, d3⟩, d3⟩, d3⟩, d3⟩, d3⟩, d3⟩, d4⟩, d4⟩, d4⟩, d5⟩, rfl⟩, rfl⟩, rfl⟩, rfl⟩, rfl⟩, rfl⟩, rfl⟩, rfl⟩, rfl⟩, d6⟩, d7⟩, rfl⟩, rfl⟩, rfl⟩, rfl⟩, rfl⟩, rfl⟩, rfl⟩

noncomputable def st_HZ0 (i0 i1 i2 i3 : Int) (a1 a2 a3 a4 t : Int) : Option Prop := fitOne (foundV) (nodeC i0 i1 i2 i3 255 (.sbool false) t (.bool false)) (rHearC i0 i1 i2 i3 0 255 a1 a2 a3 a4 t 0 [false, false, false, false, false, false, false, false, false, false, false, false, false, true] 0)
set_option maxRecDepth 100000 in
theorem g_HZ0 (i0 i1 i2 i3 : Int) (a1 a2 a3 a4 t : Int) (h5 : (xorT a1 a2 a3 a4 i0 0 != 0) = false) : holdsO (st_HZ0 i0 i1 i2 i3 a1 a2 a3 a4 t) := by
  have e : holdsO (st_HZ0 i0 i1 i2 i3 a1 a2 a3 a4 t) = (((((((((((((((((((((((((((((((((True ∧
  ((0 : Int) = (0))) ∧
  ((t : Int) = (t))) ∧
  ((!(255 == 255 && (255 == 255 && true)) : Bool) = (false))) ∧
  ((0 == 128 : Bool) = (false))) ∧
  ((decide (0 > 31) : Bool) = (false))) ∧
  ((decide (0 > 31) : Bool) = (false))) ∧
  ((decide (0 > 31) : Bool) = (false))) ∧
  ((decide (0 > 31) : Bool) = (false))) ∧
  ((decide (0 > 31) : Bool) = (false))) ∧
  ((decide (0 > 31) : Bool) = (false))) ∧
  ((decide (0 > 31) : Bool) = (false))) ∧
  ((0 != 0 : Bool) = (false))) ∧
  ((0 != 0 : Bool) = (false))) ∧
  ((0 != 0 : Bool) = (false))) ∧
  (Int.NonNeg (0 - 0 : Int))) ∧
  ((0 : Int) = (0))) ∧
  ((a1 : Int) = (a1))) ∧
  ((a2 : Int) = (a2))) ∧
  ((a3 : Int) = (a3))) ∧
  ((a4 : Int) = (a4))) ∧
  ((0 : Int) = (0))) ∧
  ((t : Int) = (t))) ∧
  ((i0 : Int) = (i0))) ∧
  ((i0 : Int) = (i0))) ∧
  (((IntKind.u32.wrap (↑(BitVec.ofInt IntKind.u32.bits (IntKind.u32.wrap (↑(BitVec.ofInt IntKind.u32.bits (IntKind.u32.wrap (↑(BitVec.ofInt IntKind.u32.bits (IntKind.u32.wrap (↑(BitVec.ofInt IntKind.u32.bits (IntKind.u32.wrap a1) ||| BitVec.ofInt IntKind.u32.bits (IntKind.u32.wrap (IntKind.u32.wrap a2 * 2 ^ min (Int.toNat 8) IntKind.u32.bits))).toNat : Int)) ||| BitVec.ofInt IntKind.u32.bits (IntKind.u32.wrap (IntKind.u32.wrap a3 * 2 ^ min (Int.toNat 16) IntKind.u32.bits))).toNat : Int)) ||| BitVec.ofInt IntKind.u32.bits (IntKind.u32.wrap (IntKind.u32.wrap a4 * 2 ^ min (Int.toNat 24) IntKind.u32.bits))).toNat : Int)) ^^^ BitVec.ofInt IntKind.u32.bits i0).toNat : Int)).fdiv (2 ^ min (Int.toNat 0) IntKind.u32.bits) != 0 : Bool) = (false))) ∧
  ((0 == 0 : Bool) = (true))) ∧
  ((i0 : Int) = (i0))) ∧
  ((i1 : Int) = (i1))) ∧
  ((i2 : Int) = (i2))) ∧
  ((i3 : Int) = (i3))) ∧
  ((255 : Int) = (255))) ∧
  ((false : Bool) = (false))) ∧
  ((t : Int) = (t))) := by kernel_rfl
  have d1 : ((!(255 == 255 && (255 == 255 && true)) : Bool) = (false)) := by first | assumption | (rw [w64 (by omega) (by omega)]; done) | (simp [bitsF, nextF, *]; done) | omega | (rw [w64 (by omega) (by omega)]; first | (simp; done) | omega | (simp; omega)) | (simp [bitsF, nextF, *]; rfl) | (simp [bitsF, nextF, *]; omega)
  have d2 : ((0 == 128 : Bool) = (false)) := by first | assumption | (rw [w64 (by omega) (by omega)]; done) | (simp [bitsF, nextF, *]; done) | omega | (rw [w64 (by omega) (by omega)]; first | (simp; done) | omega | (simp; omega)) | (simp [bitsF, nextF, *]; rfl) | (simp [bitsF, nextF, *]; omega)
  have d3 : ((decide (0 > 31) : Bool) = (false)) := by first | assumption | (rw [w64 (by omega) (by omega)]; done) | (simp [bitsF, nextF, *]; done) | omega | (rw [w64 (by omega) (by omega)]; first | (simp; done) | omega | (simp; omega)) | (simp [bitsF, nextF, *]; rfl) | (simp [bitsF, nextF, *]; omega)
  have d4 : ((0 != 0 : Bool) = (false)) := by first | assumption | (rw [w64 (by omega) (by omega)]; done) | (simp [bitsF, nextF, *]; done) | omega | (rw [w64 (by omega) (by omega)]; first | (simp; done) | omega | (simp; omega)) | (simp [bitsF, nextF, *]; rfl) | (simp [bitsF, nextF, *]; omega)
  have d5 : (Int.NonNeg (0 - 0 : Int)) := by exact Int.le_def.1 (by omega : (0 : Int) ≤ 0)
  have d6 : (((IntKind.u32.wrap (↑(BitVec.ofInt IntKind.u32.bits (IntKind.u32.wrap (↑(BitVec.ofInt IntKind.u32.bits (IntKind.u32.wrap (↑(BitVec.ofInt IntKind.u32.bits (IntKind.u32.wrap (↑(BitVec.ofInt IntKind.u32.bits (IntKind.u32.wrap a1) ||| BitVec.ofInt IntKind.u32.bits (IntKind.u32.wrap (IntKind.u32.wrap a2 * 2 ^ min (Int.toNat 8) IntKind.u32.bits))).toNat : Int)) ||| BitVec.ofInt IntKind.u32.bits (IntKind.u32.wrap (IntKind.u32.wrap a3 * 2 ^ min (Int.toNat 16) IntKind.u32.bits))).toNat : Int)) ||| BitVec.ofInt IntKind.u32.bits (IntKind.u32.wrap (IntKind.u32.wrap a4 * 2 ^ min (Int.toNat 24) IntKind.u32.bits))).toNat : Int)) ^^^ BitVec.ofInt IntKind.u32.bits i0).toNat : Int)).fdiv (2 ^ min (Int.toNat 0) IntKind.u32.bits) != 0 : Bool) = (false)) := by first | assumption | (rw [w64 (by omega) (by omega)]; done) | (simp [bitsF, nextF, *]; done) | omega | (rw [w64 (by omega) (by omega)]; first | (simp; done) | omega | (simp; omega)) | (simp [bitsF, nextF, *]; rfl) | (simp [bitsF, nextF, *]; omega)
  have d7 : ((0 == 0 : Bool) = (true)) := by first | assumption | (rw [w64 (by omega) (by omega)]; done) | (simp [bitsF, nextF, *]; done) | omega | (rw [w64 (by omega) (by omega)]; first | (simp; done) | omega | (simp; omega)) | (simp [bitsF, nextF, *]; rfl) | (simp [bitsF, nextF, *]; omega)
  rw [e]
  exact ⟨⟨⟨⟨⟨⟨⟨⟨⟨⟨⟨⟨⟨⟨⟨⟨⟨⟨⟨⟨⟨⟨⟨⟨⟨⟨⟨⟨⟨⟨⟨⟨⟨True.intro, rfl⟩, rfl⟩, d1⟩, d2⟩, d3⟩, d3⟩, d3⟩, d3⟩, d3⟩, d3⟩, d3⟩, d4⟩, d4⟩, d4⟩, d5⟩, rfl⟩, rfl⟩, rfl⟩, rfl⟩, rfl⟩, rfl⟩, rfl⟩, rfl⟩, rfl⟩, d6⟩, d7⟩, rfl⟩, rfl⟩, rfl⟩, rfl⟩, rfl⟩, rfl⟩, rfl⟩

noncomputable def st_HN1 (i0 i1 i2 i3 : Int) (a1 a2 a3 a4 t b : Int) : Option Prop := fitOne (noV) (nodeC i0 i1 i2 i3 255 (.sbool false) 1 (.bool false)) (rHearC i0 i1 i2 i3 b 255 a1 a2 a3 a4 t 1 [false, false, false, false, false, false, false, false, false, false, false, false, true] 1)
set_option maxRecDepth 100000 in
theorem g_HN1 (i0 i1 i2 i3 : Int) (a1 a2 a3 a4 t b : Int) (h0 : 0 ≤ b) (h3 : b ≤ 31) (h5 : (xorT a1 a2 a3 a4 i1 b != 0) = true) : holdsO (st_HN1 i0 i1 i2 i3 a1 a2 a3 a4 t b) := by
  have e : holdsO (st_HN1 i0 i1 i2 i3 a1 a2 a3 a4 t b) = ((((((((((((((((((((((((((((((((True ∧
  ((b : Int) = (b))) ∧
  ((t : Int) = (t))) ∧
  ((!(255 == 255 && (255 == 255 && true)) : Bool) = (false))) ∧
  ((b == 128 : Bool) = (false))) ∧
  ((decide (b > 31) : Bool) = (false))) ∧
  ((decide (b > 31) : Bool) = (false))) ∧
  ((decide (b > 31) : Bool) = (false))) ∧
  ((decide (b > 31) : Bool) = (false))) ∧
  ((decide (b > 31) : Bool) = (false))) ∧
  ((decide (b > 31) : Bool) = (false))) ∧
  ((decide (b > 31) : Bool) = (false))) ∧
  ((1 != 1 : Bool) = (false))) ∧
  ((1 != 1 : Bool) = (false))) ∧
  ((1 != 1 : Bool) = (false))) ∧
  (Int.NonNeg (b - 0 : Int))) ∧
  ((1 : Int) = (1))) ∧
  ((a1 : Int) = (a1))) ∧
  ((a2 : Int) = (a2))) ∧
  ((a3 : Int) = (a3))) ∧
  ((a4 : Int) = (a4))) ∧
  ((b : Int) = (b))) ∧
  ((t : Int) = (t))) ∧
  ((i1 : Int) = (i1))) ∧
  ((i1 : Int) = (i1))) ∧
  (((IntKind.u32.wrap (↑(BitVec.ofInt IntKind.u32.bits (IntKind.u32.wrap (↑(BitVec.ofInt IntKind.u32.bits (IntKind.u32.wrap (↑(BitVec.ofInt IntKind.u32.bits (IntKind.u32.wrap (↑(BitVec.ofInt IntKind.u32.bits (IntKind.u32.wrap a1) ||| BitVec.ofInt IntKind.u32.bits (IntKind.u32.wrap (IntKind.u32.wrap a2 * 2 ^ min (Int.toNat 8) IntKind.u32.bits))).toNat : Int)) ||| BitVec.ofInt IntKind.u32.bits (IntKind.u32.wrap (IntKind.u32.wrap a3 * 2 ^ min (Int.toNat 16) IntKind.u32.bits))).toNat : Int)) ||| BitVec.ofInt IntKind.u32.bits (IntKind.u32.wrap (IntKind.u32.wrap a4 * 2 ^ min (Int.toNat 24) IntKind.u32.bits))).toNat : Int)) ^^^ BitVec.ofInt IntKind.u32.bits i1).toNat : Int)).fdiv (2 ^ min b.toNat IntKind.u32.bits) != 0 : Bool) = (true))) ∧
  ((i0 : Int) = (i0))) ∧
  ((i1 : Int) = (i1))) ∧
  ((i2 : Int) = (i2))) ∧
  ((i3 : Int) = (i3))) ∧
  ((255 : Int) = (255))) ∧
  ((false : Bool) = (false))) ∧
  ((1 : Int) = (1))) := by kernel_rfl
  have d1 : ((!(255 == 255 && (255 == 255 && true)) : Bool) = (false)) := by first | assumption | (rw [w64 (by omega) (by omega)]; done) | (simp [bitsF, nextF, *]; done) | omega | (rw [w64 (by omega) (by omega)]; first | (simp; done) | omega | (simp; omega)) | (simp [bitsF, nextF, *]; rfl) | (simp [bitsF, nextF, *]; omega)
  have d2 : ((b == 128 : Bool) = (false)) := by first | assumption | (rw [w64 (by omega) (by omega)]; done) | (simp [bitsF, nextF, *]; done) | omega | (rw [w64 (by omega) (by omega)]; first | (simp; done) | omega | (simp; omega)) | (simp [bitsF, nextF, *]; rfl) | (simp [bitsF, nextF, *]; omega)
  have d3 : ((decide (b > 31) : Bool) = (false)) := by first | assumption | (rw [w64 (by omega) (by omega)]; done) | (simp [bitsF, nextF, *]; done) | omega | (rw [w64 (by omega) (by omega)]; first | (simp; done) | omega | (simp; omega)) | (simp [bitsF, nextF, *]; rfl) | (simp [bitsF, nextF, *]; omega)
  have d4 : ((1 != 1 : Bool) = (false)) := by first | assumption | (rw [w64 (by omega) (by omega)]; done) | (simp [bitsF, nextF, *]; done) | omega | (rw [w64 (by omega) (by omega)]; first | (simp; done) | omega | (simp; omega)) | (simp [bitsF, nextF, *]; rfl) | (simp [bitsF, nextF, *]; omega)
  have d5 : (Int.NonNeg (b - 0 : Int)) := by exact Int.le_def.1 (by omega : (0 : Int) ≤ b)
  have d6 : (((IntKind.u32.wrap (↑(BitVec.ofInt IntKind.u32.bits (IntKind.u32.wrap (↑(BitVec.ofInt IntKind.u32.bits (IntKind.u32.wrap (↑(BitVec.ofInt IntKind.u32.bits (IntKind.u32.wrap (↑(BitVec.ofInt IntKind.u32.bits (IntKind.u32.wrap a1) ||| BitVec.ofInt IntKind.u32.bits (IntKind.u32.wrap (IntKind.u32.wrap a2 * 2 ^ min (Int.toNat 8) IntKind.u32.bits))).toNat : Int)) ||| BitVec.ofInt IntKind.u32.bits (IntKind.u32.wrap (IntKind.u32.wrap a3 * 2 ^ min (Int.toNat 16) IntKind.u32.bits))).toNat : Int)) ||| BitVec.ofInt IntKind.u32.bits (IntKind.u32.wrap (IntKind.u32.wrap a4 * 2 ^ min (Int.toNat 24) IntKind.u32.bits))).toNat : Int)) ^^^ BitVec.ofInt IntKind.u32.bits i1).toNat : Int)).fdiv (2 ^ min b.toNat IntKind.u32.bits) != 0 : Bool) = (true)) := by first | assumption | (rw [w64 (by omega) (by omega)]; done) | (simp [bitsF, nextF, *]; done) | omega | (rw [w64 (by omega) (by omega)]; first | (simp; done) | omega | (simp; omega)) | (simp [bitsF, nextF, *]; rfl) | (simp [bitsF, nextF, *]; omega)
  rw [e]
  exact ⟨⟨⟨⟨⟨⟨⟨⟨⟨⟨⟨⟨⟨⟨⟨⟨⟨⟨⟨⟨⟨⟨⟨⟨⟨⟨⟨⟨⟨⟨⟨⟨True.intro, rfl⟩, rfl⟩, d1⟩, d2⟩, d3⟩, d3⟩, d3⟩, d3⟩, d3⟩, d3⟩, d3⟩, d4⟩, d4⟩, d4⟩, d5⟩, rfl⟩, rfl⟩, rfl⟩, rfl⟩, rfl⟩, rfl⟩, rfl⟩, rfl⟩, rfl⟩, d6⟩, rfl⟩, rfl⟩, rfl⟩, rfl⟩, rfl⟩, rfl⟩, rfl⟩

noncomputable def st_HY1 (i0 i1 i2 i3 : Int) (a1 a2 a3 a4 t b : Int) : Option Prop := fitOne (foundV) (nodeC i0 i1 i2 i3 255 (.sbool false) 1 (.bool false)) (rHearC i0 i1 i2 i3 b 255 a1 a2 a3 a4 t 1 [false, false, false, false, false, false, false, false, false, false, false, false, false, false] 1)
set_option maxRecDepth 100000 in
theorem g_HY1 (i0 i1 i2 i3 : Int) (a1 a2 a3 a4 t b : Int) (h0 : 0 ≤ b) (h3 : b ≤ 31) (h5 : (xorT a1 a2 a3 a4 i1 b != 0) = false) (h6 : b ≠ 0) : holdsO (st_HY1 i0 i1 i2 i3 a1 a2 a3 a4 t b) := by
  have e : holdsO (st_HY1 i0 i1 i2 i3 a1 a2 a3 a4 t b) = (((((((((((((((((((((((((((((((((True ∧
  ((b : Int) = (b))) ∧
  ((t : Int) = (t))) ∧
  ((!(255 == 255 && (255 == 255 && true)) : Bool) = (false))) ∧
  ((b == 128 : Bool) = (false))) ∧
  ((decide (b > 31) : Bool) = (false))) ∧
  ((decide (b > 31) : Bool) = (false))) ∧
  ((decide (b > 31) : Bool) = (false))) ∧
  ((decide (b > 31) : Bool) = (false))) ∧
  ((decide (b > 31) : Bool) = (false))) ∧
  ((decide (b > 31) : Bool) = (false))) ∧
  ((decide (b > 31) : Bool) = (false))) ∧
  ((1 != 1 : Bool) = (false))) ∧
  ((1 != 1 : Bool) = (false))) ∧
  ((1 != 1 : Bool) = (false))) ∧
  (Int.NonNeg (b - 0 : Int))) ∧
  ((1 : Int) = (1))) ∧
  ((a1 : Int) = (a1))) ∧
  ((a2 : Int) = (a2))) ∧
  ((a3 : Int) = (a3))) ∧
  ((a4 : Int) = (a4))) ∧
  ((b : Int) = (b))) ∧
  ((t : Int) = (t))) ∧
  ((i1 : Int) = (i1))) ∧
  ((i1 : Int) = (i1))) ∧
  (((IntKind.u32.wrap (↑(BitVec.ofInt IntKind.u32.bits (IntKind.u32.wrap (↑(BitVec.ofInt IntKind.u32.bits (IntKind.u32.wrap (↑(BitVec.ofInt IntKind.u32.bits (IntKind.u32.wrap (↑(BitVec.ofInt IntKind.u32.bits (IntKind.u32.wrap a1) ||| BitVec.ofInt IntKind.u32.bits (IntKind.u32.wrap (IntKind.u32.wrap a2 * 2 ^ min (Int.toNat 8) IntKind.u32.bits))).toNat : Int)) ||| BitVec.ofInt IntKind.u32.bits (IntKind.u32.wrap (IntKind.u32.wrap a3 * 2 ^ min (Int.toNat 16) IntKind.u32.bits))).toNat : Int)) ||| BitVec.ofInt IntKind.u32.bits (IntKind.u32.wrap (IntKind.u32.wrap a4 * 2 ^ min (Int.toNat 24) IntKind.u32.bits))).toNat : Int)) ^^^ BitVec.ofInt IntKind.u32.bits i1).toNat : Int)).fdiv (2 ^ min b.toNat IntKind.u32.bits) != 0 : Bool) = (false))) ∧
  ((b == 0 : Bool) = (false))) ∧
  ((i0 : Int) = (i0))) ∧
  ((i1 : Int) = (i1))) ∧
  ((i2 : Int) = (i2))) ∧
  ((i3 : Int) = (i3))) ∧
  ((255 : Int) = (255))) ∧
  ((false : Bool) = (false))) ∧
  ((1 : Int) = (1))) := by kernel_rfl
  have d1 : ((!(255 == 255 && (255 == 255 && true)) : Bool) = (false)) := by first | assumption | (rw [w64 (by omega) (by omega)]; done) | (simp [bitsF, nextF, *]; done) | omega | (rw [w64 (by omega) (by omega)]; first | (simp; done) | omega | (simp; omega)) | (simp [bitsF, nextF, *]; rfl) | (simp [bitsF, nextF, *]; omega)
  have d2 : ((b == 128 : Bool) = (false)) := by first | assumption | (rw [w64 (by omega) (by omega)]; done) | (simp [bitsF, nextF, *]; done) | omega | (rw [w64 (by omega) (by omega)]; first | (simp; done) | omega | (simp; omega)) | (simp [bitsF, nextF, *]; rfl) | (simp [bitsF, nextF, *]; omega)
  have d3 : ((decide (b > 31) : Bool) = (false)) := by first | assumption | (rw [w64 (by omega) (by omega)]; done) | (simp [bitsF, nextF, *]; done) | omega | (rw [w64 (by omega) (by omega)]; first | (simp; done) | omega | (simp; omega)) | (simp [bitsF, nextF, *]; rfl) | (simp [bitsF, nextF, *]; omega)
  have d4 : ((1 != 1 : Bool) = (false)) := by first | assumption | (rw [w64 (by omega) (by omega)]; done) | (simp [bitsF, nextF, *]; done) | omega | (rw [w64 (by omega) (by omega)]; first | (simp; done) | omega | (simp; omega)) | (simp [bitsF, nextF, *]; rfl) | (simp [bitsF, nextF, *]; omega)
  have d5 : (Int.NonNeg (b - 0 : Int)) := by exact Int.le_def.1 (by omega : (0 : Int) ≤ b)
  have d6 : (((IntKind.u32.wrap (↑(BitVec.ofInt IntKind.u32.bits (IntKind.u32.wrap (↑(BitVec.ofInt IntKind.u32.bits (IntKind.u32.wrap (↑(BitVec.ofInt IntKind.u32.bits (IntKind.u32.wrap (↑(BitVec.ofInt IntKind.u32.bits (IntKind.u32.wrap a1) ||| BitVec.ofInt IntKind.u32.bits (IntKind.u32.wrap (IntKind.u32.wrap a2 * 2 ^ min (Int.toNat 8) IntKind.u32.bits))).toNat : Int)) ||| BitVec.ofInt IntKind.u32.bits (IntKind.u32.wrap (IntKind.u32.wrap a3 * 2 ^ min (Int.toNat 16) IntKind.u32.bits))).toNat : Int)) ||| BitVec.ofInt IntKind.u32.bits (IntKind.u32.wrap (IntKind.u32.wrap a4 * 2 ^ min (Int.toNat 24) IntKind.u32.bits))).toNat : Int)) ^^^ BitVec.ofInt IntKind.u32.bits i1).toNat : Int)).fdiv (2 ^ min b.toNat IntKind.u32.bits) != 0 : Bool) = (false)) := by first | assumption | (rw [w64 (by omega) (by omega)]; done) | (simp [bitsF, nextF, *]; done) | omega | (rw [w64 (by omega) (by omega)]; first | (simp; done) | omega | (simp; omega)) | (simp [bitsF, nextF, *]; rfl) | (simp [bitsF, nextF, *]; omega)
  have d7 : ((b == 0 : Bool) = (false)) := by first | assumption | (rw [w64 (by omega) (by omega)]; done) | (simp [bitsF, nextF, *]; done) | omega | (rw [w64 (by omega) (by omega)]; first | (simp; done) | omega | (simp; omega)) | (simp [bitsF, nextF, *]; rfl) | (simp [bitsF, nextF, *]; omega)
  rw [e]
  exact ⟨⟨⟨⟨⟨⟨⟨⟨⟨⟨⟨⟨⟨⟨⟨⟨⟨⟨⟨⟨⟨⟨⟨⟨⟨⟨⟨⟨⟨⟨⟨⟨⟨True.intro, rfl⟩, rfl⟩, d1⟩, d2⟩, d3⟩, d3⟩, d3⟩, d3⟩, d3⟩, d3⟩, d3⟩, d4⟩, d4⟩, d4⟩, d5⟩, rfl⟩, rfl⟩, rfl⟩, rfl⟩, rfl⟩, rfl⟩, rfl⟩, rfl⟩, rfl⟩, d6⟩, d7⟩, rfl⟩, rfl⟩, rfl⟩, rfl⟩, rfl⟩, rfl⟩, rfl⟩

noncomputable def st_HZ1 (i0 i1 i2 i3 : Int) (a1 a2 a3 a4 t : Int) : Option Prop := fitOne (foundV) (nodeC i0 i1 i2 i3 255 (.sbool false) t (.bool false)) (rHearC i0 i1 i2 i3 0 255 a1 a2 a3 a4 t 1 [false, false, false, false, false, false, false, false, false, false, false, false, false, true] 1)
set_option maxRecDepth 100000 in
theorem g_HZ1 (i0 i1 i2 i3 : Int) (a1 a2 a3 a4 t : Int) (h5 : (xorT a1 a2 a3 a4 i1 0 != 0) = false) : holdsO (st_HZ1 i0 i1 i2 i3 a1 a2 a3 a4 t) := by
  have e : holdsO (st_HZ1 i0 i1 i2 i3 a1 a2 a3 a4 t) = (((((((((((((((((((((((((((((((((True ∧
  ((0 : Int) = (0))) ∧
  ((t : Int) = (t))) ∧
  ((!(255 == 255 && (255 == 255 && true)) : Bool) = (false))) ∧
  ((0 == 128 : Bool) = (false))) ∧
  ((decide (0 > 31) : Bool) = (false))) ∧
  ((decide (0 > 31) : Bool) = (false))) ∧
  ((decide (0 > 31) : Bool) = (false))) ∧
  ((decide (0 > 31) : Bool) = (false))) ∧
  ((decide (0 > 31) : Bool) = (false))) ∧
  ((decide (0 > 31) : Bool) = (false))) ∧
  ((decide (0 > 31) : Bool) = (false))) ∧
  ((1 != 1 : Bool) = (false))) ∧
  ((1 != 1 : Bool) = (false))) ∧
  ((1 != 1 : Bool) = (false))) ∧
  (Int.NonNeg (0 - 0 : Int))) ∧
  ((1 : Int) = (1))) ∧
  ((a1 : Int) = (a1))) ∧
  ((a2 : Int) = (a2))) ∧
  ((a3 : Int) = (a3))) ∧
  ((a4 : Int) = (a4))) ∧
  ((0 : Int) = (0))) ∧
  ((t : Int) = (t))) ∧
  ((i1 : Int) = (i1))) ∧
  ((i1 : Int) = (i1))) ∧
  (((IntKind.u32.wrap (↑(BitVec.ofInt IntKind.u32.bits (IntKind.u32.wrap (↑(BitVec.ofInt IntKind.u32.bits (IntKind.u32.wrap (↑(BitVec.ofInt IntKind.u32.bits (IntKind.u32.wrap (↑(BitVec.ofInt IntKind.u32.bits (IntKind.u32.wrap a1) ||| BitVec.ofInt IntKind.u32.bits (IntKind.u32.wrap (IntKind.u32.wrap a2 * 2 ^ min (Int.toNat 8) IntKind.u32.bits))).toNat : Int)) ||| BitVec.ofInt IntKind.u32.bits (IntKind.u32.wrap (IntKind.u32.wrap a3 * 2 ^ min (Int.toNat 16) IntKind.u32.bits))).toNat : Int)) ||| BitVec.ofInt IntKind.u32.bits (IntKind.u32.wrap (IntKind.u32.wrap a4 * 2 ^ min (Int.toNat 24) IntKind.u32.bits))).toNat : Int)) ^^^ BitVec.ofInt IntKind.u32.bits i1).toNat : Int)).fdiv (2 ^ min (Int.toNat 0) IntKind.u32.bits) != 0 : Bool) = (false))) ∧
  ((0 == 0 : Bool) = (true))) ∧
  ((i0 : Int) = (i0))) ∧
  ((i1 : Int) = (i1))) ∧
  ((i2 : Int) = (i2))) ∧
  ((i3 : Int) = (i3))) ∧
  ((255 : Int) = (255))) ∧
  ((false : Bool) = (false))) ∧
  ((t : Int) = (t))) := by kernel_rfl
  have d1 : ((!(255 == 255 && (255 == 255 && true)) : Bool) = (false)) := by first | assumption | (rw [w64 (by omega) (by omega)]; done) | (simp [bitsF, nextF, *]; done) | omega | (rw [w64 (by omega) (by omega)]; first | (simp; done) | omega | (simp; omega)) | (simp [bitsF, nextF, *]; rfl) | (simp [bitsF, nextF, *]; omega)
  have d2 : ((0 == 128 : Bool) = (false)) := by first | assumption | (rw [w64 (by omega) (by omega)]; done) | (simp [bitsF, nextF, *]; done) | omega | (rw [w64 (by omega) (by omega)]; first | (simp; done) | omega | (simp; omega)) | (simp [bitsF, nextF, *]; rfl) | (simp [bitsF, nextF, *]; omega)
  have d3 : ((decide (0 > 31) : Bool) = (false)) := by first | assumption | (rw [w64 (by omega) (by omega)]; done) | (simp [bitsF, nextF, *]; done) | omega | (rw [w64 (by omega) (by omega)]; first | (simp; done) | omega | (simp; omega)) | (simp [bitsF, nextF, *]; rfl) | (simp [bitsF, nextF, *]; omega)
  have d4 : ((1 != 1 : Bool) = (false)) := by first | assumption | (rw [w64 (by omega) (by omega)]; done) | (simp [bitsF, nextF, *]; done) | omega | (rw [w64 (by omega) (by omega)]; first | (simp; done) | omega | (simp; omega)) | (simp [bitsF, nextF, *]; rfl) | (simp [bitsF, nextF, *]; omega)
  have d5 : (Int.NonNeg (0 - 0 : Int)) := by exact Int.le_def.1 (by omega : (0 : Int) ≤ 0)
  have d6 : (((IntKind.u32.wrap (↑(BitVec.ofInt IntKind.u32.bits (IntKind.u32.wrap (↑(BitVec.ofInt IntKind.u32.bits (IntKind.u32.wrap (↑(BitVec.ofInt IntKind.u32.bits (IntKind.u32.wrap (↑(BitVec.ofInt IntKind.u32.bits (IntKind.u32.wrap a1) ||| BitVec.ofInt IntKind.u32.bits (IntKind.u32.wrap (IntKind.u32.wrap a2 * 2 ^ min (Int.toNat 8) IntKind.u32.bits))).toNat : Int)) ||| BitVec.ofInt IntKind.u32.bits (IntKind.u32.wrap (IntKind.u32.wrap a3 * 2 ^ min (Int.toNat 16) IntKind.u32.bits))).toNat : Int)) ||| BitVec.ofInt IntKind.u32.bits (IntKind.u32.wrap (IntKind.u32.wrap a4 * 2 ^ min (Int.toNat 24) IntKind.u32.bits))).toNat : Int)) ^^^ BitVec.ofInt IntKind.u32.bits i1).toNat : Int)).fdiv (2 ^ min (Int.toNat 0) IntKind.u32.bits) != 0 : Bool) = (false)) := by first | assumption | (rw [w64 (by omega) (by omega)]; done) | (simp [bitsF, nextF, *]; done) | omega | (rw [w64 (by omega) (by omega)]; first | (simp; done) | omega | (simp; omega)) | (simp [bitsF, nextF, *]; rfl) | (simp [bitsF, nextF, *]; omega)
  have d7 : ((0 == 0 : Bool) = (true)) := by first | assumption | (rw [w64 (by omega) (by omega)]; done) | (simp [bitsF, nextF, *]; done) | omega | (rw [w64 (by omega) (by omega)]; first | (simp; done) | omega | (simp; omega)) | (simp [bitsF, nextF, *]; rfl) | (simp [bitsF, nextF, *]; omega)
  rw [e]
  exact ⟨⟨⟨⟨⟨⟨⟨⟨⟨⟨⟨⟨⟨⟨⟨⟨⟨⟨⟨⟨⟨⟨⟨⟨⟨⟨⟨⟨⟨⟨⟨⟨⟨True.intro, rfl⟩, rfl⟩, d1⟩, d2⟩, d3⟩, d3⟩, d3⟩, d3⟩, d3⟩, d3⟩, d3⟩, d4⟩, d4⟩, d4⟩, d5⟩, rfl⟩, rfl⟩, rfl⟩, rfl⟩, rfl⟩, rfl⟩, rfl⟩, rfl⟩, rfl⟩, d6⟩, d7⟩, rfl⟩, rfl⟩, rfl⟩, rfl⟩, rfl⟩, rfl⟩, rfl⟩

noncomputable def st_HN2 (i0 i1 i2 i3 : Int) (a1 a2 a3 a4 t b : Int) : Option Prop := fitOne (noV) (nodeC i0 i1 i2 i3 255 (.sbool false) 2 (.bool false)) (rHearC i0 i1 i2 i3 b 255 a1 a2 a3 a4 t 2 [false, false, false, false, false, false, false, false, false, false, false, false, true] 2)
set_option maxRecDepth 100000 in
theorem g_HN2 (i0 i1 i2 i3 : Int) (a1 a2 a3 a4 t b : Int) (h0 : 0 ≤ b) (h3 : b ≤ 31) (h5 : (xorT a1 a2 a3 a4 i2 b != 0) = true) : holdsO (st_HN2 i0 i1 i2 i3 a1 a2 a3 a4 t b) := by
  have e : holdsO (st_HN2 i0 i1 i2 i3 a1 a2 a3 a4 t b) = ((((((((((((((((((((((((((((((((True ∧
  ((b : Int) = (b))) ∧
  ((t : Int) = (t))) ∧
  ((!(255 == 255 && (255 == 255 && true)) : Bool) = (false))) ∧
  ((b == 128 : Bool) = (false))) ∧
  ((decide (b > 31) : Bool) = (false))) ∧
  ((decide (b > 31) : Bool) = (false))) ∧
  ((decide (b > 31) : Bool) = (false))) ∧
  ((decide (b > 31) : Bool) = (false))) ∧
  ((decide (b > 31) : Bool) = (false))) ∧
  ((decide (b > 31) : Bool) = (false))) ∧
  ((decide (b > 31) : Bool) = (false))) ∧
  ((2 != 2 : Bool) = (false))) ∧
  ((2 != 2 : Bool) = (false))) ∧
  ((2 != 2 : Bool) = (false))) ∧
  (Int.NonNeg (b - 0 : Int))) ∧
  ((2 : Int) = (2))) ∧
  ((a1 : Int) = (a1))) ∧
  ((a2 : Int) = (a2))) ∧
  ((a3 : Int) = (a3))) ∧
  ((a4 : Int) = (a4))) ∧
  ((b : Int) = (b))) ∧
  ((t : Int) = (t))) ∧
  ((i2 : Int) = (i2))) ∧
  ((i2 : Int) = (i2))) ∧
  (((IntKind.u32.wrap (↑(BitVec.ofInt IntKind.u32.bits (IntKind.u32.wrap (↑(BitVec.ofInt IntKind.u32.bits (IntKind.u32.wrap (↑(BitVec.ofInt IntKind.u32.bits (IntKind.u32.wrap (↑(BitVec.ofInt IntKind.u32.bits (IntKind.u32.wrap a1) ||| BitVec.ofInt IntKind.u32.bits (IntKind.u32.wrap (IntKind.u32.wrap a2 * 2 ^ min (Int.toNat 8) IntKind.u32.bits))).toNat : Int)) ||| BitVec.ofInt IntKind.u32.bits (IntKind.u32.wrap (IntKind.u32.wrap a3 * 2 ^ min (Int.toNat 16) IntKind.u32.bits))).toNat : Int)) ||| BitVec.ofInt IntKind.u32.bits (IntKind.u32.wrap (IntKind.u32.wrap a4 * 2 ^ min (Int.toNat 24) IntKind.u32.bits))).toNat : Int)) ^^^ BitVec.ofInt IntKind.u32.bits i2).toNat : Int)).fdiv (2 ^ min b.toNat IntKind.u32.bits) != 0 : Bool) = (true))) ∧
  ((i0 : Int) = (i0))) ∧
  ((i1 : Int) = (i1))) ∧
  ((i2 : Int) = (i2))) ∧
  ((i3 : Int) = (i3))) ∧
  ((255 : Int) = (255))) ∧
  ((false : Bool) = (false))) ∧
  ((2 : Int) = (2))) := by kernel_rfl
  have d1 : ((!(255 == 255 && (255 == 255 && true)) : Bool) = (false)) := by first | assumption | (rw [w64 (by omega) (by omega)]; done) | (simp [bitsF, nextF, *]; done) | omega | (rw [w64 (by omega) (by omega)]; first | (simp; done) | omega | (simp; omega)) | (simp [bitsF, nextF, *]; rfl) | (simp [bitsF, nextF, *]; omega)
  have d2 : ((b == 128 : Bool) = (false)) := by first | assumption | (rw [w64 (by omega) (by omega)]; done) | (simp [bitsF, nextF, *]; done) | omega | (rw [w64 (by omega) (by omega)]; first | (simp; done) | omega | (simp; omega)) | (simp [bitsF, nextF, *]; rfl) | (simp [bitsF, nextF, *]; omega)
  have d3 : ((decide (b > 31) : Bool) = (false)) := by first | assumption | (rw [w64 (by omega) (by omega)]; done) | (simp [bitsF, nextF, *]; done) | omega | (rw [w64 (by omega) (by omega)]; first | (simp; done) | omega | (simp; omega)) | (simp [bitsF, nextF, *]; rfl) | (simp [bitsF, nextF, *]; omega)
  have d4 : ((2 != 2 : Bool) = (false)) := by first | assumption | (rw [w64 (by omega) (by omega)]; done) | (simp [bitsF, nextF, *]; done) | omega | (rw [w64 (by omega) (by omega)]; first | (simp; done) | omega | (simp; omega)) | (simp [bitsF, nextF, *]; rfl) | (simp [bitsF, nextF, *]; omega)
  have d5 : (Int.NonNeg (b - 0 : Int)) := by exact Int.le_def.1 (by omega : (0 : Int) ≤ b)
  have d6 : (((IntKind.u32.wrap (↑(BitVec.ofInt IntKind.u32.bits (IntKind.u32.wrap (↑(BitVec.ofInt IntKind.u32.bits (IntKind.u32.wrap (↑(BitVec.ofInt IntKind.u32.bits (IntKind.u32.wrap (↑(BitVec.ofInt IntKind.u32.bits (IntKind.u32.wrap a1) ||| BitVec.ofInt IntKind.u32.bits (IntKind.u32.wrap (IntKind.u32.wrap a2 * 2 ^ min (Int.toNat 8) IntKind.u32.bits))).toNat : Int)) ||| BitVec.ofInt IntKind.u32.bits (IntKind.u32.wrap (IntKind.u32.wrap a3 * 2 ^ min (Int.toNat 16) IntKind.u32.bits))).toNat : Int)) ||| BitVec.ofInt IntKind.u32.bits (IntKind.u32.wrap (IntKind.u32.wrap a4 * 2 ^ min (Int.toNat 24) IntKind.u32.bits))).toNat : Int)) ^^^ BitVec.ofInt IntKind.u32.bits i2).toNat : Int)).fdiv (2 ^ min b.toNat IntKind.u32.bits) != 0 : Bool) = (true)) := by first | assumption | (rw [w64 (by omega) (by omega)]; done) | (simp [bitsF, nextF, *]; done) | omega | (rw [w64 (by omega) (by omega)]; first | (simp; done) | omega | (simp; omega)) | (simp [bitsF, nextF, *]; rfl) | (simp [bitsF, nextF, *]; omega)
  rw [e]
  exact ⟨⟨⟨⟨⟨⟨⟨⟨⟨⟨⟨⟨⟨⟨⟨⟨⟨⟨⟨⟨⟨⟨⟨⟨⟨⟨⟨⟨⟨⟨⟨⟨True.intro, rfl⟩, rfl⟩, d1⟩, d2⟩, d3⟩, d3⟩, d3⟩, d3⟩, d3⟩, d3⟩, d3⟩, d4⟩, d4⟩, d4⟩, d5⟩, rfl⟩, rfl⟩, rfl⟩, rfl⟩, rfl⟩, rfl⟩, rfl⟩, rfl⟩, rfl⟩, d6⟩, rfl⟩, rfl⟩, rfl⟩, rfl⟩, rfl⟩, rfl⟩, rfl⟩

noncomputable def st_HY2 (i0 i1 i2 i3 : Int) (a1 a2 a3 a4 t b : Int) : Option Prop := fitOne (foundV) (nodeC i0 i1 i2 i3 255 (.sbool false) 2 (.bool false)) (rHearC i0 i1 i2 i3 b 255 a1 a2 a3 a4 t 2 [false, false, false, false, false, false, false, false, false, false, false, false, false, false] 2)
set_option maxRecDepth 100000 in
theorem g_HY2 (i0 i1 i2 i3 : Int) (a1 a2 a3 a4 t b : Int) (h0 : 0 ≤ b) (h3 : b ≤ 31) (h5 : (xorT a1 a2 a3 a4 i2 b != 0) = false) (h6 : b ≠ 0) : holdsO (st_HY2 i0 i1 i2 i3 a1 a2 a3 a4 t b) := by
  have e : holdsO (st_HY2 i0 i1 i2 i3 a1 a2 a3 a4 t b) = (((((((((((((((((((((((((((((((((True ∧
  ((b : Int) = (b))) ∧
  ((t : Int) = (t))) ∧
  ((!(255 == 255 && (255 == 255 && true)) : Bool) = (false))) ∧
  ((b == 128 : Bool) = (false))) ∧
  ((decide (b > 31) : Bool) = (false))) ∧
  ((decide (b > 31) : Bool) = (false))) ∧
  ((decide (b > 31) : Bool) = (false))) ∧
  ((decide (b > 31) : Bool) = (false))) ∧
  ((decide (b > 31) : Bool) = (false))) ∧
  ((decide (b > 31) : Bool) = (false))) ∧
  ((decide (b > 31) : Bool) = (false))) ∧
  ((2 != 2 : Bool) = (false))) ∧
  ((2 != 2 : Bool) = (false))) ∧
  ((2 != 2 : Bool) = (false))) ∧
  (Int.NonNeg (b - 0 : Int))) ∧
  ((2 : Int) = (2))) ∧
  ((a1 : Int) = (a1))) ∧
  ((a2 : Int) = (a2))) ∧
  ((a3 : Int) = (a3))) ∧
  ((a4 : Int) = (a4))) ∧
  ((b : Int) = (b))) ∧
  ((t : Int) = (t))) ∧
  ((i2 : Int) = (i2))) ∧
  ((i2 : Int) = (i2))) ∧
  (((IntKind.u32.wrap (↑(BitVec.ofInt IntKind.u32.bits (IntKind.u32.wrap (↑(BitVec.ofInt IntKind.u32.bits (IntKind.u32.wrap (↑(BitVec.ofInt IntKind.u32.bits (IntKind.u32.wrap (↑(BitVec.ofInt IntKind.u32.bits (IntKind.u32.wrap a1) ||| BitVec.ofInt IntKind.u32.bits (IntKind.u32.wrap (IntKind.u32.wrap a2 * 2 ^ min (Int.toNat 8) IntKind.u32.bits))).toNat : Int)) ||| BitVec.ofInt IntKind.u32.bits (IntKind.u32.wrap (IntKind.u32.wrap a3 * 2 ^ min (Int.toNat 16) IntKind.u32.bits))).toNat : Int)) ||| BitVec.ofInt IntKind.u32.bits (IntKind.u32.wrap (IntKind.u32.wrap a4 * 2 ^ min (Int.toNat 24) IntKind.u32.bits))).toNat : Int)) ^^^ BitVec.ofInt IntKind.u32.bits i2).toNat : Int)).fdiv (2 ^ min b.toNat IntKind.u32.bits) != 0 : Bool) = (false))) ∧
  ((b == 0 : Bool) = (false))) ∧
  ((i0 : Int) = (i0))) ∧
  ((i1 : Int) = (i1))) ∧
  ((i2 : Int) = (i2))) ∧
  ((i3 : Int) = (i3))) ∧
  ((255 : Int) = (255))) ∧
  ((false : Bool) = (false))) ∧
  ((2 : Int) = (2))) := by kernel_rfl
  have d1 : ((!(255 == 255 && (255 == 255 && true)) : Bool) = (false)) := by first | assumption | (rw [w64 (by omega) (by omega)]; done) | (simp [bitsF, nextF, *]; done) | omega | (rw [w64 (by omega) (by omega)]; first | (simp; done) | omega | (simp; omega)) | (simp [bitsF, nextF, *]; rfl) | (simp [bitsF, nextF, *]; omega)
  have d2 : ((b == 128 : Bool) = (false)) := by first | assumption | (rw [w64 (by omega) (by omega)]; done) | (simp [bitsF, nextF, *]; done) | omega | (rw [w64 (by omega) (by omega)]; first | (simp; done) | omega | (simp; omega)) | (simp [bitsF, nextF, *]; rfl) | (simp [bitsF, nextF, *]; omega)
  have d3 : ((decide (b > 31) : Bool) = (false)) := by first | assumption | (rw [w64 (by omega) (by omega)]; done) | (simp [bitsF, nextF, *]; done) | omega | (rw [w64 (by omega) (by omega)]; first | (simp; done) | omega | (simp; omega)) | (simp [bitsF, nextF, *]; rfl) | (simp [bitsF, nextF, *]; omega)
  have d4 : ((2 != 2 : Bool) = (false)) := by first | assumption | (rw [w64 (by omega) (by omega)]; done) | (simp [bitsF, nextF, *]; done) | omega | (rw [w64 (by omega) (by omega)]; first | (simp; done) | omega | (simp; omega)) | (simp [bitsF, nextF, *]; rfl) | (simp [bitsF, nextF, *]; omega)
  have d5 : (Int.NonNeg (b - 0 : Int)) := by exact Int.le_def.1 (by omega : (0 : Int) ≤ b)
  have d6 : (((IntKind.u32.wrap (↑(BitVec.ofInt IntKind.u32.bits (IntKind.u32.wrap (↑(BitVec.ofInt IntKind.u32.bits (IntKind.u32.wrap (↑(BitVec.ofInt IntKind.u32.bits (IntKind.u32.wrap (↑(BitVec.ofInt IntKind.u32.bits (IntKind.u32.wrap a1) ||| BitVec.ofInt IntKind.u32.bits (IntKind.u32.wrap (IntKind.u32.wrap a2 * 2 ^ min (Int.toNat 8) IntKind.u32.bits))).toNat : Int)) ||| BitVec.ofInt IntKind.u32.bits (IntKind.u32.wrap (IntKind.u32.wrap a3 * 2 ^ min (Int.toNat 16) IntKind.u32.bits))).toNat : Int)) ||| BitVec.ofInt IntKind.u32.bits (IntKind.u32.wrap (IntKind.u32.wrap a4 * 2 ^ min (Int.toNat 24) IntKind.u32.bits))).toNat : Int)) ^^^ BitVec.ofInt IntKind.u32.bits i2).toNat : Int)).fdiv (2 ^ min b.toNat IntKind.u32.bits) != 0 : Bool) = (false)) := by first | assumption | (rw [w64 (by omega) (by omega)]; done) | (simp [bitsF, nextF, *]; done) | omega | (rw [w64 (by omega) (by omega)]; first | (simp; done) | omega | (simp; omega)) | (simp [bitsF, nextF, *]; rfl) | (simp [bitsF, nextF, *]; omega)
  have d7 : ((b == 0 : Bool) = (false)) := by first | assumption | (rw [w64 (by omega) (by omega)]; done) | (simp [bitsF, nextF, *]; done) | omega | (rw [w64 (by omega) (by omega)]; first | (simp; done) | omega | (simp; omega)) | (simp [bitsF, nextF, *]; rfl) | (simp [bitsF, nextF, *]; omega)
  rw [e]
  exact ⟨⟨⟨⟨⟨⟨⟨⟨⟨⟨⟨⟨⟨⟨⟨⟨⟨⟨⟨⟨⟨⟨⟨⟨⟨⟨⟨⟨⟨⟨⟨⟨⟨True.intro, rfl⟩, rfl⟩, d1⟩, d2⟩, d3⟩, d3⟩, d3⟩, d3⟩, d3⟩, d3⟩, d3⟩, d4⟩, d4⟩, d4⟩, d5⟩, rfl⟩, rfl⟩, rfl⟩, rfl⟩, rfl⟩, rfl⟩, rfl⟩, rfl⟩, rfl⟩, d6⟩, d7⟩, rfl⟩, rfl⟩, rfl⟩, rfl⟩, rfl⟩, rfl⟩, rfl⟩

noncomputable def st_HZ2 (i0 i1 i2 i3 : Int) (a1 a2 a3 a4 t : Int) : Option Prop := fitOne (foundV) (nodeC i0 i1 i2 i3 255 (.sbool false) t (.bool false)) (rHearC i0 i1 i2 i3 0 255 a1 a2 a3 a4 t 2 [false, false, false, false, false, false, false, false, false, false, false, false, false, true] 2)
set_option maxRecDepth 100000 in
theorem g_HZ2 (i0 i1 i2 i3 : Int) (a1 a2 a3 a4 t : Int) (h5 : (xorT a1 a2 a3 a4 i2 0 != 0) = false) : holdsO (st_HZ2 i0 i1 i2 i3 a1 a2 a3 a4 t) := by
  have e : holdsO (st_HZ2 i0 i1 i2 i3 a1 a2 a3 a4 t) = (((((((((((((((((((((((((((((((((True ∧
  ((0 : Int) = (0))) ∧
  ((t : Int) = (t))) ∧
  ((!(255 == 255 && (255 == 255 && true)) : Bool) = (false))) ∧
  ((0 == 128 : Bool) = (false))) ∧
  ((decide (0 > 31) : Bool) = (false))) ∧
  ((decide (0 > 31) : Bool) = (false))) ∧
  ((decide (0 > 31) : Bool) = (false))) ∧
  ((decide (0 > 31) : Bool) = (false))) ∧
  ((decide (0 > 31) : Bool) = (false))) ∧
  ((decide (0 > 31) : Bool) = (false))) ∧
  ((decide (0 > 31) : Bool) = (false))) ∧
  ((2 != 2 : Bool) = (false))) ∧
  ((2 != 2 : Bool) = (false))) ∧
  ((2 != 2 : Bool) = (false))) ∧
  (Int.NonNeg (0 - 0 : Int))) ∧
  ((2 : Int) = (2))) ∧
  ((a1 : Int) = (a1))) ∧
  ((a2 : Int) = (a2))) ∧
  ((a3 : Int) = (a3))) ∧
  ((a4 : Int) = (a4))) ∧
  ((0 : Int) = (0))) ∧
  ((t : Int) = (t))) ∧
  ((i2 : Int) = (i2))) ∧
  ((i2 : Int) = (i2))) ∧
  (((IntKind.u32.wrap (↑(BitVec.ofInt IntKind.u32.bits (IntKind.u32.wrap (↑(BitVec.ofInt IntKind.u32.bits (IntKind.u32.wrap (↑(BitVec.ofInt IntKind.u32.bits (IntKind.u32.wrap (↑(BitVec.ofInt IntKind.u32.bits (IntKind.u32.wrap a1) ||| BitVec.ofInt IntKind.u32.bits (IntKind.u32.wrap (IntKind.u32.wrap a2 * 2 ^ min (Int.toNat 8) IntKind.u32.bits))).toNat : Int)) ||| BitVec.ofInt IntKind.u32.bits (IntKind.u32.wrap (IntKind.u32.wrap a3 * 2 ^ min (Int.toNat 16) IntKind.u32.bits))).toNat : Int)) ||| BitVec.ofInt IntKind.u32.bits (IntKind.u32.wrap (IntKind.u32.wrap a4 * 2 ^ min (Int.toNat 24) IntKind.u32.bits))).toNat : Int)) ^^^ BitVec.ofInt IntKind.u32.bits i2).toNat : Int)).fdiv (2 ^ min (Int.toNat 0) IntKind.u32.bits) != 0 : Bool) = (false))) ∧
  ((0 == 0 : Bool) = (true))) ∧
  ((i0 : Int) = (i0))) ∧
  ((i1 : Int) = (i1))) ∧
  ((i2 : Int) = (i2))) ∧
  ((i3 : Int) = (i3))) ∧
  ((255 : Int) = (255))) ∧
  ((false : Bool) = (false))) ∧
  ((t : Int) = (t))) := by kernel_rfl
  have d1 : ((!(255 == 255 && (255 == 255 && true)) : Bool) = (false)) := by first | assumption | (rw [w64 (by omega) (by omega)]; done) | (simp [bitsF, nextF, *]; done) | omega | (rw [w64 (by omega) (by omega)]; first | (simp; done) | omega | (simp; omega)) | (simp [bitsF, nextF, *]; rfl) | (simp [bitsF, nextF, *]; omega)
  have d2 : ((0 == 128 : Bool) = (false)) := by first | assumption | (rw [w64 (by omega) (by omega)]; done) | (simp [bitsF, nextF, *]; done) | omega | (rw [w64 (by omega) (by omega)]; first | (simp; done) | omega | (simp; omega)) | (simp [bitsF, nextF, *]; rfl) | (simp [bitsF, nextF, *]; omega)
  have d3 : ((decide (0 > 31) : Bool) = (false)) := by first | assumption | (rw [w64 (by omega) (by omega)]; done) | (simp [bitsF, nextF, *]; done) | omega | (rw [w64 (by omega) (by omega)]; first | (simp; done) | omega | (simp; omega)) | (simp [bitsF, nextF, *]; rfl) | (simp [bitsF, nextF, *]; omega)
  have d4 : ((2 != 2 : Bool) = (false)) := by first | assumption | (rw [w64 (by omega) (by omega)]; done) | (simp [bitsF, nextF, *]; done) | omega | (rw [w64 (by omega) (by omega)]; first | (simp; done) | omega | (simp; omega)) | (simp [bitsF, nextF, *]; rfl) | (simp [bitsF, nextF, *]; omega)
  have d5 : (Int.NonNeg (0 - 0 : Int)) := by exact Int.le_def.1 (by omega : (0 : Int) ≤ 0)
  have d6 : (((IntKind.u32.wrap (↑(BitVec.ofInt IntKind.u32.bits (IntKind.u32.wrap (↑(BitVec.ofInt IntKind.u32.bits (IntKind.u32.wrap (↑(BitVec.ofInt IntKind.u32.bits (IntKind.u32.wrap (↑(BitVec.ofInt IntKind.u32.bits (IntKind.u32.wrap a1) ||| BitVec.ofInt IntKind.u32.bits (IntKind.u32.wrap (IntKind.u32.wrap a2 * 2 ^ min (Int.toNat 8) IntKind.u32.bits))).toNat : Int)) ||| BitVec.ofInt IntKind.u32.bits (IntKind.u32.wrap (IntKind.u32.wrap a3 * 2 ^ min (Int.toNat 16) IntKind.u32.bits))).toNat : Int)) ||| BitVec.ofInt IntKind.u32.bits (IntKind.u32.wrap (IntKind.u32.wrap a4 * 2 ^ min (Int.toNat 24) IntKind.u32.bits))).toNat : Int)) ^^^ BitVec.ofInt IntKind.u32.bits i2).toNat : Int)).fdiv (2 ^ min (Int.toNat 0) IntKind.u32.bits) != 0 : Bool) = (false)) := by first | assumption | (rw [w64 (by omega) (by omega)]; done) | (simp [bitsF, nextF, *]; done) | omega | (rw [w64 (by omega) (by omega)]; first | (simp; done) | omega | (simp; omega)) | (simp [bitsF, nextF, *]; rfl) | (simp [bitsF, nextF, *]; omega)
  have d7 : ((0 == 0 : Bool) = (true)) := by first | assumption | (rw [w64 (by omega) (by omega)]; done) | (simp [bitsF, nextF, *]; done) | omega | (rw [w64 (by omega) (by omega)]; first | (simp; done) | omega | (simp; omega)) | (simp [bitsF, nextF, *]; rfl) | (simp [bitsF, nextF, *]; omega)
  rw [e]
  exact ⟨⟨⟨⟨⟨⟨⟨⟨⟨⟨⟨⟨⟨⟨⟨⟨⟨⟨⟨⟨⟨⟨⟨⟨⟨⟨⟨⟨⟨⟨⟨⟨⟨True.intro, rfl⟩, rfl⟩, d1⟩, d2⟩, d3⟩, d3⟩, d3⟩, d3⟩, d3⟩, d3⟩, d3⟩, d4⟩, d4⟩, d4⟩, d5⟩, rfl⟩, rfl⟩, rfl⟩, rfl⟩, rfl⟩, rfl⟩, rfl⟩, rfl⟩, rfl⟩, d6⟩, d7⟩, rfl⟩, rfl⟩, rfl⟩, rfl⟩, rfl⟩, rfl⟩, rfl⟩

noncomputable def st_HN3 (i0 i1 i2 i3 : Int) (a1 a2 a3 a4 t b : Int) : Option Prop := fitOne (noV) (nodeC i0 i1 i2 i3 255 (.sbool false) 3 (.bool false)) (rHearC i0 i1 i2 i3 b 255 a1 a2 a3 a4 t 3 [false, false, false, false, false, false, false, false, false, false, false, false, true] 3)
set_option maxRecDepth 100000 in
theorem g_HN3 (i0 i1 i2 i3 : Int) (a1 a2 a3 a4 t b : Int) (h0 : 0 ≤ b) (h3 : b ≤ 31) (h5 : (xorT a1 a2 a3 a4 i3 b != 0) = true) : holdsO (st_HN3 i0 i1 i2 i3 a1 a2 a3 a4 t b) := by
  have e : holdsO (st_HN3 i0 i1 i2 i3 a1 a2 a3 a4 t b) = ((((((((((((((((((((((((((((((((True ∧
  ((b : Int) = (b))) ∧
  ((t : Int) = (t))) ∧
  ((!(255 == 255 && (255 == 255 && true)) : Bool) = (false))) ∧
  ((b == 128 : Bool) = (false))) ∧
  ((decide (b > 31) : Bool) = (false))) ∧
  ((decide (b > 31) : Bool) = (false))) ∧
  ((decide (b > 31) : Bool) = (false))) ∧
  ((decide (b > 31) : Bool) = (false))) ∧
  ((decide (b > 31) : Bool) = (false))) ∧
  ((decide (b > 31) : Bool) = (false))) ∧
  ((decide (b > 31) : Bool) = (false))) ∧
  ((3 != 3 : Bool) = (false))) ∧
  ((3 != 3 : Bool) = (false))) ∧
  ((3 != 3 : Bool) = (false))) ∧
  (Int.NonNeg (b - 0 : Int))) ∧
  ((3 : Int) = (3))) ∧
  ((a1 : Int) = (a1))) ∧
  ((a2 : Int) = (a2))) ∧
  ((a3 : Int) = (a3))) ∧
  ((a4 : Int) = (a4))) ∧
  ((b : Int) = (b))) ∧
  ((t : Int) = (t))) ∧
  ((i3 : Int) = (i3))) ∧
  ((i3 : Int) = (i3))) ∧
  (((IntKind.u32.wrap (↑(BitVec.ofInt IntKind.u32.bits (IntKind.u32.wrap (↑(BitVec.ofInt IntKind.u32.bits (IntKind.u32.wrap (↑(BitVec.ofInt IntKind.u32.bits (IntKind.u32.wrap (↑(BitVec.ofInt IntKind.u32.bits (IntKind.u32.wrap a1) ||| BitVec.ofInt IntKind.u32.bits (IntKind.u32.wrap (IntKind.u32.wrap a2 * 2 ^ min (Int.toNat 8) IntKind.u32.bits))).toNat : Int)) ||| BitVec.ofInt IntKind.u32.bits (IntKind.u32.wrap (IntKind.u32.wrap a3 * 2 ^ min (Int.toNat 16) IntKind.u32.bits))).toNat : Int)) ||| BitVec.ofInt IntKind.u32.bits (IntKind.u32.wrap (IntKind.u32.wrap a4 * 2 ^ min (Int.toNat 24) IntKind.u32.bits))).toNat : Int)) ^^^ BitVec.ofInt IntKind.u32.bits i3).toNat : Int)).fdiv (2 ^ min b.toNat IntKind.u32.bits) != 0 : Bool) = (true))) ∧
  ((i0 : Int) = (i0))) ∧
  ((i1 : Int) = (i1))) ∧
  ((i2 : Int) = (i2))) ∧
  ((i3 : Int) = (i3))) ∧
  ((255 : Int) = (255))) ∧
  ((false : Bool) = (false))) ∧
  ((3 : Int) = (3))) := by kernel_rfl
  have d1 : ((!(255 == 255 && (255 == 255 && true)) : Bool) = (false)) := by first | assumption | (rw [w64 (by omega) (by omega)]; done) | (simp [bitsF, nextF, *]; done) | omega | (rw [w64 (by omega) (by omega)]; first | (simp; done) | omega | (simp; omega)) | (simp [bitsF, nextF, *]; rfl) | (simp [bitsF, nextF, *]; omega)
  have d2 : ((b == 128 : Bool) = (false)) := by first | assumption | (rw [w64 (by omega) (by omega)]; done) | (simp [bitsF, nextF, *]; done) | omega | (rw [w64 (by omega) (by omega)]; first | (simp; done) | omega | (simp; omega)) | (simp [bitsF, nextF, *]; rfl) | (simp [bitsF, nextF, *]; omega)
  have d3 : ((decide (b > 31) : Bool) = (false)) := by first | assumption | (rw [w64 (by omega) (by omega)]; done) | (simp [bitsF, nextF, *]; done) | omega | (rw [w64 (by omega) (by omega)]; first | (simp; done) | omega | (simp; omega)) | (simp [bitsF, nextF, *]; rfl) | (simp [bitsF, nextF, *]; omega)
  have d4 : ((3 != 3 : Bool) = (false)) := by first | assumption | (rw [w64 (by omega) (by omega)]; done) | (simp [bitsF, nextF, *]; done) | omega | (rw [w64 (by omega) (by omega)]; first | (simp; done) | omega | (simp; omega)) | (simp [bitsF, nextF, *]; rfl) | (simp [bitsF, nextF, *]; omega)
  have d5 : (Int.NonNeg (b - 0 : Int)) := by exact Int.le_def.1 (by omega : (0 : Int) ≤ b)
  have d6 : (((IntKind.u32.wrap (↑(BitVec.ofInt IntKind.u32.bits (IntKind.u32.wrap (↑(BitVec.ofInt IntKind.u32.bits (IntKind.u32.wrap (↑(BitVec.ofInt IntKind.u32.bits (IntKind.u32.wrap (↑(BitVec.ofInt IntKind.u32.bits (IntKind.u32.wrap a1) ||| BitVec.ofInt IntKind.u32.bits (IntKind.u32.wrap (IntKind.u32.wrap a2 * 2 ^ min (Int.toNat 8) IntKind.u32.bits))).toNat : Int)) ||| BitVec.ofInt IntKind.u32.bits (IntKind.u32.wrap (IntKind.u32.wrap a3 * 2 ^ min (Int.toNat 16) IntKind.u32.bits))).toNat : Int)) ||| BitVec.ofInt IntKind.u32.bits (IntKind.u32.wrap (IntKind.u32.wrap a4 * 2 ^ min (Int.toNat 24) IntKind.u32.bits))).toNat : Int)) ^^^ BitVec.ofInt IntKind.u32.bits i3).toNat : Int)).fdiv (2 ^ min b.toNat IntKind.u32.bits) != 0 : Bool) = (true)) := by first | assumption | (rw [w64 (by omega) (by omega)]; done) | (simp [bitsF, nextF, *]; done) | omega | (rw [w64 (by omega) (by omega)]; first | (simp; done) | omega | (simp; omega)) | (simp [bitsF, nextF, *]; rfl) | (simp [bitsF, nextF, *]; omega)
  rw [e]
  exact ⟨⟨⟨⟨⟨⟨⟨⟨⟨⟨⟨⟨⟨⟨⟨⟨⟨⟨⟨⟨⟨⟨⟨⟨⟨⟨⟨⟨⟨⟨⟨⟨True.intro, rfl⟩, rfl⟩, d1⟩, d2⟩, d3⟩, d3⟩, d3⟩, d3⟩, d3⟩, d3⟩, d3⟩, d4⟩, d4⟩, d4⟩, d5⟩, rfl⟩, rfl⟩, rfl⟩, rfl⟩, rfl⟩, rfl⟩, rfl⟩, rfl⟩, rfl⟩, d6⟩, rfl⟩, rfl⟩, rfl⟩, rfl⟩, rfl⟩, rfl⟩, rfl⟩

noncomputable def st_HY3 (i0 i1 i2 i3 : Int) (a1 a2 a3 a4 t b : Int) : Option Prop := fitOne (foundV) (nodeC i0 i1 i2 i3 255 (.sbool false) 3 (.bool false)) (rHearC i0 i1 i2 i3 b 255 a1 a2 a3 a4 t 3 [false, false, false, false, false, false, false, false, false, false, false, false, false, false] 3)
set_option maxRecDepth 100000 in
theorem g_HY3 (i0 i1 i2 i3 : Int) (a1 a2 a3 a4 t b : Int) (h0 : 0 ≤ b) (h3 : b ≤ 31) (h5 : (xorT a1 a2 a3 a4 i3 b != 0) = false) (h6 : b ≠ 0) : holdsO (st_HY3 i0 i1 i2 i3 a1 a2 a3 a4 t b) := by
  have e : holdsO (st_HY3 i0 i1 i2 i3 a1 a2 a3 a4 t b) = (((((((((((((((((((((((((((((((((True ∧
  ((b : Int) = (b))) ∧
  ((t : Int) = (t))) ∧
  ((!(255 == 255 && (255 == 255 && true)) : Bool) = (false))) ∧
  ((b == 128 : Bool) = (false))) ∧
  ((decide (b > 31) : Bool) = (false))) ∧
  ((decide (b > 31) : Bool) = (false))) ∧
  ((decide (b > 31) : Bool) = (false))) ∧
  ((decide (b > 31) : Bool) = (false))) ∧
  ((decide (b > 31) : Bool) = (false))) ∧
  ((decide (b > 31) : Bool) = (false))) ∧
  ((decide (b > 31) : Bool) = (false))) ∧
  ((3 != 3 : Bool) = (false))) ∧
  ((3 != 3 : Bool) = (false))) ∧
  ((3 != 3 : Bool) = (false))) ∧
  (Int.NonNeg (b - 0 : Int))) ∧
  ((3 : Int) = (3))) ∧
  ((a1 : Int) = (a1))) ∧
  ((a2 : Int) = (a2))) ∧
  ((a3 : Int) = (a3))) ∧
  ((a4 : Int) = (a4))) ∧
  ((b : Int) = (b))) ∧
  ((t : Int) = (t))) ∧
  ((i3 : Int) = (i3))) ∧
  ((i3 : Int) = (i3))) ∧
  (((IntKind.u32.wrap (↑(BitVec.ofInt IntKind.u32.bits (IntKind.u32.wrap (↑(BitVec.ofInt IntKind.u32.bits (IntKind.u32.wrap (↑(BitVec.ofInt IntKind.u32.bits (IntKind.u32.wrap (↑(BitVec.ofInt IntKind.u32.bits (IntKind.u32.wrap a1) ||| BitVec.ofInt IntKind.u32.bits (IntKind.u32.wrap (IntKind.u32.wrap a2 * 2 ^ min (Int.toNat 8) IntKind.u32.bits))).toNat : Int)) ||| BitVec.ofInt IntKind.u32.bits (IntKind.u32.wrap (IntKind.u32.wrap a3 * 2 ^ min (Int.toNat 16) IntKind.u32.bits))).toNat : Int)) ||| BitVec.ofInt IntKind.u32.bits (IntKind.u32.wrap (IntKind.u32.wrap a4 * 2 ^ min (Int.toNat 24) IntKind.u32.bits))).toNat : Int)) ^^^ BitVec.ofInt IntKind.u32.bits i3).toNat : Int)).fdiv (2 ^ min b.toNat IntKind.u32.bits) != 0 : Bool) = (false))) ∧
  ((b == 0 : Bool) = (false))) ∧
  ((i0 : Int) = (i0))) ∧
  ((i1 : Int) = (i1))) ∧
  ((i2 : Int) = (i2))) ∧
  ((i3 : Int) = (i3))) ∧
  ((255 : Int) = (255))) ∧
  ((false : Bool) = (false))) ∧
  ((3 : Int) = (3))) := by kernel_rfl
  have d1 : ((!(255 == 255 && (255 == 255 && true)) : Bool) = (false)) := by first | assumption | (rw [w64 (by omega) (by omega)]; done) | (simp [bitsF, nextF, *]; done) | omega | (rw [w64 (by omega) (by omega)]; first | (simp; done) | omega | (simp; omega)) | (simp [bitsF, nextF, *]; rfl) | (simp [bitsF, nextF, *]; omega)
  have d2 : ((b == 128 : Bool) = (false)) := by first | assumption | (rw [w64 (by omega) (by omega)]; done) | (simp [bitsF, nextF, *]; done) | omega | (rw [w64 (by omega) (by omega)]; first | (simp; done) | omega | (simp; omega)) | (simp [bitsF, nextF, *]; rfl) | (simp [bitsF, nextF, *]; omega)
  have d3 : ((decide (b > 31) : Bool) = (false)) := by first | assumption | (rw [w64 (by omega) (by omega)]; done) | (simp [bitsF, nextF, *]; done) | omega | (rw [w64 (by omega) (by omega)]; first | (simp; done) | omega | (simp; omega)) | (simp [bitsF, nextF, *]; rfl) | (simp [bitsF, nextF, *]; omega)
  have d4 : ((3 != 3 : Bool) = (false)) := by first | assumption | (rw [w64 (by omega) (by omega)]; done) | (simp [bitsF, nextF, *]; done) | omega | (rw [w64 (by omega) (by omega)]; first | (simp; done) | omega | (simp; omega)) | (simp [bitsF, nextF, *]; rfl) | (simp [bitsF, nextF, *]; omega)
  have d5 : (Int.NonNeg (b - 0 : Int)) := by exact Int.le_def.1 (by omega : (0 : Int) ≤ b)
  have d6 : (((IntKind.u32.wrap (↑(BitVec.ofInt IntKind.u32.bits (IntKind.u32.wrap (↑(BitVec.ofInt IntKind.u32.bits (IntKind.u32.wrap (↑(BitVec.ofInt IntKind.u32.bits (IntKind.u32.wrap (↑(BitVec.ofInt IntKind.u32.bits (IntKind.u32.wrap a1) ||| BitVec.ofInt IntKind.u32.bits (IntKind.u32.wrap (IntKind.u32.wrap a2 * 2 ^ min (Int.toNat 8) IntKind.u32.bits))).toNat : Int)) ||| BitVec.ofInt IntKind.u32.bits (IntKind.u32.wrap (IntKind.u32.wrap a3 * 2 ^ min (Int.toNat 16) IntKind.u32.bits))).toNat : Int)) ||| BitVec.ofInt IntKind.u32.bits (IntKind.u32.wrap (IntKind.u32.wrap a4 * 2 ^ min (Int.toNat 24) IntKind.u32.bits))).toNat : Int)) ^^^ BitVec.ofInt IntKind.u32.bits i3).toNat : Int)).fdiv (2 ^ min b.toNat IntKind.u32.bits) != 0 : Bool) = (false)) := by first | assumption | (rw [w64 (by omega) (by omega)]; done) | (simp [bitsF, nextF, *]; done) | omega | (rw [w64 (by omega) (by omega)]; first | (simp; done) | omega | (simp; omega)) | (simp [bitsF, nextF, *]; rfl) | (simp [bitsF, nextF, *]; omega)
  have d7 : ((b == 0 : Bool) = (false)) := by first | assumption | (rw [w64 (by omega) (by omega)]; done) | (simp [bitsF, nextF, *]; done) | omega | (rw [w64 (by omega) (by omega)]; first | (simp; done) | omega | (simp; omega)) | (simp [bitsF, nextF, *]; rfl) | (simp [bitsF, nextF, *]; omega)
  rw [e]
  exact ⟨⟨⟨⟨⟨⟨⟨⟨⟨⟨⟨⟨⟨⟨⟨⟨⟨⟨⟨⟨⟨⟨⟨⟨⟨⟨⟨⟨⟨⟨⟨⟨⟨True.intro, rfl⟩, rfl⟩, d1⟩, d2⟩, d3⟩, d3⟩, d3⟩, d3⟩, d3⟩, d3⟩, d3⟩, d4⟩, d4⟩, d4⟩, d5⟩, rfl⟩, rfl⟩, rfl⟩, rfl⟩, rfl⟩, rfl⟩, rfl⟩, rfl⟩, rfl⟩, d6⟩, d7⟩, rfl⟩, rfl⟩, rfl⟩, rfl⟩, rfl⟩, rfl⟩, rfl⟩

noncomputable def st_HZ3 (i0 i1 i2 i3 : Int) (a1 a2 a3 a4 t : Int) : Option Prop := fitOne (foundV) (nodeC i0 i1 i2 i3 255 (.sbool (t == 0)) t (.bool false)) (rHearC i0 i1 i2 i3 0 255 a1 a2 a3 a4 t 3 [false, false, false, false, false, false, false, false, false, false, false, false, false, true] 3)
set_option maxRecDepth 100000 in
theorem g_HZ3 (i0 i1 i2 i3 : Int) (a1 a2 a3 a4 t : Int) (h5 : (xorT a1 a2 a3 a4 i3 0 != 0) = false) : holdsO (st_HZ3 i0 i1 i2 i3 a1 a2 a3 a4 t) := by
  have e : holdsO (st_HZ3 i0 i1 i2 i3 a1 a2 a3 a4 t) = (((((((((((((((((((((((((((((((((True ∧
  ((0 : Int) = (0))) ∧
  ((t : Int) = (t))) ∧
  ((!(255 == 255 && (255 == 255 && true)) : Bool) = (false))) ∧
  ((0 == 128 : Bool) = (false))) ∧
  ((decide (0 > 31) : Bool) = (false))) ∧
  ((decide (0 > 31) : Bool) = (false))) ∧
  ((decide (0 > 31) : Bool) = (false))) ∧
  ((decide (0 > 31) : Bool) = (false))) ∧
  ((decide (0 > 31) : Bool) = (false))) ∧
  ((decide (0 > 31) : Bool) = (false))) ∧
  ((decide (0 > 31) : Bool) = (false))) ∧
  ((3 != 3 : Bool) = (false))) ∧
  ((3 != 3 : Bool) = (false))) ∧
  ((3 != 3 : Bool) = (false))) ∧
  (Int.NonNeg (0 - 0 : Int))) ∧
  ((3 : Int) = (3))) ∧
  ((a1 : Int) = (a1))) ∧
  ((a2 : Int) = (a2))) ∧
  ((a3 : Int) = (a3))) ∧
  ((a4 : Int) = (a4))) ∧
  ((0 : Int) = (0))) ∧
  ((t : Int) = (t))) ∧
  ((i3 : Int) = (i3))) ∧
  ((i3 : Int) = (i3))) ∧
  (((IntKind.u32.wrap (↑(BitVec.ofInt IntKind.u32.bits (IntKind.u32.wrap (↑(BitVec.ofInt IntKind.u32.bits (IntKind.u32.wrap (↑(BitVec.ofInt IntKind.u32.bits (IntKind.u32.wrap (↑(BitVec.ofInt IntKind.u32.bits (IntKind.u32.wrap a1) ||| BitVec.ofInt IntKind.u32.bits (IntKind.u32.wrap (IntKind.u32.wrap a2 * 2 ^ min (Int.toNat 8) IntKind.u32.bits))).toNat : Int)) ||| BitVec.ofInt IntKind.u32.bits (IntKind.u32.wrap (IntKind.u32.wrap a3 * 2 ^ min (Int.toNat 16) IntKind.u32.bits))).toNat : Int)) ||| BitVec.ofInt IntKind.u32.bits (IntKind.u32.wrap (IntKind.u32.wrap a4 * 2 ^ min (Int.toNat 24) IntKind.u32.bits))).toNat : Int)) ^^^ BitVec.ofInt IntKind.u32.bits i3).toNat : Int)).fdiv (2 ^ min (Int.toNat 0) IntKind.u32.bits) != 0 : Bool) = (false))) ∧
  ((0 == 0 : Bool) = (true))) ∧
  ((i0 : Int) = (i0))) ∧
  ((i1 : Int) = (i1))) ∧
  ((i2 : Int) = (i2))) ∧
  ((i3 : Int) = (i3))) ∧
  ((255 : Int) = (255))) ∧
  ((t == 0 : Bool) = (t == 0))) ∧
  ((t : Int) = (t))) := by kernel_rfl
  have d1 : ((!(255 == 255 && (255 == 255 && true)) : Bool) = (false)) := by first | assumption | (rw [w64 (by omega) (by omega)]; done) | (simp [bitsF, nextF, *]; done) | omega | (rw [w64 (by omega) (by omega)]; first | (simp; done) | omega | (simp; omega)) | (simp [bitsF, nextF, *]; rfl) | (simp [bitsF, nextF, *]; omega)
  have d2 : ((0 == 128 : Bool) = (false)) := by first | assumption | (rw [w64 (by omega) (by omega)]; done) | (simp [bitsF, nextF, *]; done) | omega | (rw [w64 (by omega) (by omega)]; first | (simp; done) | omega | (simp; omega)) | (simp [bitsF, nextF, *]; rfl) | (simp [bitsF, nextF, *]; omega)
  have d3 : ((decide (0 > 31) : Bool) = (false)) := by first | assumption | (rw [w64 (by omega) (by omega)]; done) | (simp [bitsF, nextF, *]; done) | omega | (rw [w64 (by omega) (by omega)]; first | (simp; done) | omega | (simp; omega)) | (simp [bitsF, nextF, *]; rfl) | (simp [bitsF, nextF, *]; omega)
  have d4 : ((3 != 3 : Bool) = (false)) := by first | assumption | (rw [w64 (by omega) (by omega)]; done) | (simp [bitsF, nextF, *]; done) | omega | (rw [w64 (by omega) (by omega)]; first | (simp; done) | omega | (simp; omega)) | (simp [bitsF, nextF, *]; rfl) | (simp [bitsF, nextF, *]; omega)
  have d5 : (Int.NonNeg (0 - 0 : Int)) := by exact Int.le_def.1 (by omega : (0 : Int) ≤ 0)
  have d6 : (((IntKind.u32.wrap (↑(BitVec.ofInt IntKind.u32.bits (IntKind.u32.wrap (↑(BitVec.ofInt IntKind.u32.bits (IntKind.u32.wrap (↑(BitVec.ofInt IntKind.u32.bits (IntKind.u32.wrap (↑(BitVec.ofInt IntKind.u32.bits (IntKind.u32.wrap a1) ||| BitVec.ofInt IntKind.u32.bits (IntKind.u32.wrap (IntKind.u32.wrap a2 * 2 ^ min (Int.toNat 8) IntKind.u32.bits))).toNat : Int)) ||| BitVec.ofInt IntKind.u32.bits (IntKind.u32.wrap (IntKind.u32.wrap a3 * 2 ^ min (Int.toNat 16) IntKind.u32.bits))).toNat : Int)) ||| BitVec.ofInt IntKind.u32.bits (IntKind.u32.wrap (IntKind.u32.wrap a4 * 2 ^ min (Int.toNat 24) IntKind.u32.bits))).toNat : Int)) ^^^ BitVec.ofInt IntKind.u32.bits i3).toNat : Int)).fdiv (2 ^ min (Int.toNat 0) IntKind.u32.bits) != 0 : Bool) = (false)) := by first | assumption | (rw [w64 (by omega) (by omega)]; done) | (simp [bitsF, nextF, *]; done) | omega | (rw [w64 (by omega) (by omega)]; first | (simp; done) | omega | (simp; omega)) | (simp [bitsF, nextF, *]; rfl) | (simp [bitsF, nextF, *]; omega)
  have d7 : ((0 == 0 : Bool) = (true)) := by first | assumption | (rw [w64 (by omega) (by omega)]; done) | (simp [bitsF, nextF, *]; done) | omega | (rw [w64 (by omega) (by omega)]; first | (simp; done) | omega | (simp; omega)) | (simp [bitsF, nextF, *]; rfl) | (simp [bitsF, nextF, *]; omega)
  rw [e]
  exact ⟨⟨⟨⟨⟨⟨⟨⟨⟨⟨⟨⟨⟨⟨⟨⟨⟨⟨⟨⟨⟨⟨⟨⟨⟨⟨⟨⟨⟨⟨⟨⟨⟨True.intro, rfl⟩, rfl⟩, d1⟩, d2⟩, d3⟩, d3⟩, d3⟩, d3⟩, d3⟩, d3⟩, d3⟩, d4⟩, d4⟩, d4⟩, d5⟩, rfl⟩, rfl⟩, rfl⟩, rfl⟩, rfl⟩, rfl⟩, rfl⟩, rfl⟩, rfl⟩, d6⟩, d7⟩, rfl⟩, rfl⟩, rfl⟩, rfl⟩, rfl⟩, rfl⟩, rfl⟩

noncomputable def st_SetY (i0 i1 i2 i3 : Int) (x u pl : Int) : Option Prop := fitOne (setV) (nodeC i0 i1 i2 i3 u (.sbool true) pl (.bool false)) (rSet i0 i1 i2 i3 x u pl true [true, true, true, true, true, true, true])
set_option maxRecDepth 100000 in
theorem g_SetY (i0 i1 i2 i3 : Int) (x u pl : Int) (h1 : 1 ≤ u) (h2 : u ≤ 127) : holdsO (st_SetY i0 i1 i2 i3 x u pl) := by
  have e : holdsO (st_SetY i0 i1 i2 i3 x u pl) = ((((((((((((((True ∧
  ((true : Bool) = (true))) ∧
  ((decide (u ≥ 1) : Bool) = (true))) ∧
  ((decide (u ≥ 1) : Bool) = (true))) ∧
  ((decide (u ≥ 1) : Bool) = (true))) ∧
  ((decide (u ≤ 127) : Bool) = (true))) ∧
  ((decide (u ≤ 127) : Bool) = (true))) ∧
  ((decide (u ≤ 127) : Bool) = (true))) ∧
  ((i0 : Int) = (i0))) ∧
  ((i1 : Int) = (i1))) ∧
  ((i2 : Int) = (i2))) ∧
  ((i3 : Int) = (i3))) ∧
  ((u : Int) = (u))) ∧
  ((true : Bool) = (true))) ∧
  ((pl : Int) = (pl))) := by kernel_rfl
  have d1 : ((decide (u ≥ 1) : Bool) = (true)) := by first | assumption | (rw [w64 (by omega) (by omega)]; done) | (simp [bitsF, nextF, *]; done) | omega | (rw [w64 (by omega) (by omega)]; first | (simp; done) | omega | (simp; omega)) | (simp [bitsF, nextF, *]; rfl) | (simp [bitsF, nextF, *]; omega)
  have d2 : ((decide (u ≤ 127) : Bool) = (true)) := by first | assumption | (rw [w64 (by omega) (by omega)]; done) | (simp [bitsF, nextF, *]; done) | omega | (rw [w64 (by omega) (by omega)]; first | (simp; done) | omega | (simp; omega)) | (simp [bitsF, nextF, *]; rfl) | (simp [bitsF, nextF, *]; omega)
  rw [e]
  exact ⟨⟨⟨⟨⟨⟨⟨⟨⟨⟨⟨⟨⟨⟨True.intro, rfl⟩, d1⟩, d1⟩, d1⟩, d2⟩, d2⟩, d2⟩, rfl⟩, rfl⟩, rfl⟩, rfl⟩, rfl⟩, rfl⟩, rfl⟩

noncomputable def st_SetN (i0 i1 i2 i3 : Int) (x u pl : Int) : Option Prop := fitOne (noV) (nodeC i0 i1 i2 i3 x (.sbool false) pl (.bool false)) (rSet i0 i1 i2 i3 x u pl false [false])
set_option maxRecDepth 100000 in
theorem g_SetN (i0 i1 i2 i3 : Int) (x u pl : Int)  : holdsO (st_SetN i0 i1 i2 i3 x u pl) := by
  have e : holdsO (st_SetN i0 i1 i2 i3 x u pl) = ((((((((True ∧
  ((false : Bool) = (false))) ∧
  ((i0 : Int) = (i0))) ∧
  ((i1 : Int) = (i1))) ∧
  ((i2 : Int) = (i2))) ∧
  ((i3 : Int) = (i3))) ∧
  ((x : Int) = (x))) ∧
  ((false : Bool) = (false))) ∧
  ((pl : Int) = (pl))) := by kernel_rfl
  rw [e]
  exact ⟨⟨⟨⟨⟨⟨⟨⟨True.intro, rfl⟩, rfl⟩, rfl⟩, rfl⟩, rfl⟩, rfl⟩, rfl⟩, rfl⟩

noncomputable def st_KeepY (i0 i1 i2 i3 : Int) (x pl : Int) : Option Prop := fitOne (noV) (nodeC i0 i1 i2 i3 x (.sbool true) pl (.sbool true)) (rKeep i0 i1 i2 i3 x pl true [true])
set_option maxRecDepth 100000 in
theorem g_KeepY (i0 i1 i2 i3 : Int) (x pl : Int)  : holdsO (st_KeepY i0 i1 i2 i3 x pl) := by
  have e : holdsO (st_KeepY i0 i1 i2 i3 x pl) = (((((((((True ∧
  ((true : Bool) = (true))) ∧
  ((i0 : Int) = (i0))) ∧
  ((i1 : Int) = (i1))) ∧
  ((i2 : Int) = (i2))) ∧
  ((i3 : Int) = (i3))) ∧
  ((x : Int) = (x))) ∧
  ((true : Bool) = (true))) ∧
  ((pl : Int) = (pl))) ∧
  ((true : Bool) = (true))) := by kernel_rfl
  rw [e]
  exact ⟨⟨⟨⟨⟨⟨⟨⟨⟨True.intro, rfl⟩, rfl⟩, rfl⟩, rfl⟩, rfl⟩, rfl⟩, rfl⟩, rfl⟩, rfl⟩

noncomputable def st_KeepN (i0 i1 i2 i3 : Int) (x pl : Int) : Option Prop := fitOne (noV) (nodeC i0 i1 i2 i3 x (.sbool false) pl (.sbool false)) (rKeep i0 i1 i2 i3 x pl false [false])
set_option maxRecDepth 100000 in
theorem g_KeepN (i0 i1 i2 i3 : Int) (x pl : Int)  : holdsO (st_KeepN i0 i1 i2 i3 x pl) := by
  have e : holdsO (st_KeepN i0 i1 i2 i3 x pl) = (((((((((True ∧
  ((false : Bool) = (false))) ∧
  ((i0 : Int) = (i0))) ∧
  ((i1 : Int) = (i1))) ∧
  ((i2 : Int) = (i2))) ∧
  ((i3 : Int) = (i3))) ∧
  ((x : Int) = (x))) ∧
  ((false : Bool) = (false))) ∧
  ((pl : Int) = (pl))) ∧
  ((false : Bool) = (false))) := by kernel_rfl
  rw [e]
  exact ⟨⟨⟨⟨⟨⟨⟨⟨⟨True.intro, rfl⟩, rfl⟩, rfl⟩, rfl⟩, rfl⟩, rfl⟩, rfl⟩, rfl⟩, rfl⟩

noncomputable def st_Sw (i0 i1 i2 i3 : Int) (x pl : Int) (c : Bool) : Option Prop := fitOne (noV) (nodeC i0 i1 i2 i3 x (.sbool false) pl (.bool false)) (rSwitch i0 i1 i2 i3 x pl c [])
set_option maxRecDepth 100000 in
theorem g_Sw (i0 i1 i2 i3 : Int) (x pl : Int) (c : Bool)  : holdsO (st_Sw i0 i1 i2 i3 x pl c) := by
  have e : holdsO (st_Sw i0 i1 i2 i3 x pl c) = (((((((True ∧
  ((i0 : Int) = (i0))) ∧
  ((i1 : Int) = (i1))) ∧
  ((i2 : Int) = (i2))) ∧
  ((i3 : Int) = (i3))) ∧
  ((x : Int) = (x))) ∧
  ((false : Bool) = (Nat.beq 0 1))) ∧
  ((pl : Int) = (pl))) := by kernel_rfl
  have d1 : ((false : Bool) = (Nat.beq 0 1)) := by first | assumption | (rw [w64 (by omega) (by omega)]; done) | (simp [bitsF, nextF, *]; done) | omega | (rw [w64 (by omega) (by omega)]; first | (simp; done) | omega | (simp; omega)) | (simp [bitsF, nextF, *]; rfl) | (simp [bitsF, nextF, *]; omega)
  rw [e]
  exact ⟨⟨⟨⟨⟨⟨⟨True.intro, rfl⟩, rfl⟩, rfl⟩, rfl⟩, rfl⟩, d1⟩, rfl⟩

end Go.Proofs.YtpdgklkcjegkfaaGreat
