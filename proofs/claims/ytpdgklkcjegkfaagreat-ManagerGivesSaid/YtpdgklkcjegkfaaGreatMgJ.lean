/-
  ManagerGives: rounds of three nodes, one given.
-/
import Derived.Test.YtpdgklkcjegkfaaGreatMgF
set_option linter.unusedSimpArgs false
set_option linter.unusedVariables false
namespace Go.Proofs.YtpdgklkcjegkfaaGreat
open Go Go.Sx

set_option maxRecDepth 100000 in
theorem g_Sc_3_1_000 (b : BS) (s : SR) (n1 n2 n3 : ND) (g1 : GV) (a1 a2 a3 a4 fb fu ft : Int) (H : HB b) (h : HS s fb fu) (c1 : n1.c = false) (r1 : n1.ok a1 a2 a3 a4 fb fu = false) (c2 : n2.c = false) (r2 : n2.ok a1 a2 a3 a4 fb fu = false) (c3 : n3.c = false) (r3 : n3.ok a1 a2 a3 a4 fb fu = false) (t : HT (s.told false)) : Holds (fitOA (head b.next (s.told false).ask (s.told false) [n1.hears false fb fu ft, n2.hears false fb fu ft, n3.hears false fb fu ft] [g1]) none (runB b (.s a1 a2 a3 a4 fb fu ft) s [n1, n2, n3] [g1] [true, true, true, true, false, false, false, true, false, false, false, false])) := by
  exact Holds.of (p := ((((((((((((((((((((((((((((((((((((((((((((((((((((((((((((((((((((((((((((((((((((((((True∧
((b.kl : Bool) = (true)))∧
((b.kl : Bool) = (true)))∧
((b.kl : Bool) = (true)))∧
((b.kl : Bool) = (true)))∧
(((n1.c : Bool) = (false))∧
((Int.NonNeg (fu - 0 : Int))∧
((Int.NonNeg (3 - fu : Int))∧
((Int.NonNeg (fb - 0 : Int))∧
((n1.ok a1 a2 a3 a4 fb fu : Bool) = (false)))))))∧
ident a1)∧
ident a2)∧
ident a3)∧
ident a4)∧
ident fb)∧
ident fu)∧
ident ft)∧
(((n2.c : Bool) = (false))∧
((Int.NonNeg (fu - 0 : Int))∧
((Int.NonNeg (3 - fu : Int))∧
((Int.NonNeg (fb - 0 : Int))∧
((n2.ok a1 a2 a3 a4 fb fu : Bool) = (false)))))))∧
ident a1)∧
ident a2)∧
ident a3)∧
ident a4)∧
ident fb)∧
ident fu)∧
ident ft)∧
(((n3.c : Bool) = (false))∧
((Int.NonNeg (fu - 0 : Int))∧
((Int.NonNeg (3 - fu : Int))∧
((Int.NonNeg (fb - 0 : Int))∧
((n3.ok a1 a2 a3 a4 fb fu : Bool) = (false)))))))∧
ident a1)∧
ident a2)∧
ident a3)∧
ident a4)∧
ident fb)∧
ident fu)∧
ident ft)∧
ident b.mw)∧
ident b.ak)∧
((decide (b.mw ≥ b.aw) : Bool) = (true)))∧
((Int.NonNeg (s.p - 0 : Int))∧
((Int.NonNeg (3 - s.p : Int))∧
((Int.NonNeg (s.b - -1 : Int))∧
((Int.NonNeg (32 - s.b : Int))∧
(((s.o : Bool) = (false))∧
((s.f : Bool) = (false))))))))∧
(((s.told false).f : Bool) = (false)))∧
(((s.told false).o : Bool) = (false)))∧
(((s.told false).o : Bool) = (false)))∧
(((s.told false).o : Bool) = (false)))∧
((Int.NonNeg ((s.told false).p - 0 : Int))∧
((Int.NonNeg (3 - (s.told false).p : Int))∧
((Int.NonNeg ((s.told false).b - -1 : Int))∧
((Int.NonNeg (32 - (s.told false).b : Int))∧
((((s.told false).o : Bool) = (false))∧
(((s.told false).f : Bool) = (false))))))))∧
ident b.f)∧
ident b.g)∧
((b.next.now : Int) = (b.nw)))∧
((b.next.k : Int) = (b.kw)))∧
((b.next.ak : Int) = (b.mw)))∧
ident b.h)∧
((b.next.now : Int) = (b.mw)))∧
ident b.nx)∧
((b.next.kp : Bool) = (b.kp)))∧
ident ((s.told false).i0))∧
ident ((s.told false).i1))∧
ident ((s.told false).i2))∧
ident ((s.told false).i3))∧
ident ((s.told false).p))∧
ident ((s.told false).b))∧
(((s.told false).o : Bool) = (false)))∧
(((s.told false).f : Bool) = (false)))∧
ident n1.i0)∧
ident n1.i1)∧
ident n1.i2)∧
ident n1.i3)∧
ident n1.x)∧
(((n1.hears false fb fu ft).c : Bool) = (false)))∧
ident n1.pl)∧
ident n2.i0)∧
ident n2.i1)∧
ident n2.i2)∧
ident n2.i3)∧
ident n2.x)∧
(((n2.hears false fb fu ft).c : Bool) = (false)))∧
ident n2.pl)∧
ident n3.i0)∧
ident n3.i1)∧
ident n3.i2)∧
ident n3.i3)∧
ident n3.x)∧
(((n3.hears false fb fu ft).c : Bool) = (false)))∧
ident n3.pl)∧
ident (IntKind.u8.wrap ((s.told false).sel)))∧
ident (byK ((s.told false).sel) 8))∧
ident (byK ((s.told false).sel) 16))∧
ident (byK ((s.told false).sel) 24))∧
ident (bitsF ((s.told false).b)))∧
ident ((s.told false).p))∧
ident (nextF ((s.told false).p) ((s.told false).b)))∧
ident g1.i0)∧
ident g1.i1)∧
ident g1.i2)∧
ident g1.i3)∧
ident g1.a)∧
((g1.kp : Bool) = (g1.kp)))) (by kernel_rfl) ⟨⟨⟨⟨⟨⟨⟨⟨⟨⟨⟨⟨⟨⟨⟨⟨⟨⟨⟨⟨⟨⟨⟨⟨⟨⟨⟨⟨⟨⟨⟨⟨⟨⟨⟨⟨⟨⟨⟨⟨⟨⟨⟨⟨⟨⟨⟨⟨⟨⟨⟨⟨⟨⟨⟨⟨⟨⟨⟨⟨⟨⟨⟨⟨⟨⟨⟨⟨⟨⟨⟨⟨⟨⟨⟨⟨⟨⟨⟨⟨⟨⟨⟨⟨⟨⟨⟨⟨⟨⟩,H.kl⟩,H.kl⟩,H.kl⟩,H.kl⟩,⟨c1,⟨le1 h.u0,⟨le1 h.u3,⟨le1 h.b0,r1⟩⟩⟩⟩⟩,rfl⟩,rfl⟩,rfl⟩,rfl⟩,rfl⟩,rfl⟩,rfl⟩,⟨c2,⟨le1 h.u0,⟨le1 h.u3,⟨le1 h.b0,r2⟩⟩⟩⟩⟩,rfl⟩,rfl⟩,rfl⟩,rfl⟩,rfl⟩,rfl⟩,rfl⟩,⟨c3,⟨le1 h.u0,⟨le1 h.u3,⟨le1 h.b0,r3⟩⟩⟩⟩⟩,rfl⟩,rfl⟩,rfl⟩,rfl⟩,rfl⟩,rfl⟩,rfl⟩,rfl⟩,rfl⟩,H.due⟩,⟨le1 h.p0,⟨le1 h.p3,⟨le1 h.b1,⟨le1 h.b32,⟨h.o,h.f⟩⟩⟩⟩⟩⟩,t.f⟩,t.o⟩,t.o⟩,t.o⟩,⟨le1 t.p0,⟨le1 t.p3,⟨le1 t.b1,⟨le1 t.b32,⟨t.o,t.f⟩⟩⟩⟩⟩⟩,rfl⟩,rfl⟩,H.nw⟩,H.kw⟩,H.mw⟩,rfl⟩,H.mw⟩,rfl⟩,rfl⟩,rfl⟩,rfl⟩,rfl⟩,rfl⟩,rfl⟩,rfl⟩,t.o⟩,t.f⟩,rfl⟩,rfl⟩,rfl⟩,rfl⟩,rfl⟩,rfl⟩,rfl⟩,rfl⟩,rfl⟩,rfl⟩,rfl⟩,rfl⟩,rfl⟩,rfl⟩,rfl⟩,rfl⟩,rfl⟩,rfl⟩,rfl⟩,rfl⟩,rfl⟩,rfl⟩,rfl⟩,rfl⟩,rfl⟩,rfl⟩,rfl⟩,rfl⟩,rfl⟩,rfl⟩,rfl⟩,rfl⟩,rfl⟩,rfl⟩

set_option maxRecDepth 100000 in
theorem g_Sd_3_1_000 (b : BS) (s : SR) (n1 n2 n3 : ND) (g1 : GV) (a1 a2 a3 a4 fb fu ft : Int) (H : HB b) (h : HS s fb fu) (c1 : n1.c = false) (r1 : n1.ok a1 a2 a3 a4 fb fu = false) (c2 : n2.c = false) (r2 : n2.ok a1 a2 a3 a4 fb fu = false) (c3 : n3.c = false) (r3 : n3.ok a1 a2 a3 a4 fb fu = false) (tf : (s.told false).f = false) (to : (s.told false).o = true) (h32 : (s.b == 32) = true) : Holds (fitOA (head b.over (.d 0) (s.told false) [n1.hears false fb fu ft, n2.hears false fb fu ft, n3.hears false fb fu ft] [g1]) none (runB b (.s a1 a2 a3 a4 fb fu ft) s [n1, n2, n3] [g1] [true, true, true, true, false, false, false, true, false, true, true, true])) := by
  exact Holds.of (p := (((((((((((((((((((((((((((((((((((((((((((((((((((((((((((((((((((((((((((((((((True∧
((b.kl : Bool) = (true)))∧
((b.kl : Bool) = (true)))∧
((b.kl : Bool) = (true)))∧
((b.kl : Bool) = (true)))∧
(((n1.c : Bool) = (false))∧
((Int.NonNeg (fu - 0 : Int))∧
((Int.NonNeg (3 - fu : Int))∧
((Int.NonNeg (fb - 0 : Int))∧
((n1.ok a1 a2 a3 a4 fb fu : Bool) = (false)))))))∧
ident a1)∧
ident a2)∧
ident a3)∧
ident a4)∧
ident fb)∧
ident fu)∧
ident ft)∧
(((n2.c : Bool) = (false))∧
((Int.NonNeg (fu - 0 : Int))∧
((Int.NonNeg (3 - fu : Int))∧
((Int.NonNeg (fb - 0 : Int))∧
((n2.ok a1 a2 a3 a4 fb fu : Bool) = (false)))))))∧
ident a1)∧
ident a2)∧
ident a3)∧
ident a4)∧
ident fb)∧
ident fu)∧
ident ft)∧
(((n3.c : Bool) = (false))∧
((Int.NonNeg (fu - 0 : Int))∧
((Int.NonNeg (3 - fu : Int))∧
((Int.NonNeg (fb - 0 : Int))∧
((n3.ok a1 a2 a3 a4 fb fu : Bool) = (false)))))))∧
ident a1)∧
ident a2)∧
ident a3)∧
ident a4)∧
ident fb)∧
ident fu)∧
ident ft)∧
ident b.mw)∧
ident b.ak)∧
((decide (b.mw ≥ b.aw) : Bool) = (true)))∧
((Int.NonNeg (s.p - 0 : Int))∧
((Int.NonNeg (3 - s.p : Int))∧
((Int.NonNeg (s.b - -1 : Int))∧
((Int.NonNeg (32 - s.b : Int))∧
(((s.o : Bool) = (false))∧
((s.f : Bool) = (false))))))))∧
(((s.told false).f : Bool) = (false)))∧
(((s.told false).o : Bool) = (true)))∧
(((s.told false).o : Bool) = (true)))∧
((s.b == 32 : Bool) = (true)))∧
ident b.f)∧
ident b.g)∧
((b.over.now : Int) = (b.nw)))∧
((b.over.k : Int) = (b.kw)))∧
ident b.ak)∧
ident b.h)∧
((b.over.now : Int) = (b.mw)))∧
ident b.nx)∧
((b.over.kp : Bool) = (b.kp)))∧
ident 0)∧
ident ((s.told false).i0))∧
ident ((s.told false).i1))∧
ident ((s.told false).i2))∧
ident ((s.told false).i3))∧
ident ((s.told false).p))∧
ident ((s.told false).b))∧
(((s.told false).o : Bool) = ((s.told false).o)))∧
(((s.told false).f : Bool) = ((s.told false).f)))∧
ident n1.i0)∧
ident n1.i1)∧
ident n1.i2)∧
ident n1.i3)∧
ident n1.x)∧
(((n1.hears false fb fu ft).c : Bool) = (false)))∧
ident n1.pl)∧
ident n2.i0)∧
ident n2.i1)∧
ident n2.i2)∧
ident n2.i3)∧
ident n2.x)∧
(((n2.hears false fb fu ft).c : Bool) = (false)))∧
ident n2.pl)∧
ident n3.i0)∧
ident n3.i1)∧
ident n3.i2)∧
ident n3.i3)∧
ident n3.x)∧
(((n3.hears false fb fu ft).c : Bool) = (false)))∧
ident n3.pl)∧
ident g1.i0)∧
ident g1.i1)∧
ident g1.i2)∧
ident g1.i3)∧
ident g1.a)∧
((g1.kp : Bool) = (g1.kp)))) (by kernel_rfl) ⟨⟨⟨⟨⟨⟨⟨⟨⟨⟨⟨⟨⟨⟨⟨⟨⟨⟨⟨⟨⟨⟨⟨⟨⟨⟨⟨⟨⟨⟨⟨⟨⟨⟨⟨⟨⟨⟨⟨⟨⟨⟨⟨⟨⟨⟨⟨⟨⟨⟨⟨⟨⟨⟨⟨⟨⟨⟨⟨⟨⟨⟨⟨⟨⟨⟨⟨⟨⟨⟨⟨⟨⟨⟨⟨⟨⟨⟨⟨⟨⟨⟨⟩,H.kl⟩,H.kl⟩,H.kl⟩,H.kl⟩,⟨c1,⟨le1 h.u0,⟨le1 h.u3,⟨le1 h.b0,r1⟩⟩⟩⟩⟩,rfl⟩,rfl⟩,rfl⟩,rfl⟩,rfl⟩,rfl⟩,rfl⟩,⟨c2,⟨le1 h.u0,⟨le1 h.u3,⟨le1 h.b0,r2⟩⟩⟩⟩⟩,rfl⟩,rfl⟩,rfl⟩,rfl⟩,rfl⟩,rfl⟩,rfl⟩,⟨c3,⟨le1 h.u0,⟨le1 h.u3,⟨le1 h.b0,r3⟩⟩⟩⟩⟩,rfl⟩,rfl⟩,rfl⟩,rfl⟩,rfl⟩,rfl⟩,rfl⟩,rfl⟩,rfl⟩,H.due⟩,⟨le1 h.p0,⟨le1 h.p3,⟨le1 h.b1,⟨le1 h.b32,⟨h.o,h.f⟩⟩⟩⟩⟩⟩,tf⟩,to⟩,to⟩,h32⟩,rfl⟩,rfl⟩,H.nw⟩,H.kw⟩,rfl⟩,rfl⟩,H.mw⟩,rfl⟩,rfl⟩,rfl⟩,rfl⟩,rfl⟩,rfl⟩,rfl⟩,rfl⟩,rfl⟩,rfl⟩,rfl⟩,rfl⟩,rfl⟩,rfl⟩,rfl⟩,rfl⟩,rfl⟩,rfl⟩,rfl⟩,rfl⟩,rfl⟩,rfl⟩,rfl⟩,rfl⟩,rfl⟩,rfl⟩,rfl⟩,rfl⟩,rfl⟩,rfl⟩,rfl⟩,rfl⟩,rfl⟩,rfl⟩,rfl⟩,rfl⟩,rfl⟩,rfl⟩

set_option maxRecDepth 100000 in
theorem g_Se_3_1_000 (b : BS) (s : SR) (n1 n2 n3 : ND) (g1 : GV) (a1 a2 a3 a4 fb fu ft : Int) (H : HB b) (h : HS s fb fu) (c1 : n1.c = false) (r1 : n1.ok a1 a2 a3 a4 fb fu = false) (c2 : n2.c = false) (r2 : n2.ok a1 a2 a3 a4 fb fu = false) (c3 : n3.c = false) (r3 : n3.ok a1 a2 a3 a4 fb fu = false) (tf : (s.told false).f = false) (to : (s.told false).o = true) (h32 : (s.b == 32) = false) : Holds (fitOA (head b.over (.d 5) (s.told false) [n1.hears false fb fu ft, n2.hears false fb fu ft, n3.hears false fb fu ft] [g1]) none (runB b (.s a1 a2 a3 a4 fb fu ft) s [n1, n2, n3] [g1] [true, true, true, true, false, false, false, true, false, true, true, false, true])) := by
  exact Holds.of (p := ((((((((((((((((((((((((((((((((((((((((((((((((((((((((((((((((((((((((((((((((((True∧
((b.kl : Bool) = (true)))∧
((b.kl : Bool) = (true)))∧
((b.kl : Bool) = (true)))∧
((b.kl : Bool) = (true)))∧
(((n1.c : Bool) = (false))∧
((Int.NonNeg (fu - 0 : Int))∧
((Int.NonNeg (3 - fu : Int))∧
((Int.NonNeg (fb - 0 : Int))∧
((n1.ok a1 a2 a3 a4 fb fu : Bool) = (false)))))))∧
ident a1)∧
ident a2)∧
ident a3)∧
ident a4)∧
ident fb)∧
ident fu)∧
ident ft)∧
(((n2.c : Bool) = (false))∧
((Int.NonNeg (fu - 0 : Int))∧
((Int.NonNeg (3 - fu : Int))∧
((Int.NonNeg (fb - 0 : Int))∧
((n2.ok a1 a2 a3 a4 fb fu : Bool) = (false)))))))∧
ident a1)∧
ident a2)∧
ident a3)∧
ident a4)∧
ident fb)∧
ident fu)∧
ident ft)∧
(((n3.c : Bool) = (false))∧
((Int.NonNeg (fu - 0 : Int))∧
((Int.NonNeg (3 - fu : Int))∧
((Int.NonNeg (fb - 0 : Int))∧
((n3.ok a1 a2 a3 a4 fb fu : Bool) = (false)))))))∧
ident a1)∧
ident a2)∧
ident a3)∧
ident a4)∧
ident fb)∧
ident fu)∧
ident ft)∧
ident b.mw)∧
ident b.ak)∧
((decide (b.mw ≥ b.aw) : Bool) = (true)))∧
((Int.NonNeg (s.p - 0 : Int))∧
((Int.NonNeg (3 - s.p : Int))∧
((Int.NonNeg (s.b - -1 : Int))∧
((Int.NonNeg (32 - s.b : Int))∧
(((s.o : Bool) = (false))∧
((s.f : Bool) = (false))))))))∧
(((s.told false).f : Bool) = (false)))∧
(((s.told false).o : Bool) = (true)))∧
(((s.told false).o : Bool) = (true)))∧
((s.b == 32 : Bool) = (false)))∧
(((s.told false).o : Bool) = (true)))∧
ident b.f)∧
ident b.g)∧
((b.over.now : Int) = (b.nw)))∧
((b.over.k : Int) = (b.kw)))∧
ident b.ak)∧
ident b.h)∧
((b.over.now : Int) = (b.mw)))∧
ident b.nx)∧
((b.over.kp : Bool) = (b.kp)))∧
ident 5)∧
ident ((s.told false).i0))∧
ident ((s.told false).i1))∧
ident ((s.told false).i2))∧
ident ((s.told false).i3))∧
ident ((s.told false).p))∧
ident ((s.told false).b))∧
(((s.told false).o : Bool) = ((s.told false).o)))∧
(((s.told false).f : Bool) = ((s.told false).f)))∧
ident n1.i0)∧
ident n1.i1)∧
ident n1.i2)∧
ident n1.i3)∧
ident n1.x)∧
(((n1.hears false fb fu ft).c : Bool) = (false)))∧
ident n1.pl)∧
ident n2.i0)∧
ident n2.i1)∧
ident n2.i2)∧
ident n2.i3)∧
ident n2.x)∧
(((n2.hears false fb fu ft).c : Bool) = (false)))∧
ident n2.pl)∧
ident n3.i0)∧
ident n3.i1)∧
ident n3.i2)∧
ident n3.i3)∧
ident n3.x)∧
(((n3.hears false fb fu ft).c : Bool) = (false)))∧
ident n3.pl)∧
ident g1.i0)∧
ident g1.i1)∧
ident g1.i2)∧
ident g1.i3)∧
ident g1.a)∧
((g1.kp : Bool) = (g1.kp)))) (by kernel_rfl) ⟨⟨⟨⟨⟨⟨⟨⟨⟨⟨⟨⟨⟨⟨⟨⟨⟨⟨⟨⟨⟨⟨⟨⟨⟨⟨⟨⟨⟨⟨⟨⟨⟨⟨⟨⟨⟨⟨⟨⟨⟨⟨⟨⟨⟨⟨⟨⟨⟨⟨⟨⟨⟨⟨⟨⟨⟨⟨⟨⟨⟨⟨⟨⟨⟨⟨⟨⟨⟨⟨⟨⟨⟨⟨⟨⟨⟨⟨⟨⟨⟨⟨⟨⟩,H.kl⟩,H.kl⟩,H.kl⟩,H.kl⟩,⟨c1,⟨le1 h.u0,⟨le1 h.u3,⟨le1 h.b0,r1⟩⟩⟩⟩⟩,rfl⟩,rfl⟩,rfl⟩,rfl⟩,rfl⟩,rfl⟩,rfl⟩,⟨c2,⟨le1 h.u0,⟨le1 h.u3,⟨le1 h.b0,r2⟩⟩⟩⟩⟩,rfl⟩,rfl⟩,rfl⟩,rfl⟩,rfl⟩,rfl⟩,rfl⟩,⟨c3,⟨le1 h.u0,⟨le1 h.u3,⟨le1 h.b0,r3⟩⟩⟩⟩⟩,rfl⟩,rfl⟩,rfl⟩,rfl⟩,rfl⟩,rfl⟩,rfl⟩,rfl⟩,rfl⟩,H.due⟩,⟨le1 h.p0,⟨le1 h.p3,⟨le1 h.b1,⟨le1 h.b32,⟨h.o,h.f⟩⟩⟩⟩⟩⟩,tf⟩,to⟩,to⟩,h32⟩,to⟩,rfl⟩,rfl⟩,H.nw⟩,H.kw⟩,rfl⟩,rfl⟩,H.mw⟩,rfl⟩,rfl⟩,rfl⟩,rfl⟩,rfl⟩,rfl⟩,rfl⟩,rfl⟩,rfl⟩,rfl⟩,rfl⟩,rfl⟩,rfl⟩,rfl⟩,rfl⟩,rfl⟩,rfl⟩,rfl⟩,rfl⟩,rfl⟩,rfl⟩,rfl⟩,rfl⟩,rfl⟩,rfl⟩,rfl⟩,rfl⟩,rfl⟩,rfl⟩,rfl⟩,rfl⟩,rfl⟩,rfl⟩,rfl⟩,rfl⟩,rfl⟩,rfl⟩,rfl⟩

set_option maxRecDepth 100000 in
theorem g_W_3_1_000 (b : BS) (s : SR) (n1 n2 n3 : ND) (g1 : GV) (H : HB b) (h4 : 0 ≤ b.nx ∧ b.nx < 127) (hx : (b.nx == 127) = false) : Holds (fitOA (head b.more (SR.ask SR.new) SR.new [n1.off, n2.off, n3.off] [g1, gvOf b s]) none (runB b .w s [n1, n2, n3] [g1] [true, true, true, true, true, false])) := by
  exact Holds.of (p := ((((((((((((((((((((((((((((((((((((((((((((((((((((((((((((((((((((((((((True∧
((b.kl : Bool) = (true)))∧
((b.kl : Bool) = (true)))∧
((b.kl : Bool) = (true)))∧
((b.kl : Bool) = (true)))∧
True)∧
True)∧
True)∧
ident b.mw)∧
ident b.ak)∧
((decide (b.mw ≥ b.aw) : Bool) = (true)))∧
ident s.i0)∧
ident s.i1)∧
ident s.i2)∧
ident s.i3)∧
ident b.nx)∧
((b.kp : Bool) = (b.kp)))∧
((b.nx == 127 : Bool) = (false)))∧
ident b.f)∧
ident b.g)∧
((b.more.now : Int) = (b.nw)))∧
((b.more.k : Int) = (b.kw)))∧
((b.more.ak : Int) = (b.mw)))∧
ident b.h)∧
((b.more.now : Int) = (b.mw)))∧
((b.more.nx : Int) = (IntKind.u8.wrap (b.nx + 1))))∧
((b.more.kp : Bool) = (b.kp)))∧
ident 0)∧
ident 0)∧
ident 0)∧
ident 0)∧
ident 0)∧
ident 32)∧
((SR.new.o : Bool) = (false)))∧
((SR.new.f : Bool) = (false)))∧
ident n1.i0)∧
ident n1.i1)∧
ident n1.i2)∧
ident n1.i3)∧
ident n1.x)∧
((n1.off.c : Bool) = (false)))∧
ident n1.pl)∧
ident n2.i0)∧
ident n2.i1)∧
ident n2.i2)∧
ident n2.i3)∧
ident n2.x)∧
((n2.off.c : Bool) = (false)))∧
ident n2.pl)∧
ident n3.i0)∧
ident n3.i1)∧
ident n3.i2)∧
ident n3.i3)∧
ident n3.x)∧
((n3.off.c : Bool) = (false)))∧
ident n3.pl)∧
ident (wrapF IntKind.u8 0))∧
ident (wrapF IntKind.u8 (Int.ofNat (Nat.div 0 (Nat.pow 2 (min 8 IntKind.u32.bits))))))∧
ident (wrapF IntKind.u8 (Int.ofNat (Nat.div 0 (Nat.pow 2 (min 16 IntKind.u32.bits))))))∧
ident (wrapF IntKind.u8 (Int.ofNat (Nat.div 0 (Nat.pow 2 (min 24 IntKind.u32.bits))))))∧
ident 128)∧
ident (wrapF IntKind.u8 0))∧
ident (wrapF IntKind.u8 0))∧
ident g1.i0)∧
ident g1.i1)∧
ident g1.i2)∧
ident g1.i3)∧
ident g1.a)∧
((g1.kp : Bool) = (g1.kp)))∧
ident s.i0)∧
ident s.i1)∧
ident s.i2)∧
ident s.i3)∧
ident b.nx)∧
(((gvOf b s).kp : Bool) = (b.kp)))) (by kernel_rfl) ⟨⟨⟨⟨⟨⟨⟨⟨⟨⟨⟨⟨⟨⟨⟨⟨⟨⟨⟨⟨⟨⟨⟨⟨⟨⟨⟨⟨⟨⟨⟨⟨⟨⟨⟨⟨⟨⟨⟨⟨⟨⟨⟨⟨⟨⟨⟨⟨⟨⟨⟨⟨⟨⟨⟨⟨⟨⟨⟨⟨⟨⟨⟨⟨⟨⟨⟨⟨⟨⟨⟨⟨⟨⟨⟨⟩,H.kl⟩,H.kl⟩,H.kl⟩,H.kl⟩,⟨⟩⟩,⟨⟩⟩,⟨⟩⟩,rfl⟩,rfl⟩,H.due⟩,rfl⟩,rfl⟩,rfl⟩,rfl⟩,rfl⟩,rfl⟩,hx⟩,rfl⟩,rfl⟩,H.nw⟩,H.kw⟩,H.mw⟩,rfl⟩,H.mw⟩,w8x h4⟩,rfl⟩,rfl⟩,rfl⟩,rfl⟩,rfl⟩,rfl⟩,rfl⟩,rfl⟩,rfl⟩,rfl⟩,rfl⟩,rfl⟩,rfl⟩,rfl⟩,rfl⟩,rfl⟩,rfl⟩,rfl⟩,rfl⟩,rfl⟩,rfl⟩,rfl⟩,rfl⟩,rfl⟩,rfl⟩,rfl⟩,rfl⟩,rfl⟩,rfl⟩,rfl⟩,rfl⟩,rfl⟩,rfl⟩,rfl⟩,rfl⟩,rfl⟩,rfl⟩,rfl⟩,rfl⟩,rfl⟩,rfl⟩,rfl⟩,rfl⟩,rfl⟩,rfl⟩,rfl⟩,rfl⟩,rfl⟩,rfl⟩

set_option maxRecDepth 100000 in
theorem g_V_3_1_000 (b : BS) (s : SR) (n1 n2 n3 : ND) (g1 : GV) (H : HB b) (hx : (b.nx == 127) = true) (h4 : 128 = IntKind.u8.wrap (b.nx + 1)) : Holds (fitOA (head b.last (.d 200) SR.new [n1.off, n2.off, n3.off] [g1, gvOf b s]) none (runB b .w s [n1, n2, n3] [g1] [true, true, true, true, true, true])) := by
  exact Holds.of (p := ((((((((((((((((((((((((((((((((((((((((((((((((((((((((((((((((((((True∧
((b.kl : Bool) = (true)))∧
((b.kl : Bool) = (true)))∧
((b.kl : Bool) = (true)))∧
((b.kl : Bool) = (true)))∧
True)∧
True)∧
True)∧
ident b.mw)∧
ident b.ak)∧
((decide (b.mw ≥ b.aw) : Bool) = (true)))∧
ident s.i0)∧
ident s.i1)∧
ident s.i2)∧
ident s.i3)∧
ident b.nx)∧
((b.kp : Bool) = (b.kp)))∧
((b.nx == 127 : Bool) = (true)))∧
ident b.f)∧
ident b.g)∧
((b.last.now : Int) = (b.nw)))∧
((b.last.k : Int) = (b.kw)))∧
ident b.ak)∧
ident b.h)∧
((b.last.now : Int) = (b.mw)))∧
((b.last.nx : Int) = (IntKind.u8.wrap (b.nx + 1))))∧
((b.last.kp : Bool) = (b.kp)))∧
ident 200)∧
ident 0)∧
ident 0)∧
ident 0)∧
ident 0)∧
ident 0)∧
ident 32)∧
((SR.new.o : Bool) = (false)))∧
((SR.new.f : Bool) = (false)))∧
ident n1.i0)∧
ident n1.i1)∧
ident n1.i2)∧
ident n1.i3)∧
ident n1.x)∧
((n1.off.c : Bool) = (false)))∧
ident n1.pl)∧
ident n2.i0)∧
ident n2.i1)∧
ident n2.i2)∧
ident n2.i3)∧
ident n2.x)∧
((n2.off.c : Bool) = (false)))∧
ident n2.pl)∧
ident n3.i0)∧
ident n3.i1)∧
ident n3.i2)∧
ident n3.i3)∧
ident n3.x)∧
((n3.off.c : Bool) = (false)))∧
ident n3.pl)∧
ident g1.i0)∧
ident g1.i1)∧
ident g1.i2)∧
ident g1.i3)∧
ident g1.a)∧
((g1.kp : Bool) = (g1.kp)))∧
ident s.i0)∧
ident s.i1)∧
ident s.i2)∧
ident s.i3)∧
ident b.nx)∧
(((gvOf b s).kp : Bool) = (b.kp)))) (by kernel_rfl) ⟨⟨⟨⟨⟨⟨⟨⟨⟨⟨⟨⟨⟨⟨⟨⟨⟨⟨⟨⟨⟨⟨⟨⟨⟨⟨⟨⟨⟨⟨⟨⟨⟨⟨⟨⟨⟨⟨⟨⟨⟨⟨⟨⟨⟨⟨⟨⟨⟨⟨⟨⟨⟨⟨⟨⟨⟨⟨⟨⟨⟨⟨⟨⟨⟨⟨⟨⟨⟨⟩,H.kl⟩,H.kl⟩,H.kl⟩,H.kl⟩,⟨⟩⟩,⟨⟩⟩,⟨⟩⟩,rfl⟩,rfl⟩,H.due⟩,rfl⟩,rfl⟩,rfl⟩,rfl⟩,rfl⟩,rfl⟩,hx⟩,rfl⟩,rfl⟩,H.nw⟩,H.kw⟩,rfl⟩,rfl⟩,H.mw⟩,h4⟩,rfl⟩,rfl⟩,rfl⟩,rfl⟩,rfl⟩,rfl⟩,rfl⟩,rfl⟩,rfl⟩,rfl⟩,rfl⟩,rfl⟩,rfl⟩,rfl⟩,rfl⟩,rfl⟩,rfl⟩,rfl⟩,rfl⟩,rfl⟩,rfl⟩,rfl⟩,rfl⟩,rfl⟩,rfl⟩,rfl⟩,rfl⟩,rfl⟩,rfl⟩,rfl⟩,rfl⟩,rfl⟩,rfl⟩,rfl⟩,rfl⟩,rfl⟩,rfl⟩,rfl⟩,rfl⟩,rfl⟩,rfl⟩,rfl⟩,rfl⟩

set_option maxRecDepth 100000 in
theorem g_Sc_3_1_001 (b : BS) (s : SR) (n1 n2 n3 : ND) (g1 : GV) (a1 a2 a3 a4 fb fu ft : Int) (H : HB b) (h : HS s fb fu) (c1 : n1.c = false) (r1 : n1.ok a1 a2 a3 a4 fb fu = false) (c2 : n2.c = false) (r2 : n2.ok a1 a2 a3 a4 fb fu = false) (c3 : n3.c = false) (r3 : n3.ok a1 a2 a3 a4 fb fu = true) (t : HT (s.told true)) : Holds (fitOA (head b.next (s.told true).ask (s.told true) [n1.hears false fb fu ft, n2.hears false fb fu ft, n3.hears true fb fu ft] [g1]) none (runB b (.s a1 a2 a3 a4 fb fu ft) s [n1, n2, n3] [g1] [true, true, true, true, false, false, true, true, false, false, false, false])) := by
  exact Holds.of (p := ((((((((((((((((((((((((((((((((((((((((((((((((((((((((((((((((((((((((((((((((((((((((True∧
((b.kl : Bool) = (true)))∧
((b.kl : Bool) = (true)))∧
((b.kl : Bool) = (true)))∧
((b.kl : Bool) = (true)))∧
(((n1.c : Bool) = (false))∧
((Int.NonNeg (fu - 0 : Int))∧
((Int.NonNeg (3 - fu : Int))∧
((Int.NonNeg (fb - 0 : Int))∧
((n1.ok a1 a2 a3 a4 fb fu : Bool) = (false)))))))∧
ident a1)∧
ident a2)∧
ident a3)∧
ident a4)∧
ident fb)∧
ident fu)∧
ident ft)∧
(((n2.c : Bool) = (false))∧
((Int.NonNeg (fu - 0 : Int))∧
((Int.NonNeg (3 - fu : Int))∧
((Int.NonNeg (fb - 0 : Int))∧
((n2.ok a1 a2 a3 a4 fb fu : Bool) = (false)))))))∧
ident a1)∧
ident a2)∧
ident a3)∧
ident a4)∧
ident fb)∧
ident fu)∧
ident ft)∧
(((n3.c : Bool) = (false))∧
((Int.NonNeg (fu - 0 : Int))∧
((Int.NonNeg (3 - fu : Int))∧
((Int.NonNeg (fb - 0 : Int))∧
((n3.ok a1 a2 a3 a4 fb fu : Bool) = (true)))))))∧
ident a1)∧
ident a2)∧
ident a3)∧
ident a4)∧
ident fb)∧
ident fu)∧
ident ft)∧
ident b.mw)∧
ident b.ak)∧
((decide (b.mw ≥ b.aw) : Bool) = (true)))∧
((Int.NonNeg (s.p - 0 : Int))∧
((Int.NonNeg (3 - s.p : Int))∧
((Int.NonNeg (s.b - -1 : Int))∧
((Int.NonNeg (32 - s.b : Int))∧
(((s.o : Bool) = (false))∧
((s.f : Bool) = (false))))))))∧
(((s.told true).f : Bool) = (false)))∧
(((s.told true).o : Bool) = (false)))∧
(((s.told true).o : Bool) = (false)))∧
(((s.told true).o : Bool) = (false)))∧
((Int.NonNeg ((s.told true).p - 0 : Int))∧
((Int.NonNeg (3 - (s.told true).p : Int))∧
((Int.NonNeg ((s.told true).b - -1 : Int))∧
((Int.NonNeg (32 - (s.told true).b : Int))∧
((((s.told true).o : Bool) = (false))∧
(((s.told true).f : Bool) = (false))))))))∧
ident b.f)∧
ident b.g)∧
((b.next.now : Int) = (b.nw)))∧
((b.next.k : Int) = (b.kw)))∧
((b.next.ak : Int) = (b.mw)))∧
ident b.h)∧
((b.next.now : Int) = (b.mw)))∧
ident b.nx)∧
((b.next.kp : Bool) = (b.kp)))∧
ident ((s.told true).i0))∧
ident ((s.told true).i1))∧
ident ((s.told true).i2))∧
ident ((s.told true).i3))∧
ident ((s.told true).p))∧
ident ((s.told true).b))∧
(((s.told true).o : Bool) = (false)))∧
(((s.told true).f : Bool) = (false)))∧
ident n1.i0)∧
ident n1.i1)∧
ident n1.i2)∧
ident n1.i3)∧
ident n1.x)∧
(((n1.hears false fb fu ft).c : Bool) = (false)))∧
ident n1.pl)∧
ident n2.i0)∧
ident n2.i1)∧
ident n2.i2)∧
ident n2.i3)∧
ident n2.x)∧
(((n2.hears false fb fu ft).c : Bool) = (false)))∧
ident n2.pl)∧
ident n3.i0)∧
ident n3.i1)∧
ident n3.i2)∧
ident n3.i3)∧
ident n3.x)∧
(((n3.hears true fb fu ft).c : Bool) = (hearC fb fu ft)))∧
ident (hearP n3.pl fb ft))∧
ident (IntKind.u8.wrap ((s.told true).sel)))∧
ident (byK ((s.told true).sel) 8))∧
ident (byK ((s.told true).sel) 16))∧
ident (byK ((s.told true).sel) 24))∧
ident (bitsF ((s.told true).b)))∧
ident ((s.told true).p))∧
ident (nextF ((s.told true).p) ((s.told true).b)))∧
ident g1.i0)∧
ident g1.i1)∧
ident g1.i2)∧
ident g1.i3)∧
ident g1.a)∧
((g1.kp : Bool) = (g1.kp)))) (by kernel_rfl) ⟨⟨⟨⟨⟨⟨⟨⟨⟨⟨⟨⟨⟨⟨⟨⟨⟨⟨⟨⟨⟨⟨⟨⟨⟨⟨⟨⟨⟨⟨⟨⟨⟨⟨⟨⟨⟨⟨⟨⟨⟨⟨⟨⟨⟨⟨⟨⟨⟨⟨⟨⟨⟨⟨⟨⟨⟨⟨⟨⟨⟨⟨⟨⟨⟨⟨⟨⟨⟨⟨⟨⟨⟨⟨⟨⟨⟨⟨⟨⟨⟨⟨⟨⟨⟨⟨⟨⟨⟨⟩,H.kl⟩,H.kl⟩,H.kl⟩,H.kl⟩,⟨c1,⟨le1 h.u0,⟨le1 h.u3,⟨le1 h.b0,r1⟩⟩⟩⟩⟩,rfl⟩,rfl⟩,rfl⟩,rfl⟩,rfl⟩,rfl⟩,rfl⟩,⟨c2,⟨le1 h.u0,⟨le1 h.u3,⟨le1 h.b0,r2⟩⟩⟩⟩⟩,rfl⟩,rfl⟩,rfl⟩,rfl⟩,rfl⟩,rfl⟩,rfl⟩,⟨c3,⟨le1 h.u0,⟨le1 h.u3,⟨le1 h.b0,r3⟩⟩⟩⟩⟩,rfl⟩,rfl⟩,rfl⟩,rfl⟩,rfl⟩,rfl⟩,rfl⟩,rfl⟩,rfl⟩,H.due⟩,⟨le1 h.p0,⟨le1 h.p3,⟨le1 h.b1,⟨le1 h.b32,⟨h.o,h.f⟩⟩⟩⟩⟩⟩,t.f⟩,t.o⟩,t.o⟩,t.o⟩,⟨le1 t.p0,⟨le1 t.p3,⟨le1 t.b1,⟨le1 t.b32,⟨t.o,t.f⟩⟩⟩⟩⟩⟩,rfl⟩,rfl⟩,H.nw⟩,H.kw⟩,H.mw⟩,rfl⟩,H.mw⟩,rfl⟩,rfl⟩,rfl⟩,rfl⟩,rfl⟩,rfl⟩,rfl⟩,rfl⟩,t.o⟩,t.f⟩,rfl⟩,rfl⟩,rfl⟩,rfl⟩,rfl⟩,rfl⟩,rfl⟩,rfl⟩,rfl⟩,rfl⟩,rfl⟩,rfl⟩,rfl⟩,rfl⟩,rfl⟩,rfl⟩,rfl⟩,rfl⟩,rfl⟩,rfl⟩,rfl⟩,rfl⟩,rfl⟩,rfl⟩,rfl⟩,rfl⟩,rfl⟩,rfl⟩,rfl⟩,rfl⟩,rfl⟩,rfl⟩,rfl⟩,rfl⟩

set_option maxRecDepth 100000 in
theorem g_Sf_3_1_001 (b : BS) (s : SR) (n1 n2 n3 : ND) (g1 : GV) (a1 a2 a3 a4 fb fu ft : Int) (H : HB b) (h : HS s fb fu) (c1 : n1.c = false) (r1 : n1.ok a1 a2 a3 a4 fb fu = false) (c2 : n2.c = false) (r2 : n2.ok a1 a2 a3 a4 fb fu = false) (c3 : n3.c = false) (r3 : n3.ok a1 a2 a3 a4 fb fu = true) (tf : (s.told true).f = true) : Holds (fitOA (head b.asked (.a b.nx) (s.told true) [n1.hears false fb fu ft, n2.hears false fb fu ft, n3.hears true fb fu ft] [g1]) none (runB b (.s a1 a2 a3 a4 fb fu ft) s [n1, n2, n3] [g1] [true, true, true, true, false, false, true, true, true])) := by
  exact Holds.of (p := ((((((((((((((((((((((((((((((((((((((((((((((((((((((((((((((((((((((((((((((True∧
((b.kl : Bool) = (true)))∧
((b.kl : Bool) = (true)))∧
((b.kl : Bool) = (true)))∧
((b.kl : Bool) = (true)))∧
(((n1.c : Bool) = (false))∧
((Int.NonNeg (fu - 0 : Int))∧
((Int.NonNeg (3 - fu : Int))∧
((Int.NonNeg (fb - 0 : Int))∧
((n1.ok a1 a2 a3 a4 fb fu : Bool) = (false)))))))∧
ident a1)∧
ident a2)∧
ident a3)∧
ident a4)∧
ident fb)∧
ident fu)∧
ident ft)∧
(((n2.c : Bool) = (false))∧
((Int.NonNeg (fu - 0 : Int))∧
((Int.NonNeg (3 - fu : Int))∧
((Int.NonNeg (fb - 0 : Int))∧
((n2.ok a1 a2 a3 a4 fb fu : Bool) = (false)))))))∧
ident a1)∧
ident a2)∧
ident a3)∧
ident a4)∧
ident fb)∧
ident fu)∧
ident ft)∧
(((n3.c : Bool) = (false))∧
((Int.NonNeg (fu - 0 : Int))∧
((Int.NonNeg (3 - fu : Int))∧
((Int.NonNeg (fb - 0 : Int))∧
((n3.ok a1 a2 a3 a4 fb fu : Bool) = (true)))))))∧
ident a1)∧
ident a2)∧
ident a3)∧
ident a4)∧
ident fb)∧
ident fu)∧
ident ft)∧
ident b.mw)∧
ident b.ak)∧
((decide (b.mw ≥ b.aw) : Bool) = (true)))∧
((Int.NonNeg (s.p - 0 : Int))∧
((Int.NonNeg (3 - s.p : Int))∧
((Int.NonNeg (s.b - -1 : Int))∧
((Int.NonNeg (32 - s.b : Int))∧
(((s.o : Bool) = (false))∧
((s.f : Bool) = (false))))))))∧
(((s.told true).f : Bool) = (true)))∧
ident b.f)∧
ident b.g)∧
((b.asked.now : Int) = (b.nw)))∧
((b.asked.k : Int) = (b.kw)))∧
((b.asked.ak : Int) = (b.mw)))∧
ident b.nx)∧
((b.asked.now : Int) = (b.mw)))∧
ident b.nx)∧
((b.asked.kp : Bool) = (b.kp)))∧
ident ((s.told true).i0))∧
ident ((s.told true).i1))∧
ident ((s.told true).i2))∧
ident ((s.told true).i3))∧
ident ((s.told true).p))∧
ident ((s.told true).b))∧
(((s.told true).o : Bool) = ((s.told true).o)))∧
(((s.told true).f : Bool) = ((s.told true).f)))∧
ident n1.i0)∧
ident n1.i1)∧
ident n1.i2)∧
ident n1.i3)∧
ident n1.x)∧
(((n1.hears false fb fu ft).c : Bool) = (false)))∧
ident n1.pl)∧
ident n2.i0)∧
ident n2.i1)∧
ident n2.i2)∧
ident n2.i3)∧
ident n2.x)∧
(((n2.hears false fb fu ft).c : Bool) = (false)))∧
ident n2.pl)∧
ident n3.i0)∧
ident n3.i1)∧
ident n3.i2)∧
ident n3.i3)∧
ident n3.x)∧
(((n3.hears true fb fu ft).c : Bool) = (hearC fb fu ft)))∧
ident (hearP n3.pl fb ft))∧
ident b.nx)∧
ident g1.i0)∧
ident g1.i1)∧
ident g1.i2)∧
ident g1.i3)∧
ident g1.a)∧
((g1.kp : Bool) = (g1.kp)))) (by kernel_rfl) ⟨⟨⟨⟨⟨⟨⟨⟨⟨⟨⟨⟨⟨⟨⟨⟨⟨⟨⟨⟨⟨⟨⟨⟨⟨⟨⟨⟨⟨⟨⟨⟨⟨⟨⟨⟨⟨⟨⟨⟨⟨⟨⟨⟨⟨⟨⟨⟨⟨⟨⟨⟨⟨⟨⟨⟨⟨⟨⟨⟨⟨⟨⟨⟨⟨⟨⟨⟨⟨⟨⟨⟨⟨⟨⟨⟨⟨⟨⟨⟩,H.kl⟩,H.kl⟩,H.kl⟩,H.kl⟩,⟨c1,⟨le1 h.u0,⟨le1 h.u3,⟨le1 h.b0,r1⟩⟩⟩⟩⟩,rfl⟩,rfl⟩,rfl⟩,rfl⟩,rfl⟩,rfl⟩,rfl⟩,⟨c2,⟨le1 h.u0,⟨le1 h.u3,⟨le1 h.b0,r2⟩⟩⟩⟩⟩,rfl⟩,rfl⟩,rfl⟩,rfl⟩,rfl⟩,rfl⟩,rfl⟩,⟨c3,⟨le1 h.u0,⟨le1 h.u3,⟨le1 h.b0,r3⟩⟩⟩⟩⟩,rfl⟩,rfl⟩,rfl⟩,rfl⟩,rfl⟩,rfl⟩,rfl⟩,rfl⟩,rfl⟩,H.due⟩,⟨le1 h.p0,⟨le1 h.p3,⟨le1 h.b1,⟨le1 h.b32,⟨h.o,h.f⟩⟩⟩⟩⟩⟩,tf⟩,rfl⟩,rfl⟩,H.nw⟩,H.kw⟩,H.mw⟩,rfl⟩,H.mw⟩,rfl⟩,rfl⟩,rfl⟩,rfl⟩,rfl⟩,rfl⟩,rfl⟩,rfl⟩,rfl⟩,rfl⟩,rfl⟩,rfl⟩,rfl⟩,rfl⟩,rfl⟩,rfl⟩,rfl⟩,rfl⟩,rfl⟩,rfl⟩,rfl⟩,rfl⟩,rfl⟩,rfl⟩,rfl⟩,rfl⟩,rfl⟩,rfl⟩,rfl⟩,rfl⟩,rfl⟩,rfl⟩,rfl⟩,rfl⟩,rfl⟩,rfl⟩,rfl⟩,rfl⟩

set_option maxRecDepth 100000 in
theorem g_A_3_1_001 (b : BS) (s : SR) (n1 n2 n3 : ND) (g1 : GV) (u : Int) (H : HB b) (h4 : 1 ≤ u) (h5 : u ≤ 127) (c1 : n1.c = false) (c2 : n2.c = false) (c3 : n3.c = true) : Holds (fitOA (head b.next .k s [n1.set u false, n2.set u false, n3.set u true] [g1]) none (runB b (.a u) s [n1, n2, n3] [g1] [true, true, true, true, false, false, true, true])) := by
  exact Holds.of (p := (((((((((((((((((((((((((((((((((((((((((((((((((((((((((True∧
((b.kl : Bool) = (true)))∧
((b.kl : Bool) = (true)))∧
((b.kl : Bool) = (true)))∧
((b.kl : Bool) = (true)))∧
((n1.c : Bool) = (false)))∧
ident u)∧
((n2.c : Bool) = (false)))∧
ident u)∧
(((n3.c : Bool) = (true))∧
((Int.NonNeg (u - 1 : Int))∧
(Int.NonNeg (127 - u : Int)))))∧
ident u)∧
ident b.mw)∧
ident b.ak)∧
((decide (b.mw ≥ b.aw) : Bool) = (true)))∧
ident b.f)∧
ident b.g)∧
((b.next.now : Int) = (b.nw)))∧
((b.next.k : Int) = (b.kw)))∧
((b.next.ak : Int) = (b.mw)))∧
ident b.h)∧
((b.next.now : Int) = (b.mw)))∧
ident b.nx)∧
((b.next.kp : Bool) = (b.kp)))∧
ident s.i0)∧
ident s.i1)∧
ident s.i2)∧
ident s.i3)∧
ident s.p)∧
ident s.b)∧
((s.o : Bool) = (s.o)))∧
((s.f : Bool) = (s.f)))∧
ident n1.i0)∧
ident n1.i1)∧
ident n1.i2)∧
ident n1.i3)∧
ident n1.x)∧
(((n1.set u false).c : Bool) = (false)))∧
ident n1.pl)∧
ident n2.i0)∧
ident n2.i1)∧
ident n2.i2)∧
ident n2.i3)∧
ident n2.x)∧
(((n2.set u false).c : Bool) = (false)))∧
ident n2.pl)∧
ident n3.i0)∧
ident n3.i1)∧
ident n3.i2)∧
ident n3.i3)∧
ident u)∧
(((n3.set u true).c : Bool) = (true)))∧
ident n3.pl)∧
ident g1.i0)∧
ident g1.i1)∧
ident g1.i2)∧
ident g1.i3)∧
ident g1.a)∧
((g1.kp : Bool) = (g1.kp)))) (by kernel_rfl) ⟨⟨⟨⟨⟨⟨⟨⟨⟨⟨⟨⟨⟨⟨⟨⟨⟨⟨⟨⟨⟨⟨⟨⟨⟨⟨⟨⟨⟨⟨⟨⟨⟨⟨⟨⟨⟨⟨⟨⟨⟨⟨⟨⟨⟨⟨⟨⟨⟨⟨⟨⟨⟨⟨⟨⟨⟨⟨⟩,H.kl⟩,H.kl⟩,H.kl⟩,H.kl⟩,c1⟩,rfl⟩,c2⟩,rfl⟩,⟨c3,⟨le1 h4,le1 h5⟩⟩⟩,rfl⟩,rfl⟩,rfl⟩,H.due⟩,rfl⟩,rfl⟩,H.nw⟩,H.kw⟩,H.mw⟩,rfl⟩,H.mw⟩,rfl⟩,rfl⟩,rfl⟩,rfl⟩,rfl⟩,rfl⟩,rfl⟩,rfl⟩,rfl⟩,rfl⟩,rfl⟩,rfl⟩,rfl⟩,rfl⟩,rfl⟩,rfl⟩,rfl⟩,rfl⟩,rfl⟩,rfl⟩,rfl⟩,rfl⟩,rfl⟩,rfl⟩,rfl⟩,rfl⟩,rfl⟩,rfl⟩,rfl⟩,rfl⟩,rfl⟩,rfl⟩,rfl⟩,rfl⟩,rfl⟩,rfl⟩,rfl⟩

set_option maxRecDepth 100000 in
theorem g_K_3_1_001 (b : BS) (s : SR) (n1 n2 n3 : ND) (g1 : GV) (H : HB b) (c1 : n1.c = false) (c2 : n2.c = false) (c3 : n3.c = true) : Holds (fitOA (head b.kept .w s [n1, n2, n3] [g1]) none (runB b .k s [n1, n2, n3] [g1] [true, true, true, true, false, false, true, true])) := by
  exact Holds.of (p := ((((((((((((((((((((((((((((((((((((((((((((((((((((((True∧
((b.kl : Bool) = (true)))∧
((b.kl : Bool) = (true)))∧
((b.kl : Bool) = (true)))∧
((b.kl : Bool) = (true)))∧
((n1.c : Bool) = (false)))∧
((n2.c : Bool) = (false)))∧
((n3.c : Bool) = (true)))∧
ident b.mw)∧
ident b.ak)∧
((decide (b.mw ≥ b.aw) : Bool) = (true)))∧
ident b.f)∧
ident b.g)∧
((b.kept.now : Int) = (b.nw)))∧
((b.kept.k : Int) = (b.kw)))∧
((b.kept.ak : Int) = (b.mw)))∧
ident b.h)∧
((b.kept.now : Int) = (b.mw)))∧
ident b.nx)∧
((b.kept.kp : Bool) = (Nat.ble 0 0)))∧
ident s.i0)∧
ident s.i1)∧
ident s.i2)∧
ident s.i3)∧
ident s.p)∧
ident s.b)∧
((s.o : Bool) = (s.o)))∧
((s.f : Bool) = (s.f)))∧
ident n1.i0)∧
ident n1.i1)∧
ident n1.i2)∧
ident n1.i3)∧
ident n1.x)∧
((n1.c : Bool) = (n1.c)))∧
ident n1.pl)∧
ident n2.i0)∧
ident n2.i1)∧
ident n2.i2)∧
ident n2.i3)∧
ident n2.x)∧
((n2.c : Bool) = (n2.c)))∧
ident n2.pl)∧
ident n3.i0)∧
ident n3.i1)∧
ident n3.i2)∧
ident n3.i3)∧
ident n3.x)∧
((n3.c : Bool) = (n3.c)))∧
ident n3.pl)∧
ident g1.i0)∧
ident g1.i1)∧
ident g1.i2)∧
ident g1.i3)∧
ident g1.a)∧
((g1.kp : Bool) = (g1.kp)))) (by kernel_rfl) ⟨⟨⟨⟨⟨⟨⟨⟨⟨⟨⟨⟨⟨⟨⟨⟨⟨⟨⟨⟨⟨⟨⟨⟨⟨⟨⟨⟨⟨⟨⟨⟨⟨⟨⟨⟨⟨⟨⟨⟨⟨⟨⟨⟨⟨⟨⟨⟨⟨⟨⟨⟨⟨⟨⟨⟩,H.kl⟩,H.kl⟩,H.kl⟩,H.kl⟩,c1⟩,c2⟩,c3⟩,rfl⟩,rfl⟩,H.due⟩,rfl⟩,rfl⟩,H.nw⟩,H.kw⟩,H.mw⟩,rfl⟩,H.mw⟩,rfl⟩,rfl⟩,rfl⟩,rfl⟩,rfl⟩,rfl⟩,rfl⟩,rfl⟩,rfl⟩,rfl⟩,rfl⟩,rfl⟩,rfl⟩,rfl⟩,rfl⟩,rfl⟩,rfl⟩,rfl⟩,rfl⟩,rfl⟩,rfl⟩,rfl⟩,rfl⟩,rfl⟩,rfl⟩,rfl⟩,rfl⟩,rfl⟩,rfl⟩,rfl⟩,rfl⟩,rfl⟩,rfl⟩,rfl⟩,rfl⟩,rfl⟩,rfl⟩

set_option maxRecDepth 100000 in
theorem g_Sc_3_1_010 (b : BS) (s : SR) (n1 n2 n3 : ND) (g1 : GV) (a1 a2 a3 a4 fb fu ft : Int) (H : HB b) (h : HS s fb fu) (c1 : n1.c = false) (r1 : n1.ok a1 a2 a3 a4 fb fu = false) (c2 : n2.c = false) (r2 : n2.ok a1 a2 a3 a4 fb fu = true) (c3 : n3.c = false) (r3 : n3.ok a1 a2 a3 a4 fb fu = false) (t : HT (s.told true)) : Holds (fitOA (head b.next (s.told true).ask (s.told true) [n1.hears false fb fu ft, n2.hears true fb fu ft, n3.hears false fb fu ft] [g1]) none (runB b (.s a1 a2 a3 a4 fb fu ft) s [n1, n2, n3] [g1] [true, true, true, true, false, true, false, true, false, false, false, false])) := by
  exact Holds.of (p := ((((((((((((((((((((((((((((((((((((((((((((((((((((((((((((((((((((((((((((((((((((((((True∧
((b.kl : Bool) = (true)))∧
((b.kl : Bool) = (true)))∧
((b.kl : Bool) = (true)))∧
((b.kl : Bool) = (true)))∧
(((n1.c : Bool) = (false))∧
((Int.NonNeg (fu - 0 : Int))∧
((Int.NonNeg (3 - fu : Int))∧
((Int.NonNeg (fb - 0 : Int))∧
((n1.ok a1 a2 a3 a4 fb fu : Bool) = (false)))))))∧
ident a1)∧
ident a2)∧
ident a3)∧
ident a4)∧
ident fb)∧
ident fu)∧
ident ft)∧
(((n2.c : Bool) = (false))∧
((Int.NonNeg (fu - 0 : Int))∧
((Int.NonNeg (3 - fu : Int))∧
((Int.NonNeg (fb - 0 : Int))∧
((n2.ok a1 a2 a3 a4 fb fu : Bool) = (true)))))))∧
ident a1)∧
ident a2)∧
ident a3)∧
ident a4)∧
ident fb)∧
ident fu)∧
ident ft)∧
(((n3.c : Bool) = (false))∧
((Int.NonNeg (fu - 0 : Int))∧
((Int.NonNeg (3 - fu : Int))∧
((Int.NonNeg (fb - 0 : Int))∧
((n3.ok a1 a2 a3 a4 fb fu : Bool) = (false)))))))∧
ident a1)∧
ident a2)∧
ident a3)∧
ident a4)∧
ident fb)∧
ident fu)∧
ident ft)∧
ident b.mw)∧
ident b.ak)∧
((decide (b.mw ≥ b.aw) : Bool) = (true)))∧
((Int.NonNeg (s.p - 0 : Int))∧
((Int.NonNeg (3 - s.p : Int))∧
((Int.NonNeg (s.b - -1 : Int))∧
((Int.NonNeg (32 - s.b : Int))∧
(((s.o : Bool) = (false))∧
((s.f : Bool) = (false))))))))∧
(((s.told true).f : Bool) = (false)))∧
(((s.told true).o : Bool) = (false)))∧
(((s.told true).o : Bool) = (false)))∧
(((s.told true).o : Bool) = (false)))∧
((Int.NonNeg ((s.told true).p - 0 : Int))∧
((Int.NonNeg (3 - (s.told true).p : Int))∧
((Int.NonNeg ((s.told true).b - -1 : Int))∧
((Int.NonNeg (32 - (s.told true).b : Int))∧
((((s.told true).o : Bool) = (false))∧
(((s.told true).f : Bool) = (false))))))))∧
ident b.f)∧
ident b.g)∧
((b.next.now : Int) = (b.nw)))∧
((b.next.k : Int) = (b.kw)))∧
((b.next.ak : Int) = (b.mw)))∧
ident b.h)∧
((b.next.now : Int) = (b.mw)))∧
ident b.nx)∧
((b.next.kp : Bool) = (b.kp)))∧
ident ((s.told true).i0))∧
ident ((s.told true).i1))∧
ident ((s.told true).i2))∧
ident ((s.told true).i3))∧
ident ((s.told true).p))∧
ident ((s.told true).b))∧
(((s.told true).o : Bool) = (false)))∧
(((s.told true).f : Bool) = (false)))∧
ident n1.i0)∧
ident n1.i1)∧
ident n1.i2)∧
ident n1.i3)∧
ident n1.x)∧
(((n1.hears false fb fu ft).c : Bool) = (false)))∧
ident n1.pl)∧
ident n2.i0)∧
ident n2.i1)∧
ident n2.i2)∧
ident n2.i3)∧
ident n2.x)∧
(((n2.hears true fb fu ft).c : Bool) = (hearC fb fu ft)))∧
ident (hearP n2.pl fb ft))∧
ident n3.i0)∧
ident n3.i1)∧
ident n3.i2)∧
ident n3.i3)∧
ident n3.x)∧
(((n3.hears false fb fu ft).c : Bool) = (false)))∧
ident n3.pl)∧
ident (IntKind.u8.wrap ((s.told true).sel)))∧
ident (byK ((s.told true).sel) 8))∧
ident (byK ((s.told true).sel) 16))∧
ident (byK ((s.told true).sel) 24))∧
ident (bitsF ((s.told true).b)))∧
ident ((s.told true).p))∧
ident (nextF ((s.told true).p) ((s.told true).b)))∧
ident g1.i0)∧
ident g1.i1)∧
ident g1.i2)∧
ident g1.i3)∧
ident g1.a)∧
((g1.kp : Bool) = (g1.kp)))) (by kernel_rfl) ⟨⟨⟨⟨⟨⟨⟨⟨⟨⟨⟨⟨⟨⟨⟨⟨⟨⟨⟨⟨⟨⟨⟨⟨⟨⟨⟨⟨⟨⟨⟨⟨⟨⟨⟨⟨⟨⟨⟨⟨⟨⟨⟨⟨⟨⟨⟨⟨⟨⟨⟨⟨⟨⟨⟨⟨⟨⟨⟨⟨⟨⟨⟨⟨⟨⟨⟨⟨⟨⟨⟨⟨⟨⟨⟨⟨⟨⟨⟨⟨⟨⟨⟨⟨⟨⟨⟨⟨⟨⟩,H.kl⟩,H.kl⟩,H.kl⟩,H.kl⟩,⟨c1,⟨le1 h.u0,⟨le1 h.u3,⟨le1 h.b0,r1⟩⟩⟩⟩⟩,rfl⟩,rfl⟩,rfl⟩,rfl⟩,rfl⟩,rfl⟩,rfl⟩,⟨c2,⟨le1 h.u0,⟨le1 h.u3,⟨le1 h.b0,r2⟩⟩⟩⟩⟩,rfl⟩,rfl⟩,rfl⟩,rfl⟩,rfl⟩,rfl⟩,rfl⟩,⟨c3,⟨le1 h.u0,⟨le1 h.u3,⟨le1 h.b0,r3⟩⟩⟩⟩⟩,rfl⟩,rfl⟩,rfl⟩,rfl⟩,rfl⟩,rfl⟩,rfl⟩,rfl⟩,rfl⟩,H.due⟩,⟨le1 h.p0,⟨le1 h.p3,⟨le1 h.b1,⟨le1 h.b32,⟨h.o,h.f⟩⟩⟩⟩⟩⟩,t.f⟩,t.o⟩,t.o⟩,t.o⟩,⟨le1 t.p0,⟨le1 t.p3,⟨le1 t.b1,⟨le1 t.b32,⟨t.o,t.f⟩⟩⟩⟩⟩⟩,rfl⟩,rfl⟩,H.nw⟩,H.kw⟩,H.mw⟩,rfl⟩,H.mw⟩,rfl⟩,rfl⟩,rfl⟩,rfl⟩,rfl⟩,rfl⟩,rfl⟩,rfl⟩,t.o⟩,t.f⟩,rfl⟩,rfl⟩,rfl⟩,rfl⟩,rfl⟩,rfl⟩,rfl⟩,rfl⟩,rfl⟩,rfl⟩,rfl⟩,rfl⟩,rfl⟩,rfl⟩,rfl⟩,rfl⟩,rfl⟩,rfl⟩,rfl⟩,rfl⟩,rfl⟩,rfl⟩,rfl⟩,rfl⟩,rfl⟩,rfl⟩,rfl⟩,rfl⟩,rfl⟩,rfl⟩,rfl⟩,rfl⟩,rfl⟩,rfl⟩

set_option maxRecDepth 100000 in
theorem g_Sf_3_1_010 (b : BS) (s : SR) (n1 n2 n3 : ND) (g1 : GV) (a1 a2 a3 a4 fb fu ft : Int) (H : HB b) (h : HS s fb fu) (c1 : n1.c = false) (r1 : n1.ok a1 a2 a3 a4 fb fu = false) (c2 : n2.c = false) (r2 : n2.ok a1 a2 a3 a4 fb fu = true) (c3 : n3.c = false) (r3 : n3.ok a1 a2 a3 a4 fb fu = false) (tf : (s.told true).f = true) : Holds (fitOA (head b.asked (.a b.nx) (s.told true) [n1.hears false fb fu ft, n2.hears true fb fu ft, n3.hears false fb fu ft] [g1]) none (runB b (.s a1 a2 a3 a4 fb fu ft) s [n1, n2, n3] [g1] [true, true, true, true, false, true, false, true, true])) := by
  exact Holds.of (p := ((((((((((((((((((((((((((((((((((((((((((((((((((((((((((((((((((((((((((((((True∧
((b.kl : Bool) = (true)))∧
((b.kl : Bool) = (true)))∧
((b.kl : Bool) = (true)))∧
((b.kl : Bool) = (true)))∧
(((n1.c : Bool) = (false))∧
((Int.NonNeg (fu - 0 : Int))∧
((Int.NonNeg (3 - fu : Int))∧
((Int.NonNeg (fb - 0 : Int))∧
((n1.ok a1 a2 a3 a4 fb fu : Bool) = (false)))))))∧
ident a1)∧
ident a2)∧
ident a3)∧
ident a4)∧
ident fb)∧
ident fu)∧
ident ft)∧
(((n2.c : Bool) = (false))∧
((Int.NonNeg (fu - 0 : Int))∧
((Int.NonNeg (3 - fu : Int))∧
((Int.NonNeg (fb - 0 : Int))∧
((n2.ok a1 a2 a3 a4 fb fu : Bool) = (true)))))))∧
ident a1)∧
ident a2)∧
ident a3)∧
ident a4)∧
ident fb)∧
ident fu)∧
ident ft)∧
(((n3.c : Bool) = (false))∧
((Int.NonNeg (fu - 0 : Int))∧
((Int.NonNeg (3 - fu : Int))∧
((Int.NonNeg (fb - 0 : Int))∧
((n3.ok a1 a2 a3 a4 fb fu : Bool) = (false)))))))∧
ident a1)∧
ident a2)∧
ident a3)∧
ident a4)∧
ident fb)∧
ident fu)∧
ident ft)∧
ident b.mw)∧
ident b.ak)∧
((decide (b.mw ≥ b.aw) : Bool) = (true)))∧
((Int.NonNeg (s.p - 0 : Int))∧
((Int.NonNeg (3 - s.p : Int))∧
((Int.NonNeg (s.b - -1 : Int))∧
((Int.NonNeg (32 - s.b : Int))∧
(((s.o : Bool) = (false))∧
((s.f : Bool) = (false))))))))∧
(((s.told true).f : Bool) = (true)))∧
ident b.f)∧
ident b.g)∧
((b.asked.now : Int) = (b.nw)))∧
((b.asked.k : Int) = (b.kw)))∧
((b.asked.ak : Int) = (b.mw)))∧
ident b.nx)∧
((b.asked.now : Int) = (b.mw)))∧
ident b.nx)∧
((b.asked.kp : Bool) = (b.kp)))∧
ident ((s.told true).i0))∧
ident ((s.told true).i1))∧
ident ((s.told true).i2))∧
ident ((s.told true).i3))∧
ident ((s.told true).p))∧
ident ((s.told true).b))∧
(((s.told true).o : Bool) = ((s.told true).o)))∧
(((s.told true).f : Bool) = ((s.told true).f)))∧
ident n1.i0)∧
ident n1.i1)∧
ident n1.i2)∧
ident n1.i3)∧
ident n1.x)∧
(((n1.hears false fb fu ft).c : Bool) = (false)))∧
ident n1.pl)∧
ident n2.i0)∧
ident n2.i1)∧
ident n2.i2)∧
ident n2.i3)∧
ident n2.x)∧
(((n2.hears true fb fu ft).c : Bool) = (hearC fb fu ft)))∧
ident (hearP n2.pl fb ft))∧
ident n3.i0)∧
ident n3.i1)∧
ident n3.i2)∧
ident n3.i3)∧
ident n3.x)∧
(((n3.hears false fb fu ft).c : Bool) = (false)))∧
ident n3.pl)∧
ident b.nx)∧
ident g1.i0)∧
ident g1.i1)∧
ident g1.i2)∧
ident g1.i3)∧
ident g1.a)∧
((g1.kp : Bool) = (g1.kp)))) (by kernel_rfl) ⟨⟨⟨⟨⟨⟨⟨⟨⟨⟨⟨⟨⟨⟨⟨⟨⟨⟨⟨⟨⟨⟨⟨⟨⟨⟨⟨⟨⟨⟨⟨⟨⟨⟨⟨⟨⟨⟨⟨⟨⟨⟨⟨⟨⟨⟨⟨⟨⟨⟨⟨⟨⟨⟨⟨⟨⟨⟨⟨⟨⟨⟨⟨⟨⟨⟨⟨⟨⟨⟨⟨⟨⟨⟨⟨⟨⟨⟨⟨⟩,H.kl⟩,H.kl⟩,H.kl⟩,H.kl⟩,⟨c1,⟨le1 h.u0,⟨le1 h.u3,⟨le1 h.b0,r1⟩⟩⟩⟩⟩,rfl⟩,rfl⟩,rfl⟩,rfl⟩,rfl⟩,rfl⟩,rfl⟩,⟨c2,⟨le1 h.u0,⟨le1 h.u3,⟨le1 h.b0,r2⟩⟩⟩⟩⟩,rfl⟩,rfl⟩,rfl⟩,rfl⟩,rfl⟩,rfl⟩,rfl⟩,⟨c3,⟨le1 h.u0,⟨le1 h.u3,⟨le1 h.b0,r3⟩⟩⟩⟩⟩,rfl⟩,rfl⟩,rfl⟩,rfl⟩,rfl⟩,rfl⟩,rfl⟩,rfl⟩,rfl⟩,H.due⟩,⟨le1 h.p0,⟨le1 h.p3,⟨le1 h.b1,⟨le1 h.b32,⟨h.o,h.f⟩⟩⟩⟩⟩⟩,tf⟩,rfl⟩,rfl⟩,H.nw⟩,H.kw⟩,H.mw⟩,rfl⟩,H.mw⟩,rfl⟩,rfl⟩,rfl⟩,rfl⟩,rfl⟩,rfl⟩,rfl⟩,rfl⟩,rfl⟩,rfl⟩,rfl⟩,rfl⟩,rfl⟩,rfl⟩,rfl⟩,rfl⟩,rfl⟩,rfl⟩,rfl⟩,rfl⟩,rfl⟩,rfl⟩,rfl⟩,rfl⟩,rfl⟩,rfl⟩,rfl⟩,rfl⟩,rfl⟩,rfl⟩,rfl⟩,rfl⟩,rfl⟩,rfl⟩,rfl⟩,rfl⟩,rfl⟩,rfl⟩

set_option maxRecDepth 100000 in
theorem g_A_3_1_010 (b : BS) (s : SR) (n1 n2 n3 : ND) (g1 : GV) (u : Int) (H : HB b) (h4 : 1 ≤ u) (h5 : u ≤ 127) (c1 : n1.c = false) (c2 : n2.c = true) (c3 : n3.c = false) : Holds (fitOA (head b.next .k s [n1.set u false, n2.set u true, n3.set u false] [g1]) none (runB b (.a u) s [n1, n2, n3] [g1] [true, true, true, true, false, true, false, true])) := by
  exact Holds.of (p := (((((((((((((((((((((((((((((((((((((((((((((((((((((((((True∧
((b.kl : Bool) = (true)))∧
((b.kl : Bool) = (true)))∧
((b.kl : Bool) = (true)))∧
((b.kl : Bool) = (true)))∧
((n1.c : Bool) = (false)))∧
ident u)∧
(((n2.c : Bool) = (true))∧
((Int.NonNeg (u - 1 : Int))∧
(Int.NonNeg (127 - u : Int)))))∧
ident u)∧
((n3.c : Bool) = (false)))∧
ident u)∧
ident b.mw)∧
ident b.ak)∧
((decide (b.mw ≥ b.aw) : Bool) = (true)))∧
ident b.f)∧
ident b.g)∧
((b.next.now : Int) = (b.nw)))∧
((b.next.k : Int) = (b.kw)))∧
((b.next.ak : Int) = (b.mw)))∧
ident b.h)∧
((b.next.now : Int) = (b.mw)))∧
ident b.nx)∧
((b.next.kp : Bool) = (b.kp)))∧
ident s.i0)∧
ident s.i1)∧
ident s.i2)∧
ident s.i3)∧
ident s.p)∧
ident s.b)∧
((s.o : Bool) = (s.o)))∧
((s.f : Bool) = (s.f)))∧
ident n1.i0)∧
ident n1.i1)∧
ident n1.i2)∧
ident n1.i3)∧
ident n1.x)∧
(((n1.set u false).c : Bool) = (false)))∧
ident n1.pl)∧
ident n2.i0)∧
ident n2.i1)∧
ident n2.i2)∧
ident n2.i3)∧
ident u)∧
(((n2.set u true).c : Bool) = (true)))∧
ident n2.pl)∧
ident n3.i0)∧
ident n3.i1)∧
ident n3.i2)∧
ident n3.i3)∧
ident n3.x)∧
(((n3.set u false).c : Bool) = (false)))∧
ident n3.pl)∧
ident g1.i0)∧
ident g1.i1)∧
ident g1.i2)∧
ident g1.i3)∧
ident g1.a)∧
((g1.kp : Bool) = (g1.kp)))) (by kernel_rfl) ⟨⟨⟨⟨⟨⟨⟨⟨⟨⟨⟨⟨⟨⟨⟨⟨⟨⟨⟨⟨⟨⟨⟨⟨⟨⟨⟨⟨⟨⟨⟨⟨⟨⟨⟨⟨⟨⟨⟨⟨⟨⟨⟨⟨⟨⟨⟨⟨⟨⟨⟨⟨⟨⟨⟨⟨⟨⟨⟩,H.kl⟩,H.kl⟩,H.kl⟩,H.kl⟩,c1⟩,rfl⟩,⟨c2,⟨le1 h4,le1 h5⟩⟩⟩,rfl⟩,c3⟩,rfl⟩,rfl⟩,rfl⟩,H.due⟩,rfl⟩,rfl⟩,H.nw⟩,H.kw⟩,H.mw⟩,rfl⟩,H.mw⟩,rfl⟩,rfl⟩,rfl⟩,rfl⟩,rfl⟩,rfl⟩,rfl⟩,rfl⟩,rfl⟩,rfl⟩,rfl⟩,rfl⟩,rfl⟩,rfl⟩,rfl⟩,rfl⟩,rfl⟩,rfl⟩,rfl⟩,rfl⟩,rfl⟩,rfl⟩,rfl⟩,rfl⟩,rfl⟩,rfl⟩,rfl⟩,rfl⟩,rfl⟩,rfl⟩,rfl⟩,rfl⟩,rfl⟩,rfl⟩,rfl⟩,rfl⟩,rfl⟩

set_option maxRecDepth 100000 in
theorem g_K_3_1_010 (b : BS) (s : SR) (n1 n2 n3 : ND) (g1 : GV) (H : HB b) (c1 : n1.c = false) (c2 : n2.c = true) (c3 : n3.c = false) : Holds (fitOA (head b.kept .w s [n1, n2, n3] [g1]) none (runB b .k s [n1, n2, n3] [g1] [true, true, true, true, false, true, false, true])) := by
  exact Holds.of (p := ((((((((((((((((((((((((((((((((((((((((((((((((((((((True∧
((b.kl : Bool) = (true)))∧
((b.kl : Bool) = (true)))∧
((b.kl : Bool) = (true)))∧
((b.kl : Bool) = (true)))∧
((n1.c : Bool) = (false)))∧
((n2.c : Bool) = (true)))∧
((n3.c : Bool) = (false)))∧
ident b.mw)∧
ident b.ak)∧
((decide (b.mw ≥ b.aw) : Bool) = (true)))∧
ident b.f)∧
ident b.g)∧
((b.kept.now : Int) = (b.nw)))∧
((b.kept.k : Int) = (b.kw)))∧
((b.kept.ak : Int) = (b.mw)))∧
ident b.h)∧
((b.kept.now : Int) = (b.mw)))∧
ident b.nx)∧
((b.kept.kp : Bool) = (Nat.ble 0 0)))∧
ident s.i0)∧
ident s.i1)∧
ident s.i2)∧
ident s.i3)∧
ident s.p)∧
ident s.b)∧
((s.o : Bool) = (s.o)))∧
((s.f : Bool) = (s.f)))∧
ident n1.i0)∧
ident n1.i1)∧
ident n1.i2)∧
ident n1.i3)∧
ident n1.x)∧
((n1.c : Bool) = (n1.c)))∧
ident n1.pl)∧
ident n2.i0)∧
ident n2.i1)∧
ident n2.i2)∧
ident n2.i3)∧
ident n2.x)∧
((n2.c : Bool) = (n2.c)))∧
ident n2.pl)∧
ident n3.i0)∧
ident n3.i1)∧
ident n3.i2)∧
ident n3.i3)∧
ident n3.x)∧
((n3.c : Bool) = (n3.c)))∧
ident n3.pl)∧
ident g1.i0)∧
ident g1.i1)∧
ident g1.i2)∧
ident g1.i3)∧
ident g1.a)∧
((g1.kp : Bool) = (g1.kp)))) (by kernel_rfl) ⟨⟨⟨⟨⟨⟨⟨⟨⟨⟨⟨⟨⟨⟨⟨⟨⟨⟨⟨⟨⟨⟨⟨⟨⟨⟨⟨⟨⟨⟨⟨⟨⟨⟨⟨⟨⟨⟨⟨⟨⟨⟨⟨⟨⟨⟨⟨⟨⟨⟨⟨⟨⟨⟨⟨⟩,H.kl⟩,H.kl⟩,H.kl⟩,H.kl⟩,c1⟩,c2⟩,c3⟩,rfl⟩,rfl⟩,H.due⟩,rfl⟩,rfl⟩,H.nw⟩,H.kw⟩,H.mw⟩,rfl⟩,H.mw⟩,rfl⟩,rfl⟩,rfl⟩,rfl⟩,rfl⟩,rfl⟩,rfl⟩,rfl⟩,rfl⟩,rfl⟩,rfl⟩,rfl⟩,rfl⟩,rfl⟩,rfl⟩,rfl⟩,rfl⟩,rfl⟩,rfl⟩,rfl⟩,rfl⟩,rfl⟩,rfl⟩,rfl⟩,rfl⟩,rfl⟩,rfl⟩,rfl⟩,rfl⟩,rfl⟩,rfl⟩,rfl⟩,rfl⟩,rfl⟩,rfl⟩,rfl⟩,rfl⟩

set_option maxRecDepth 100000 in
theorem g_Sc_3_1_011 (b : BS) (s : SR) (n1 n2 n3 : ND) (g1 : GV) (a1 a2 a3 a4 fb fu ft : Int) (H : HB b) (h : HS s fb fu) (c1 : n1.c = false) (r1 : n1.ok a1 a2 a3 a4 fb fu = false) (c2 : n2.c = false) (r2 : n2.ok a1 a2 a3 a4 fb fu = true) (c3 : n3.c = false) (r3 : n3.ok a1 a2 a3 a4 fb fu = true) (t : HT (s.told true)) : Holds (fitOA (head b.next (s.told true).ask (s.told true) [n1.hears false fb fu ft, n2.hears true fb fu ft, n3.hears true fb fu ft] [g1]) none (runB b (.s a1 a2 a3 a4 fb fu ft) s [n1, n2, n3] [g1] [true, true, true, true, false, true, true, true, false, false, false, false])) := by
  exact Holds.of (p := ((((((((((((((((((((((((((((((((((((((((((((((((((((((((((((((((((((((((((((((((((((((((True∧
((b.kl : Bool) = (true)))∧
((b.kl : Bool) = (true)))∧
((b.kl : Bool) = (true)))∧
((b.kl : Bool) = (true)))∧
(((n1.c : Bool) = (false))∧
((Int.NonNeg (fu - 0 : Int))∧
((Int.NonNeg (3 - fu : Int))∧
((Int.NonNeg (fb - 0 : Int))∧
((n1.ok a1 a2 a3 a4 fb fu : Bool) = (false)))))))∧
ident a1)∧
ident a2)∧
ident a3)∧
ident a4)∧
ident fb)∧
ident fu)∧
ident ft)∧
(((n2.c : Bool) = (false))∧
((Int.NonNeg (fu - 0 : Int))∧
((Int.NonNeg (3 - fu : Int))∧
((Int.NonNeg (fb - 0 : Int))∧
((n2.ok a1 a2 a3 a4 fb fu : Bool) = (true)))))))∧
ident a1)∧
ident a2)∧
ident a3)∧
ident a4)∧
ident fb)∧
ident fu)∧
ident ft)∧
(((n3.c : Bool) = (false))∧
((Int.NonNeg (fu - 0 : Int))∧
((Int.NonNeg (3 - fu : Int))∧
((Int.NonNeg (fb - 0 : Int))∧
((n3.ok a1 a2 a3 a4 fb fu : Bool) = (true)))))))∧
ident a1)∧
ident a2)∧
ident a3)∧
ident a4)∧
ident fb)∧
ident fu)∧
ident ft)∧
ident b.mw)∧
ident b.ak)∧
((decide (b.mw ≥ b.aw) : Bool) = (true)))∧
((Int.NonNeg (s.p - 0 : Int))∧
((Int.NonNeg (3 - s.p : Int))∧
((Int.NonNeg (s.b - -1 : Int))∧
((Int.NonNeg (32 - s.b : Int))∧
(((s.o : Bool) = (false))∧
((s.f : Bool) = (false))))))))∧
(((s.told true).f : Bool) = (false)))∧
(((s.told true).o : Bool) = (false)))∧
(((s.told true).o : Bool) = (false)))∧
(((s.told true).o : Bool) = (false)))∧
((Int.NonNeg ((s.told true).p - 0 : Int))∧
((Int.NonNeg (3 - (s.told true).p : Int))∧
((Int.NonNeg ((s.told true).b - -1 : Int))∧
((Int.NonNeg (32 - (s.told true).b : Int))∧
((((s.told true).o : Bool) = (false))∧
(((s.told true).f : Bool) = (false))))))))∧
ident b.f)∧
ident b.g)∧
((b.next.now : Int) = (b.nw)))∧
((b.next.k : Int) = (b.kw)))∧
((b.next.ak : Int) = (b.mw)))∧
ident b.h)∧
((b.next.now : Int) = (b.mw)))∧
ident b.nx)∧
((b.next.kp : Bool) = (b.kp)))∧
ident ((s.told true).i0))∧
ident ((s.told true).i1))∧
ident ((s.told true).i2))∧
ident ((s.told true).i3))∧
ident ((s.told true).p))∧
ident ((s.told true).b))∧
(((s.told true).o : Bool) = (false)))∧
(((s.told true).f : Bool) = (false)))∧
ident n1.i0)∧
ident n1.i1)∧
ident n1.i2)∧
ident n1.i3)∧
ident n1.x)∧
(((n1.hears false fb fu ft).c : Bool) = (false)))∧
ident n1.pl)∧
ident n2.i0)∧
ident n2.i1)∧
ident n2.i2)∧
ident n2.i3)∧
ident n2.x)∧
(((n2.hears true fb fu ft).c : Bool) = (hearC fb fu ft)))∧
ident (hearP n2.pl fb ft))∧
ident n3.i0)∧
ident n3.i1)∧
ident n3.i2)∧
ident n3.i3)∧
ident n3.x)∧
(((n3.hears true fb fu ft).c : Bool) = (hearC fb fu ft)))∧
ident (hearP n3.pl fb ft))∧
ident (IntKind.u8.wrap ((s.told true).sel)))∧
ident (byK ((s.told true).sel) 8))∧
ident (byK ((s.told true).sel) 16))∧
ident (byK ((s.told true).sel) 24))∧
ident (bitsF ((s.told true).b)))∧
ident ((s.told true).p))∧
ident (nextF ((s.told true).p) ((s.told true).b)))∧
ident g1.i0)∧
ident g1.i1)∧
ident g1.i2)∧
ident g1.i3)∧
ident g1.a)∧
((g1.kp : Bool) = (g1.kp)))) (by kernel_rfl) ⟨⟨⟨⟨⟨⟨⟨⟨⟨⟨⟨⟨⟨⟨⟨⟨⟨⟨⟨⟨⟨⟨⟨⟨⟨⟨⟨⟨⟨⟨⟨⟨⟨⟨⟨⟨⟨⟨⟨⟨⟨⟨⟨⟨⟨⟨⟨⟨⟨⟨⟨⟨⟨⟨⟨⟨⟨⟨⟨⟨⟨⟨⟨⟨⟨⟨⟨⟨⟨⟨⟨⟨⟨⟨⟨⟨⟨⟨⟨⟨⟨⟨⟨⟨⟨⟨⟨⟨⟨⟩,H.kl⟩,H.kl⟩,H.kl⟩,H.kl⟩,⟨c1,⟨le1 h.u0,⟨le1 h.u3,⟨le1 h.b0,r1⟩⟩⟩⟩⟩,rfl⟩,rfl⟩,rfl⟩,rfl⟩,rfl⟩,rfl⟩,rfl⟩,⟨c2,⟨le1 h.u0,⟨le1 h.u3,⟨le1 h.b0,r2⟩⟩⟩⟩⟩,rfl⟩,rfl⟩,rfl⟩,rfl⟩,rfl⟩,rfl⟩,rfl⟩,⟨c3,⟨le1 h.u0,⟨le1 h.u3,⟨le1 h.b0,r3⟩⟩⟩⟩⟩,rfl⟩,rfl⟩,rfl⟩,rfl⟩,rfl⟩,rfl⟩,rfl⟩,rfl⟩,rfl⟩,H.due⟩,⟨le1 h.p0,⟨le1 h.p3,⟨le1 h.b1,⟨le1 h.b32,⟨h.o,h.f⟩⟩⟩⟩⟩⟩,t.f⟩,t.o⟩,t.o⟩,t.o⟩,⟨le1 t.p0,⟨le1 t.p3,⟨le1 t.b1,⟨le1 t.b32,⟨t.o,t.f⟩⟩⟩⟩⟩⟩,rfl⟩,rfl⟩,H.nw⟩,H.kw⟩,H.mw⟩,rfl⟩,H.mw⟩,rfl⟩,rfl⟩,rfl⟩,rfl⟩,rfl⟩,rfl⟩,rfl⟩,rfl⟩,t.o⟩,t.f⟩,rfl⟩,rfl⟩,rfl⟩,rfl⟩,rfl⟩,rfl⟩,rfl⟩,rfl⟩,rfl⟩,rfl⟩,rfl⟩,rfl⟩,rfl⟩,rfl⟩,rfl⟩,rfl⟩,rfl⟩,rfl⟩,rfl⟩,rfl⟩,rfl⟩,rfl⟩,rfl⟩,rfl⟩,rfl⟩,rfl⟩,rfl⟩,rfl⟩,rfl⟩,rfl⟩,rfl⟩,rfl⟩,rfl⟩,rfl⟩

set_option maxRecDepth 100000 in
theorem g_Sf_3_1_011 (b : BS) (s : SR) (n1 n2 n3 : ND) (g1 : GV) (a1 a2 a3 a4 fb fu ft : Int) (H : HB b) (h : HS s fb fu) (c1 : n1.c = false) (r1 : n1.ok a1 a2 a3 a4 fb fu = false) (c2 : n2.c = false) (r2 : n2.ok a1 a2 a3 a4 fb fu = true) (c3 : n3.c = false) (r3 : n3.ok a1 a2 a3 a4 fb fu = true) (tf : (s.told true).f = true) : Holds (fitOA (head b.asked (.a b.nx) (s.told true) [n1.hears false fb fu ft, n2.hears true fb fu ft, n3.hears true fb fu ft] [g1]) none (runB b (.s a1 a2 a3 a4 fb fu ft) s [n1, n2, n3] [g1] [true, true, true, true, false, true, true, true, true])) := by
  exact Holds.of (p := ((((((((((((((((((((((((((((((((((((((((((((((((((((((((((((((((((((((((((((((True∧
((b.kl : Bool) = (true)))∧
((b.kl : Bool) = (true)))∧
((b.kl : Bool) = (true)))∧
((b.kl : Bool) = (true)))∧
(((n1.c : Bool) = (false))∧
((Int.NonNeg (fu - 0 : Int))∧
((Int.NonNeg (3 - fu : Int))∧
((Int.NonNeg (fb - 0 : Int))∧
((n1.ok a1 a2 a3 a4 fb fu : Bool) = (false)))))))∧
ident a1)∧
ident a2)∧
ident a3)∧
ident a4)∧
ident fb)∧
ident fu)∧
ident ft)∧
(((n2.c : Bool) = (false))∧
((Int.NonNeg (fu - 0 : Int))∧
((Int.NonNeg (3 - fu : Int))∧
((Int.NonNeg (fb - 0 : Int))∧
((n2.ok a1 a2 a3 a4 fb fu : Bool) = (true)))))))∧
ident a1)∧
ident a2)∧
ident a3)∧
ident a4)∧
ident fb)∧
ident fu)∧
ident ft)∧
(((n3.c : Bool) = (false))∧
((Int.NonNeg (fu - 0 : Int))∧
((Int.NonNeg (3 - fu : Int))∧
((Int.NonNeg (fb - 0 : Int))∧
((n3.ok a1 a2 a3 a4 fb fu : Bool) = (true)))))))∧
ident a1)∧
ident a2)∧
ident a3)∧
ident a4)∧
ident fb)∧
ident fu)∧
ident ft)∧
ident b.mw)∧
ident b.ak)∧
((decide (b.mw ≥ b.aw) : Bool) = (true)))∧
((Int.NonNeg (s.p - 0 : Int))∧
((Int.NonNeg (3 - s.p : Int))∧
((Int.NonNeg (s.b - -1 : Int))∧
((Int.NonNeg (32 - s.b : Int))∧
(((s.o : Bool) = (false))∧
((s.f : Bool) = (false))))))))∧
(((s.told true).f : Bool) = (true)))∧
ident b.f)∧
ident b.g)∧
((b.asked.now : Int) = (b.nw)))∧
((b.asked.k : Int) = (b.kw)))∧
((b.asked.ak : Int) = (b.mw)))∧
ident b.nx)∧
((b.asked.now : Int) = (b.mw)))∧
ident b.nx)∧
((b.asked.kp : Bool) = (b.kp)))∧
ident ((s.told true).i0))∧
ident ((s.told true).i1))∧
ident ((s.told true).i2))∧
ident ((s.told true).i3))∧
ident ((s.told true).p))∧
ident ((s.told true).b))∧
(((s.told true).o : Bool) = ((s.told true).o)))∧
(((s.told true).f : Bool) = ((s.told true).f)))∧
ident n1.i0)∧
ident n1.i1)∧
ident n1.i2)∧
ident n1.i3)∧
ident n1.x)∧
(((n1.hears false fb fu ft).c : Bool) = (false)))∧
ident n1.pl)∧
ident n2.i0)∧
ident n2.i1)∧
ident n2.i2)∧
ident n2.i3)∧
ident n2.x)∧
(((n2.hears true fb fu ft).c : Bool) = (hearC fb fu ft)))∧
ident (hearP n2.pl fb ft))∧
ident n3.i0)∧
ident n3.i1)∧
ident n3.i2)∧
ident n3.i3)∧
ident n3.x)∧
(((n3.hears true fb fu ft).c : Bool) = (hearC fb fu ft)))∧
ident (hearP n3.pl fb ft))∧
ident b.nx)∧
ident g1.i0)∧
ident g1.i1)∧
ident g1.i2)∧
ident g1.i3)∧
ident g1.a)∧
((g1.kp : Bool) = (g1.kp)))) (by kernel_rfl) ⟨⟨⟨⟨⟨⟨⟨⟨⟨⟨⟨⟨⟨⟨⟨⟨⟨⟨⟨⟨⟨⟨⟨⟨⟨⟨⟨⟨⟨⟨⟨⟨⟨⟨⟨⟨⟨⟨⟨⟨⟨⟨⟨⟨⟨⟨⟨⟨⟨⟨⟨⟨⟨⟨⟨⟨⟨⟨⟨⟨⟨⟨⟨⟨⟨⟨⟨⟨⟨⟨⟨⟨⟨⟨⟨⟨⟨⟨⟨⟩,H.kl⟩,H.kl⟩,H.kl⟩,H.kl⟩,⟨c1,⟨le1 h.u0,⟨le1 h.u3,⟨le1 h.b0,r1⟩⟩⟩⟩⟩,rfl⟩,rfl⟩,rfl⟩,rfl⟩,rfl⟩,rfl⟩,rfl⟩,⟨c2,⟨le1 h.u0,⟨le1 h.u3,⟨le1 h.b0,r2⟩⟩⟩⟩⟩,rfl⟩,rfl⟩,rfl⟩,rfl⟩,rfl⟩,rfl⟩,rfl⟩,⟨c3,⟨le1 h.u0,⟨le1 h.u3,⟨le1 h.b0,r3⟩⟩⟩⟩⟩,rfl⟩,rfl⟩,rfl⟩,rfl⟩,rfl⟩,rfl⟩,rfl⟩,rfl⟩,rfl⟩,H.due⟩,⟨le1 h.p0,⟨le1 h.p3,⟨le1 h.b1,⟨le1 h.b32,⟨h.o,h.f⟩⟩⟩⟩⟩⟩,tf⟩,rfl⟩,rfl⟩,H.nw⟩,H.kw⟩,H.mw⟩,rfl⟩,H.mw⟩,rfl⟩,rfl⟩,rfl⟩,rfl⟩,rfl⟩,rfl⟩,rfl⟩,rfl⟩,rfl⟩,rfl⟩,rfl⟩,rfl⟩,rfl⟩,rfl⟩,rfl⟩,rfl⟩,rfl⟩,rfl⟩,rfl⟩,rfl⟩,rfl⟩,rfl⟩,rfl⟩,rfl⟩,rfl⟩,rfl⟩,rfl⟩,rfl⟩,rfl⟩,rfl⟩,rfl⟩,rfl⟩,rfl⟩,rfl⟩,rfl⟩,rfl⟩,rfl⟩,rfl⟩

set_option maxRecDepth 100000 in
theorem g_A_3_1_011 (b : BS) (s : SR) (n1 n2 n3 : ND) (g1 : GV) (u : Int) (H : HB b) (h4 : 1 ≤ u) (h5 : u ≤ 127) (c1 : n1.c = false) (c2 : n2.c = true) (c3 : n3.c = true) : Holds (fitOA (head b.next .k s [n1.set u false, n2.set u true, n3.set u true] [g1]) none (runB b (.a u) s [n1, n2, n3] [g1] [true, true, true, true, false, true, true, true])) := by
  exact Holds.of (p := (((((((((((((((((((((((((((((((((((((((((((((((((((((((((True∧
((b.kl : Bool) = (true)))∧
((b.kl : Bool) = (true)))∧
((b.kl : Bool) = (true)))∧
((b.kl : Bool) = (true)))∧
((n1.c : Bool) = (false)))∧
ident u)∧
(((n2.c : Bool) = (true))∧
((Int.NonNeg (u - 1 : Int))∧
(Int.NonNeg (127 - u : Int)))))∧
ident u)∧
(((n3.c : Bool) = (true))∧
((Int.NonNeg (u - 1 : Int))∧
(Int.NonNeg (127 - u : Int)))))∧
ident u)∧
ident b.mw)∧
ident b.ak)∧
((decide (b.mw ≥ b.aw) : Bool) = (true)))∧
ident b.f)∧
ident b.g)∧
((b.next.now : Int) = (b.nw)))∧
((b.next.k : Int) = (b.kw)))∧
((b.next.ak : Int) = (b.mw)))∧
ident b.h)∧
((b.next.now : Int) = (b.mw)))∧
ident b.nx)∧
((b.next.kp : Bool) = (b.kp)))∧
ident s.i0)∧
ident s.i1)∧
ident s.i2)∧
ident s.i3)∧
ident s.p)∧
ident s.b)∧
((s.o : Bool) = (s.o)))∧
((s.f : Bool) = (s.f)))∧
ident n1.i0)∧
ident n1.i1)∧
ident n1.i2)∧
ident n1.i3)∧
ident n1.x)∧
(((n1.set u false).c : Bool) = (false)))∧
ident n1.pl)∧
ident n2.i0)∧
ident n2.i1)∧
ident n2.i2)∧
ident n2.i3)∧
ident u)∧
(((n2.set u true).c : Bool) = (true)))∧
ident n2.pl)∧
ident n3.i0)∧
ident n3.i1)∧
ident n3.i2)∧
ident n3.i3)∧
ident u)∧
(((n3.set u true).c : Bool) = (true)))∧
ident n3.pl)∧
ident g1.i0)∧
ident g1.i1)∧
ident g1.i2)∧
ident g1.i3)∧
ident g1.a)∧
((g1.kp : Bool) = (g1.kp)))) (by kernel_rfl) ⟨⟨⟨⟨⟨⟨⟨⟨⟨⟨⟨⟨⟨⟨⟨⟨⟨⟨⟨⟨⟨⟨⟨⟨⟨⟨⟨⟨⟨⟨⟨⟨⟨⟨⟨⟨⟨⟨⟨⟨⟨⟨⟨⟨⟨⟨⟨⟨⟨⟨⟨⟨⟨⟨⟨⟨⟨⟨⟩,H.kl⟩,H.kl⟩,H.kl⟩,H.kl⟩,c1⟩,rfl⟩,⟨c2,⟨le1 h4,le1 h5⟩⟩⟩,rfl⟩,⟨c3,⟨le1 h4,le1 h5⟩⟩⟩,rfl⟩,rfl⟩,rfl⟩,H.due⟩,rfl⟩,rfl⟩,H.nw⟩,H.kw⟩,H.mw⟩,rfl⟩,H.mw⟩,rfl⟩,rfl⟩,rfl⟩,rfl⟩,rfl⟩,rfl⟩,rfl⟩,rfl⟩,rfl⟩,rfl⟩,rfl⟩,rfl⟩,rfl⟩,rfl⟩,rfl⟩,rfl⟩,rfl⟩,rfl⟩,rfl⟩,rfl⟩,rfl⟩,rfl⟩,rfl⟩,rfl⟩,rfl⟩,rfl⟩,rfl⟩,rfl⟩,rfl⟩,rfl⟩,rfl⟩,rfl⟩,rfl⟩,rfl⟩,rfl⟩,rfl⟩,rfl⟩

set_option maxRecDepth 100000 in
theorem g_K_3_1_011 (b : BS) (s : SR) (n1 n2 n3 : ND) (g1 : GV) (H : HB b) (c1 : n1.c = false) (c2 : n2.c = true) (c3 : n3.c = true) : Holds (fitOA (head b.kept .w s [n1, n2, n3] [g1]) none (runB b .k s [n1, n2, n3] [g1] [true, true, true, true, false, true, true, true])) := by
  exact Holds.of (p := ((((((((((((((((((((((((((((((((((((((((((((((((((((((True∧
((b.kl : Bool) = (true)))∧
((b.kl : Bool) = (true)))∧
((b.kl : Bool) = (true)))∧
((b.kl : Bool) = (true)))∧
((n1.c : Bool) = (false)))∧
((n2.c : Bool) = (true)))∧
((n3.c : Bool) = (true)))∧
ident b.mw)∧
ident b.ak)∧
((decide (b.mw ≥ b.aw) : Bool) = (true)))∧
ident b.f)∧
ident b.g)∧
((b.kept.now : Int) = (b.nw)))∧
((b.kept.k : Int) = (b.kw)))∧
((b.kept.ak : Int) = (b.mw)))∧
ident b.h)∧
((b.kept.now : Int) = (b.mw)))∧
ident b.nx)∧
((b.kept.kp : Bool) = (Nat.ble 0 0)))∧
ident s.i0)∧
ident s.i1)∧
ident s.i2)∧
ident s.i3)∧
ident s.p)∧
ident s.b)∧
((s.o : Bool) = (s.o)))∧
((s.f : Bool) = (s.f)))∧
ident n1.i0)∧
ident n1.i1)∧
ident n1.i2)∧
ident n1.i3)∧
ident n1.x)∧
((n1.c : Bool) = (n1.c)))∧
ident n1.pl)∧
ident n2.i0)∧
ident n2.i1)∧
ident n2.i2)∧
ident n2.i3)∧
ident n2.x)∧
((n2.c : Bool) = (n2.c)))∧
ident n2.pl)∧
ident n3.i0)∧
ident n3.i1)∧
ident n3.i2)∧
ident n3.i3)∧
ident n3.x)∧
((n3.c : Bool) = (n3.c)))∧
ident n3.pl)∧
ident g1.i0)∧
ident g1.i1)∧
ident g1.i2)∧
ident g1.i3)∧
ident g1.a)∧
((g1.kp : Bool) = (g1.kp)))) (by kernel_rfl) ⟨⟨⟨⟨⟨⟨⟨⟨⟨⟨⟨⟨⟨⟨⟨⟨⟨⟨⟨⟨⟨⟨⟨⟨⟨⟨⟨⟨⟨⟨⟨⟨⟨⟨⟨⟨⟨⟨⟨⟨⟨⟨⟨⟨⟨⟨⟨⟨⟨⟨⟨⟨⟨⟨⟨⟩,H.kl⟩,H.kl⟩,H.kl⟩,H.kl⟩,c1⟩,c2⟩,c3⟩,rfl⟩,rfl⟩,H.due⟩,rfl⟩,rfl⟩,H.nw⟩,H.kw⟩,H.mw⟩,rfl⟩,H.mw⟩,rfl⟩,rfl⟩,rfl⟩,rfl⟩,rfl⟩,rfl⟩,rfl⟩,rfl⟩,rfl⟩,rfl⟩,rfl⟩,rfl⟩,rfl⟩,rfl⟩,rfl⟩,rfl⟩,rfl⟩,rfl⟩,rfl⟩,rfl⟩,rfl⟩,rfl⟩,rfl⟩,rfl⟩,rfl⟩,rfl⟩,rfl⟩,rfl⟩,rfl⟩,rfl⟩,rfl⟩,rfl⟩,rfl⟩,rfl⟩,rfl⟩,rfl⟩,rfl⟩

set_option maxRecDepth 100000 in
theorem g_Sc_3_1_100 (b : BS) (s : SR) (n1 n2 n3 : ND) (g1 : GV) (a1 a2 a3 a4 fb fu ft : Int) (H : HB b) (h : HS s fb fu) (c1 : n1.c = false) (r1 : n1.ok a1 a2 a3 a4 fb fu = true) (c2 : n2.c = false) (r2 : n2.ok a1 a2 a3 a4 fb fu = false) (c3 : n3.c = false) (r3 : n3.ok a1 a2 a3 a4 fb fu = false) (t : HT (s.told true)) : Holds (fitOA (head b.next (s.told true).ask (s.told true) [n1.hears true fb fu ft, n2.hears false fb fu ft, n3.hears false fb fu ft] [g1]) none (runB b (.s a1 a2 a3 a4 fb fu ft) s [n1, n2, n3] [g1] [true, true, true, true, true, false, false, true, false, false, false, false])) := by
  exact Holds.of (p := ((((((((((((((((((((((((((((((((((((((((((((((((((((((((((((((((((((((((((((((((((((((((True∧
((b.kl : Bool) = (true)))∧
((b.kl : Bool) = (true)))∧
((b.kl : Bool) = (true)))∧
((b.kl : Bool) = (true)))∧
(((n1.c : Bool) = (false))∧
((Int.NonNeg (fu - 0 : Int))∧
((Int.NonNeg (3 - fu : Int))∧
((Int.NonNeg (fb - 0 : Int))∧
((n1.ok a1 a2 a3 a4 fb fu : Bool) = (true)))))))∧
ident a1)∧
ident a2)∧
ident a3)∧
ident a4)∧
ident fb)∧
ident fu)∧
ident ft)∧
(((n2.c : Bool) = (false))∧
((Int.NonNeg (fu - 0 : Int))∧
((Int.NonNeg (3 - fu : Int))∧
((Int.NonNeg (fb - 0 : Int))∧
((n2.ok a1 a2 a3 a4 fb fu : Bool) = (false)))))))∧
ident a1)∧
ident a2)∧
ident a3)∧
ident a4)∧
ident fb)∧
ident fu)∧
ident ft)∧
(((n3.c : Bool) = (false))∧
((Int.NonNeg (fu - 0 : Int))∧
((Int.NonNeg (3 - fu : Int))∧
((Int.NonNeg (fb - 0 : Int))∧
((n3.ok a1 a2 a3 a4 fb fu : Bool) = (false)))))))∧
ident a1)∧
ident a2)∧
ident a3)∧
ident a4)∧
ident fb)∧
ident fu)∧
ident ft)∧
ident b.mw)∧
ident b.ak)∧
((decide (b.mw ≥ b.aw) : Bool) = (true)))∧
((Int.NonNeg (s.p - 0 : Int))∧
((Int.NonNeg (3 - s.p : Int))∧
((Int.NonNeg (s.b - -1 : Int))∧
((Int.NonNeg (32 - s.b : Int))∧
(((s.o : Bool) = (false))∧
((s.f : Bool) = (false))))))))∧
(((s.told true).f : Bool) = (false)))∧
(((s.told true).o : Bool) = (false)))∧
(((s.told true).o : Bool) = (false)))∧
(((s.told true).o : Bool) = (false)))∧
((Int.NonNeg ((s.told true).p - 0 : Int))∧
((Int.NonNeg (3 - (s.told true).p : Int))∧
((Int.NonNeg ((s.told true).b - -1 : Int))∧
((Int.NonNeg (32 - (s.told true).b : Int))∧
((((s.told true).o : Bool) = (false))∧
(((s.told true).f : Bool) = (false))))))))∧
ident b.f)∧
ident b.g)∧
((b.next.now : Int) = (b.nw)))∧
((b.next.k : Int) = (b.kw)))∧
((b.next.ak : Int) = (b.mw)))∧
ident b.h)∧
((b.next.now : Int) = (b.mw)))∧
ident b.nx)∧
((b.next.kp : Bool) = (b.kp)))∧
ident ((s.told true).i0))∧
ident ((s.told true).i1))∧
ident ((s.told true).i2))∧
ident ((s.told true).i3))∧
ident ((s.told true).p))∧
ident ((s.told true).b))∧
(((s.told true).o : Bool) = (false)))∧
(((s.told true).f : Bool) = (false)))∧
ident n1.i0)∧
ident n1.i1)∧
ident n1.i2)∧
ident n1.i3)∧
ident n1.x)∧
(((n1.hears true fb fu ft).c : Bool) = (hearC fb fu ft)))∧
ident (hearP n1.pl fb ft))∧
ident n2.i0)∧
ident n2.i1)∧
ident n2.i2)∧
ident n2.i3)∧
ident n2.x)∧
(((n2.hears false fb fu ft).c : Bool) = (false)))∧
ident n2.pl)∧
ident n3.i0)∧
ident n3.i1)∧
ident n3.i2)∧
ident n3.i3)∧
ident n3.x)∧
(((n3.hears false fb fu ft).c : Bool) = (false)))∧
ident n3.pl)∧
ident (IntKind.u8.wrap ((s.told true).sel)))∧
ident (byK ((s.told true).sel) 8))∧
ident (byK ((s.told true).sel) 16))∧
ident (byK ((s.told true).sel) 24))∧
ident (bitsF ((s.told true).b)))∧
ident ((s.told true).p))∧
ident (nextF ((s.told true).p) ((s.told true).b)))∧
ident g1.i0)∧
ident g1.i1)∧
ident g1.i2)∧
ident g1.i3)∧
ident g1.a)∧
((g1.kp : Bool) = (g1.kp)))) (by kernel_rfl) ⟨⟨⟨⟨⟨⟨⟨⟨⟨⟨⟨⟨⟨⟨⟨⟨⟨⟨⟨⟨⟨⟨⟨⟨⟨⟨⟨⟨⟨⟨⟨⟨⟨⟨⟨⟨⟨⟨⟨⟨⟨⟨⟨⟨⟨⟨⟨⟨⟨⟨⟨⟨⟨⟨⟨⟨⟨⟨⟨⟨⟨⟨⟨⟨⟨⟨⟨⟨⟨⟨⟨⟨⟨⟨⟨⟨⟨⟨⟨⟨⟨⟨⟨⟨⟨⟨⟨⟨⟨⟩,H.kl⟩,H.kl⟩,H.kl⟩,H.kl⟩,⟨c1,⟨le1 h.u0,⟨le1 h.u3,⟨le1 h.b0,r1⟩⟩⟩⟩⟩,rfl⟩,rfl⟩,rfl⟩,rfl⟩,rfl⟩,rfl⟩,rfl⟩,⟨c2,⟨le1 h.u0,⟨le1 h.u3,⟨le1 h.b0,r2⟩⟩⟩⟩⟩,rfl⟩,rfl⟩,rfl⟩,rfl⟩,rfl⟩,rfl⟩,rfl⟩,⟨c3,⟨le1 h.u0,⟨le1 h.u3,⟨le1 h.b0,r3⟩⟩⟩⟩⟩,rfl⟩,rfl⟩,rfl⟩,rfl⟩,rfl⟩,rfl⟩,rfl⟩,rfl⟩,rfl⟩,H.due⟩,⟨le1 h.p0,⟨le1 h.p3,⟨le1 h.b1,⟨le1 h.b32,⟨h.o,h.f⟩⟩⟩⟩⟩⟩,t.f⟩,t.o⟩,t.o⟩,t.o⟩,⟨le1 t.p0,⟨le1 t.p3,⟨le1 t.b1,⟨le1 t.b32,⟨t.o,t.f⟩⟩⟩⟩⟩⟩,rfl⟩,rfl⟩,H.nw⟩,H.kw⟩,H.mw⟩,rfl⟩,H.mw⟩,rfl⟩,rfl⟩,rfl⟩,rfl⟩,rfl⟩,rfl⟩,rfl⟩,rfl⟩,t.o⟩,t.f⟩,rfl⟩,rfl⟩,rfl⟩,rfl⟩,rfl⟩,rfl⟩,rfl⟩,rfl⟩,rfl⟩,rfl⟩,rfl⟩,rfl⟩,rfl⟩,rfl⟩,rfl⟩,rfl⟩,rfl⟩,rfl⟩,rfl⟩,rfl⟩,rfl⟩,rfl⟩,rfl⟩,rfl⟩,rfl⟩,rfl⟩,rfl⟩,rfl⟩,rfl⟩,rfl⟩,rfl⟩,rfl⟩,rfl⟩,rfl⟩

set_option maxRecDepth 100000 in
theorem g_Sf_3_1_100 (b : BS) (s : SR) (n1 n2 n3 : ND) (g1 : GV) (a1 a2 a3 a4 fb fu ft : Int) (H : HB b) (h : HS s fb fu) (c1 : n1.c = false) (r1 : n1.ok a1 a2 a3 a4 fb fu = true) (c2 : n2.c = false) (r2 : n2.ok a1 a2 a3 a4 fb fu = false) (c3 : n3.c = false) (r3 : n3.ok a1 a2 a3 a4 fb fu = false) (tf : (s.told true).f = true) : Holds (fitOA (head b.asked (.a b.nx) (s.told true) [n1.hears true fb fu ft, n2.hears false fb fu ft, n3.hears false fb fu ft] [g1]) none (runB b (.s a1 a2 a3 a4 fb fu ft) s [n1, n2, n3] [g1] [true, true, true, true, true, false, false, true, true])) := by
  exact Holds.of (p := ((((((((((((((((((((((((((((((((((((((((((((((((((((((((((((((((((((((((((((((True∧
((b.kl : Bool) = (true)))∧
((b.kl : Bool) = (true)))∧
((b.kl : Bool) = (true)))∧
((b.kl : Bool) = (true)))∧
(((n1.c : Bool) = (false))∧
((Int.NonNeg (fu - 0 : Int))∧
((Int.NonNeg (3 - fu : Int))∧
((Int.NonNeg (fb - 0 : Int))∧
((n1.ok a1 a2 a3 a4 fb fu : Bool) = (true)))))))∧
ident a1)∧
ident a2)∧
ident a3)∧
ident a4)∧
ident fb)∧
ident fu)∧
ident ft)∧
(((n2.c : Bool) = (false))∧
((Int.NonNeg (fu - 0 : Int))∧
((Int.NonNeg (3 - fu : Int))∧
((Int.NonNeg (fb - 0 : Int))∧
((n2.ok a1 a2 a3 a4 fb fu : Bool) = (false)))))))∧
ident a1)∧
ident a2)∧
ident a3)∧
ident a4)∧
ident fb)∧
ident fu)∧
ident ft)∧
(((n3.c : Bool) = (false))∧
((Int.NonNeg (fu - 0 : Int))∧
((Int.NonNeg (3 - fu : Int))∧
((Int.NonNeg (fb - 0 : Int))∧
((n3.ok a1 a2 a3 a4 fb fu : Bool) = (false)))))))∧
ident a1)∧
ident a2)∧
ident a3)∧
ident a4)∧
ident fb)∧
ident fu)∧
ident ft)∧
ident b.mw)∧
ident b.ak)∧
((decide (b.mw ≥ b.aw) : Bool) = (true)))∧
((Int.NonNeg (s.p - 0 : Int))∧
((Int.NonNeg (3 - s.p : Int))∧
((Int.NonNeg (s.b - -1 : Int))∧
((Int.NonNeg (32 - s.b : Int))∧
(((s.o : Bool) = (false))∧
((s.f : Bool) = (false))))))))∧
(((s.told true).f : Bool) = (true)))∧
ident b.f)∧
ident b.g)∧
((b.asked.now : Int) = (b.nw)))∧
((b.asked.k : Int) = (b.kw)))∧
((b.asked.ak : Int) = (b.mw)))∧
ident b.nx)∧
((b.asked.now : Int) = (b.mw)))∧
ident b.nx)∧
((b.asked.kp : Bool) = (b.kp)))∧
ident ((s.told true).i0))∧
ident ((s.told true).i1))∧
ident ((s.told true).i2))∧
ident ((s.told true).i3))∧
ident ((s.told true).p))∧
ident ((s.told true).b))∧
(((s.told true).o : Bool) = ((s.told true).o)))∧
(((s.told true).f : Bool) = ((s.told true).f)))∧
ident n1.i0)∧
ident n1.i1)∧
ident n1.i2)∧
ident n1.i3)∧
ident n1.x)∧
(((n1.hears true fb fu ft).c : Bool) = (hearC fb fu ft)))∧
ident (hearP n1.pl fb ft))∧
ident n2.i0)∧
ident n2.i1)∧
ident n2.i2)∧
ident n2.i3)∧
ident n2.x)∧
(((n2.hears false fb fu ft).c : Bool) = (false)))∧
ident n2.pl)∧
ident n3.i0)∧
ident n3.i1)∧
ident n3.i2)∧
ident n3.i3)∧
ident n3.x)∧
(((n3.hears false fb fu ft).c : Bool) = (false)))∧
ident n3.pl)∧
ident b.nx)∧
ident g1.i0)∧
ident g1.i1)∧
ident g1.i2)∧
ident g1.i3)∧
ident g1.a)∧
((g1.kp : Bool) = (g1.kp)))) (by kernel_rfl) ⟨⟨⟨⟨⟨⟨⟨⟨⟨⟨⟨⟨⟨⟨⟨⟨⟨⟨⟨⟨⟨⟨⟨⟨⟨⟨⟨⟨⟨⟨⟨⟨⟨⟨⟨⟨⟨⟨⟨⟨⟨⟨⟨⟨⟨⟨⟨⟨⟨⟨⟨⟨⟨⟨⟨⟨⟨⟨⟨⟨⟨⟨⟨⟨⟨⟨⟨⟨⟨⟨⟨⟨⟨⟨⟨⟨⟨⟨⟨⟩,H.kl⟩,H.kl⟩,H.kl⟩,H.kl⟩,⟨c1,⟨le1 h.u0,⟨le1 h.u3,⟨le1 h.b0,r1⟩⟩⟩⟩⟩,rfl⟩,rfl⟩,rfl⟩,rfl⟩,rfl⟩,rfl⟩,rfl⟩,⟨c2,⟨le1 h.u0,⟨le1 h.u3,⟨le1 h.b0,r2⟩⟩⟩⟩⟩,rfl⟩,rfl⟩,rfl⟩,rfl⟩,rfl⟩,rfl⟩,rfl⟩,⟨c3,⟨le1 h.u0,⟨le1 h.u3,⟨le1 h.b0,r3⟩⟩⟩⟩⟩,rfl⟩,rfl⟩,rfl⟩,rfl⟩,rfl⟩,rfl⟩,rfl⟩,rfl⟩,rfl⟩,H.due⟩,⟨le1 h.p0,⟨le1 h.p3,⟨le1 h.b1,⟨le1 h.b32,⟨h.o,h.f⟩⟩⟩⟩⟩⟩,tf⟩,rfl⟩,rfl⟩,H.nw⟩,H.kw⟩,H.mw⟩,rfl⟩,H.mw⟩,rfl⟩,rfl⟩,rfl⟩,rfl⟩,rfl⟩,rfl⟩,rfl⟩,rfl⟩,rfl⟩,rfl⟩,rfl⟩,rfl⟩,rfl⟩,rfl⟩,rfl⟩,rfl⟩,rfl⟩,rfl⟩,rfl⟩,rfl⟩,rfl⟩,rfl⟩,rfl⟩,rfl⟩,rfl⟩,rfl⟩,rfl⟩,rfl⟩,rfl⟩,rfl⟩,rfl⟩,rfl⟩,rfl⟩,rfl⟩,rfl⟩,rfl⟩,rfl⟩,rfl⟩

set_option maxRecDepth 100000 in
theorem g_A_3_1_100 (b : BS) (s : SR) (n1 n2 n3 : ND) (g1 : GV) (u : Int) (H : HB b) (h4 : 1 ≤ u) (h5 : u ≤ 127) (c1 : n1.c = true) (c2 : n2.c = false) (c3 : n3.c = false) : Holds (fitOA (head b.next .k s [n1.set u true, n2.set u false, n3.set u false] [g1]) none (runB b (.a u) s [n1, n2, n3] [g1] [true, true, true, true, true, false, false, true])) := by
  exact Holds.of (p := (((((((((((((((((((((((((((((((((((((((((((((((((((((((((True∧
((b.kl : Bool) = (true)))∧
((b.kl : Bool) = (true)))∧
((b.kl : Bool) = (true)))∧
((b.kl : Bool) = (true)))∧
(((n1.c : Bool) = (true))∧
((Int.NonNeg (u - 1 : Int))∧
(Int.NonNeg (127 - u : Int)))))∧
ident u)∧
((n2.c : Bool) = (false)))∧
ident u)∧
((n3.c : Bool) = (false)))∧
ident u)∧
ident b.mw)∧
ident b.ak)∧
((decide (b.mw ≥ b.aw) : Bool) = (true)))∧
ident b.f)∧
ident b.g)∧
((b.next.now : Int) = (b.nw)))∧
((b.next.k : Int) = (b.kw)))∧
((b.next.ak : Int) = (b.mw)))∧
ident b.h)∧
((b.next.now : Int) = (b.mw)))∧
ident b.nx)∧
((b.next.kp : Bool) = (b.kp)))∧
ident s.i0)∧
ident s.i1)∧
ident s.i2)∧
ident s.i3)∧
ident s.p)∧
ident s.b)∧
((s.o : Bool) = (s.o)))∧
((s.f : Bool) = (s.f)))∧
ident n1.i0)∧
ident n1.i1)∧
ident n1.i2)∧
ident n1.i3)∧
ident u)∧
(((n1.set u true).c : Bool) = (true)))∧
ident n1.pl)∧
ident n2.i0)∧
ident n2.i1)∧
ident n2.i2)∧
ident n2.i3)∧
ident n2.x)∧
(((n2.set u false).c : Bool) = (false)))∧
ident n2.pl)∧
ident n3.i0)∧
ident n3.i1)∧
ident n3.i2)∧
ident n3.i3)∧
ident n3.x)∧
(((n3.set u false).c : Bool) = (false)))∧
ident n3.pl)∧
ident g1.i0)∧
ident g1.i1)∧
ident g1.i2)∧
ident g1.i3)∧
ident g1.a)∧
((g1.kp : Bool) = (g1.kp)))) (by kernel_rfl) ⟨⟨⟨⟨⟨⟨⟨⟨⟨⟨⟨⟨⟨⟨⟨⟨⟨⟨⟨⟨⟨⟨⟨⟨⟨⟨⟨⟨⟨⟨⟨⟨⟨⟨⟨⟨⟨⟨⟨⟨⟨⟨⟨⟨⟨⟨⟨⟨⟨⟨⟨⟨⟨⟨⟨⟨⟨⟨⟩,H.kl⟩,H.kl⟩,H.kl⟩,H.kl⟩,⟨c1,⟨le1 h4,le1 h5⟩⟩⟩,rfl⟩,c2⟩,rfl⟩,c3⟩,rfl⟩,rfl⟩,rfl⟩,H.due⟩,rfl⟩,rfl⟩,H.nw⟩,H.kw⟩,H.mw⟩,rfl⟩,H.mw⟩,rfl⟩,rfl⟩,rfl⟩,rfl⟩,rfl⟩,rfl⟩,rfl⟩,rfl⟩,rfl⟩,rfl⟩,rfl⟩,rfl⟩,rfl⟩,rfl⟩,rfl⟩,rfl⟩,rfl⟩,rfl⟩,rfl⟩,rfl⟩,rfl⟩,rfl⟩,rfl⟩,rfl⟩,rfl⟩,rfl⟩,rfl⟩,rfl⟩,rfl⟩,rfl⟩,rfl⟩,rfl⟩,rfl⟩,rfl⟩,rfl⟩,rfl⟩,rfl⟩

set_option maxRecDepth 100000 in
theorem g_K_3_1_100 (b : BS) (s : SR) (n1 n2 n3 : ND) (g1 : GV) (H : HB b) (c1 : n1.c = true) (c2 : n2.c = false) (c3 : n3.c = false) : Holds (fitOA (head b.kept .w s [n1, n2, n3] [g1]) none (runB b .k s [n1, n2, n3] [g1] [true, true, true, true, true, false, false, true])) := by
  exact Holds.of (p := ((((((((((((((((((((((((((((((((((((((((((((((((((((((True∧
((b.kl : Bool) = (true)))∧
((b.kl : Bool) = (true)))∧
((b.kl : Bool) = (true)))∧
((b.kl : Bool) = (true)))∧
((n1.c : Bool) = (true)))∧
((n2.c : Bool) = (false)))∧
((n3.c : Bool) = (false)))∧
ident b.mw)∧
ident b.ak)∧
((decide (b.mw ≥ b.aw) : Bool) = (true)))∧
ident b.f)∧
ident b.g)∧
((b.kept.now : Int) = (b.nw)))∧
((b.kept.k : Int) = (b.kw)))∧
((b.kept.ak : Int) = (b.mw)))∧
ident b.h)∧
((b.kept.now : Int) = (b.mw)))∧
ident b.nx)∧
((b.kept.kp : Bool) = (Nat.ble 0 0)))∧
ident s.i0)∧
ident s.i1)∧
ident s.i2)∧
ident s.i3)∧
ident s.p)∧
ident s.b)∧
((s.o : Bool) = (s.o)))∧
((s.f : Bool) = (s.f)))∧
ident n1.i0)∧
ident n1.i1)∧
ident n1.i2)∧
ident n1.i3)∧
ident n1.x)∧
((n1.c : Bool) = (n1.c)))∧
ident n1.pl)∧
ident n2.i0)∧
ident n2.i1)∧
ident n2.i2)∧
ident n2.i3)∧
ident n2.x)∧
((n2.c : Bool) = (n2.c)))∧
ident n2.pl)∧
ident n3.i0)∧
ident n3.i1)∧
ident n3.i2)∧
ident n3.i3)∧
ident n3.x)∧
((n3.c : Bool) = (n3.c)))∧
ident n3.pl)∧
ident g1.i0)∧
ident g1.i1)∧
ident g1.i2)∧
ident g1.i3)∧
ident g1.a)∧
((g1.kp : Bool) = (g1.kp)))) (by kernel_rfl) ⟨⟨⟨⟨⟨⟨⟨⟨⟨⟨⟨⟨⟨⟨⟨⟨⟨⟨⟨⟨⟨⟨⟨⟨⟨⟨⟨⟨⟨⟨⟨⟨⟨⟨⟨⟨⟨⟨⟨⟨⟨⟨⟨⟨⟨⟨⟨⟨⟨⟨⟨⟨⟨⟨⟨⟩,H.kl⟩,H.kl⟩,H.kl⟩,H.kl⟩,c1⟩,c2⟩,c3⟩,rfl⟩,rfl⟩,H.due⟩,rfl⟩,rfl⟩,H.nw⟩,H.kw⟩,H.mw⟩,rfl⟩,H.mw⟩,rfl⟩,rfl⟩,rfl⟩,rfl⟩,rfl⟩,rfl⟩,rfl⟩,rfl⟩,rfl⟩,rfl⟩,rfl⟩,rfl⟩,rfl⟩,rfl⟩,rfl⟩,rfl⟩,rfl⟩,rfl⟩,rfl⟩,rfl⟩,rfl⟩,rfl⟩,rfl⟩,rfl⟩,rfl⟩,rfl⟩,rfl⟩,rfl⟩,rfl⟩,rfl⟩,rfl⟩,rfl⟩,rfl⟩,rfl⟩,rfl⟩,rfl⟩,rfl⟩

set_option maxRecDepth 100000 in
theorem g_Sc_3_1_101 (b : BS) (s : SR) (n1 n2 n3 : ND) (g1 : GV) (a1 a2 a3 a4 fb fu ft : Int) (H : HB b) (h : HS s fb fu) (c1 : n1.c = false) (r1 : n1.ok a1 a2 a3 a4 fb fu = true) (c2 : n2.c = false) (r2 : n2.ok a1 a2 a3 a4 fb fu = false) (c3 : n3.c = false) (r3 : n3.ok a1 a2 a3 a4 fb fu = true) (t : HT (s.told true)) : Holds (fitOA (head b.next (s.told true).ask (s.told true) [n1.hears true fb fu ft, n2.hears false fb fu ft, n3.hears true fb fu ft] [g1]) none (runB b (.s a1 a2 a3 a4 fb fu ft) s [n1, n2, n3] [g1] [true, true, true, true, true, false, true, true, false, false, false, false])) := by
  exact Holds.of (p := ((((((((((((((((((((((((((((((((((((((((((((((((((((((((((((((((((((((((((((((((((((((((True∧
((b.kl : Bool) = (true)))∧
((b.kl : Bool) = (true)))∧
((b.kl : Bool) = (true)))∧
((b.kl : Bool) = (true)))∧
(((n1.c : Bool) = (false))∧
((Int.NonNeg (fu - 0 : Int))∧
((Int.NonNeg (3 - fu : Int))∧
((Int.NonNeg (fb - 0 : Int))∧
((n1.ok a1 a2 a3 a4 fb fu : Bool) = (true)))))))∧
ident a1)∧
ident a2)∧
ident a3)∧
ident a4)∧
ident fb)∧
ident fu)∧
ident ft)∧
(((n2.c : Bool) = (false))∧
((Int.NonNeg (fu - 0 : Int))∧
((Int.NonNeg (3 - fu : Int))∧
((Int.NonNeg (fb - 0 : Int))∧
((n2.ok a1 a2 a3 a4 fb fu : Bool) = (false)))))))∧
ident a1)∧
ident a2)∧
ident a3)∧
ident a4)∧
ident fb)∧
ident fu)∧
ident ft)∧
(((n3.c : Bool) = (false))∧
((Int.NonNeg (fu - 0 : Int))∧
((Int.NonNeg (3 - fu : Int))∧
((Int.NonNeg (fb - 0 : Int))∧
((n3.ok a1 a2 a3 a4 fb fu : Bool) = (true)))))))∧
ident a1)∧
ident a2)∧
ident a3)∧
ident a4)∧
ident fb)∧
ident fu)∧
ident ft)∧
ident b.mw)∧
ident b.ak)∧
((decide (b.mw ≥ b.aw) : Bool) = (true)))∧
((Int.NonNeg (s.p - 0 : Int))∧
((Int.NonNeg (3 - s.p : Int))∧
((Int.NonNeg (s.b - -1 : Int))∧
((Int.NonNeg (32 - s.b : Int))∧
(((s.o : Bool) = (false))∧
((s.f : Bool) = (false))))))))∧
(((s.told true).f : Bool) = (false)))∧
(((s.told true).o : Bool) = (false)))∧
(((s.told true).o : Bool) = (false)))∧
(((s.told true).o : Bool) = (false)))∧
((Int.NonNeg ((s.told true).p - 0 : Int))∧
((Int.NonNeg (3 - (s.told true).p : Int))∧
((Int.NonNeg ((s.told true).b - -1 : Int))∧
((Int.NonNeg (32 - (s.told true).b : Int))∧
((((s.told true).o : Bool) = (false))∧
(((s.told true).f : Bool) = (false))))))))∧
ident b.f)∧
ident b.g)∧
((b.next.now : Int) = (b.nw)))∧
((b.next.k : Int) = (b.kw)))∧
((b.next.ak : Int) = (b.mw)))∧
ident b.h)∧
((b.next.now : Int) = (b.mw)))∧
ident b.nx)∧
((b.next.kp : Bool) = (b.kp)))∧
ident ((s.told true).i0))∧
ident ((s.told true).i1))∧
ident ((s.told true).i2))∧
ident ((s.told true).i3))∧
ident ((s.told true).p))∧
ident ((s.told true).b))∧
(((s.told true).o : Bool) = (false)))∧
(((s.told true).f : Bool) = (false)))∧
ident n1.i0)∧
ident n1.i1)∧
ident n1.i2)∧
ident n1.i3)∧
ident n1.x)∧
(((n1.hears true fb fu ft).c : Bool) = (hearC fb fu ft)))∧
ident (hearP n1.pl fb ft))∧
ident n2.i0)∧
ident n2.i1)∧
ident n2.i2)∧
ident n2.i3)∧
ident n2.x)∧
(((n2.hears false fb fu ft).c : Bool) = (false)))∧
ident n2.pl)∧
ident n3.i0)∧
ident n3.i1)∧
ident n3.i2)∧
ident n3.i3)∧
ident n3.x)∧
(((n3.hears true fb fu ft).c : Bool) = (hearC fb fu ft)))∧
ident (hearP n3.pl fb ft))∧
ident (IntKind.u8.wrap ((s.told true).sel)))∧
ident (byK ((s.told true).sel) 8))∧
ident (byK ((s.told true).sel) 16))∧
ident (byK ((s.told true).sel) 24))∧
ident (bitsF ((s.told true).b)))∧
ident ((s.told true).p))∧
ident (nextF ((s.told true).p) ((s.told true).b)))∧
ident g1.i0)∧
ident g1.i1)∧
ident g1.i2)∧
ident g1.i3)∧
ident g1.a)∧
((g1.kp : Bool) = (g1.kp)))) (by kernel_rfl) ⟨⟨⟨⟨⟨⟨⟨⟨⟨⟨⟨⟨⟨⟨⟨⟨⟨⟨⟨⟨⟨⟨⟨⟨⟨⟨⟨⟨⟨⟨⟨⟨⟨⟨⟨⟨⟨⟨⟨⟨⟨⟨⟨⟨⟨⟨⟨⟨⟨⟨⟨⟨⟨⟨⟨⟨⟨⟨⟨⟨⟨⟨⟨⟨⟨⟨⟨⟨⟨⟨⟨⟨⟨⟨⟨⟨⟨⟨⟨⟨⟨⟨⟨⟨⟨⟨⟨⟨⟨⟩,H.kl⟩,H.kl⟩,H.kl⟩,H.kl⟩,⟨c1,⟨le1 h.u0,⟨le1 h.u3,⟨le1 h.b0,r1⟩⟩⟩⟩⟩,rfl⟩,rfl⟩,rfl⟩,rfl⟩,rfl⟩,rfl⟩,rfl⟩,⟨c2,⟨le1 h.u0,⟨le1 h.u3,⟨le1 h.b0,r2⟩⟩⟩⟩⟩,rfl⟩,rfl⟩,rfl⟩,rfl⟩,rfl⟩,rfl⟩,rfl⟩,⟨c3,⟨le1 h.u0,⟨le1 h.u3,⟨le1 h.b0,r3⟩⟩⟩⟩⟩,rfl⟩,rfl⟩,rfl⟩,rfl⟩,rfl⟩,rfl⟩,rfl⟩,rfl⟩,rfl⟩,H.due⟩,⟨le1 h.p0,⟨le1 h.p3,⟨le1 h.b1,⟨le1 h.b32,⟨h.o,h.f⟩⟩⟩⟩⟩⟩,t.f⟩,t.o⟩,t.o⟩,t.o⟩,⟨le1 t.p0,⟨le1 t.p3,⟨le1 t.b1,⟨le1 t.b32,⟨t.o,t.f⟩⟩⟩⟩⟩⟩,rfl⟩,rfl⟩,H.nw⟩,H.kw⟩,H.mw⟩,rfl⟩,H.mw⟩,rfl⟩,rfl⟩,rfl⟩,rfl⟩,rfl⟩,rfl⟩,rfl⟩,rfl⟩,t.o⟩,t.f⟩,rfl⟩,rfl⟩,rfl⟩,rfl⟩,rfl⟩,rfl⟩,rfl⟩,rfl⟩,rfl⟩,rfl⟩,rfl⟩,rfl⟩,rfl⟩,rfl⟩,rfl⟩,rfl⟩,rfl⟩,rfl⟩,rfl⟩,rfl⟩,rfl⟩,rfl⟩,rfl⟩,rfl⟩,rfl⟩,rfl⟩,rfl⟩,rfl⟩,rfl⟩,rfl⟩,rfl⟩,rfl⟩,rfl⟩,rfl⟩

set_option maxRecDepth 100000 in
theorem g_Sf_3_1_101 (b : BS) (s : SR) (n1 n2 n3 : ND) (g1 : GV) (a1 a2 a3 a4 fb fu ft : Int) (H : HB b) (h : HS s fb fu) (c1 : n1.c = false) (r1 : n1.ok a1 a2 a3 a4 fb fu = true) (c2 : n2.c = false) (r2 : n2.ok a1 a2 a3 a4 fb fu = false) (c3 : n3.c = false) (r3 : n3.ok a1 a2 a3 a4 fb fu = true) (tf : (s.told true).f = true) : Holds (fitOA (head b.asked (.a b.nx) (s.told true) [n1.hears true fb fu ft, n2.hears false fb fu ft, n3.hears true fb fu ft] [g1]) none (runB b (.s a1 a2 a3 a4 fb fu ft) s [n1, n2, n3] [g1] [true, true, true, true, true, false, true, true, true])) := by
  exact Holds.of (p := ((((((((((((((((((((((((((((((((((((((((((((((((((((((((((((((((((((((((((((((True∧
((b.kl : Bool) = (true)))∧
((b.kl : Bool) = (true)))∧
((b.kl : Bool) = (true)))∧
((b.kl : Bool) = (true)))∧
(((n1.c : Bool) = (false))∧
((Int.NonNeg (fu - 0 : Int))∧
((Int.NonNeg (3 - fu : Int))∧
((Int.NonNeg (fb - 0 : Int))∧
((n1.ok a1 a2 a3 a4 fb fu : Bool) = (true)))))))∧
ident a1)∧
ident a2)∧
ident a3)∧
ident a4)∧
ident fb)∧
ident fu)∧
ident ft)∧
(((n2.c : Bool) = (false))∧
((Int.NonNeg (fu - 0 : Int))∧
((Int.NonNeg (3 - fu : Int))∧
((Int.NonNeg (fb - 0 : Int))∧
((n2.ok a1 a2 a3 a4 fb fu : Bool) = (false)))))))∧
ident a1)∧
ident a2)∧
ident a3)∧
ident a4)∧
ident fb)∧
ident fu)∧
ident ft)∧
(((n3.c : Bool) = (false))∧
((Int.NonNeg (fu - 0 : Int))∧
((Int.NonNeg (3 - fu : Int))∧
((Int.NonNeg (fb - 0 : Int))∧
((n3.ok a1 a2 a3 a4 fb fu : Bool) = (true)))))))∧
ident a1)∧
ident a2)∧
ident a3)∧
ident a4)∧
ident fb)∧
ident fu)∧
ident ft)∧
ident b.mw)∧
ident b.ak)∧
((decide (b.mw ≥ b.aw) : Bool) = (true)))∧
((Int.NonNeg (s.p - 0 : Int))∧
((Int.NonNeg (3 - s.p : Int))∧
((Int.NonNeg (s.b - -1 : Int))∧
((Int.NonNeg (32 - s.b : Int))∧
(((s.o : Bool) = (false))∧
((s.f : Bool) = (false))))))))∧
(((s.told true).f : Bool) = (true)))∧
ident b.f)∧
ident b.g)∧
((b.asked.now : Int) = (b.nw)))∧
((b.asked.k : Int) = (b.kw)))∧
((b.asked.ak : Int) = (b.mw)))∧
ident b.nx)∧
((b.asked.now : Int) = (b.mw)))∧
ident b.nx)∧
((b.asked.kp : Bool) = (b.kp)))∧
ident ((s.told true).i0))∧
ident ((s.told true).i1))∧
ident ((s.told true).i2))∧
ident ((s.told true).i3))∧
ident ((s.told true).p))∧
ident ((s.told true).b))∧
(((s.told true).o : Bool) = ((s.told true).o)))∧
(((s.told true).f : Bool) = ((s.told true).f)))∧
ident n1.i0)∧
ident n1.i1)∧
ident n1.i2)∧
ident n1.i3)∧
ident n1.x)∧
(((n1.hears true fb fu ft).c : Bool) = (hearC fb fu ft)))∧
ident (hearP n1.pl fb ft))∧
ident n2.i0)∧
ident n2.i1)∧
ident n2.i2)∧
ident n2.i3)∧
ident n2.x)∧
(((n2.hears false fb fu ft).c : Bool) = (false)))∧
ident n2.pl)∧
ident n3.i0)∧
ident n3.i1)∧
ident n3.i2)∧
ident n3.i3)∧
ident n3.x)∧
(((n3.hears true fb fu ft).c : Bool) = (hearC fb fu ft)))∧
ident (hearP n3.pl fb ft))∧
ident b.nx)∧
ident g1.i0)∧
ident g1.i1)∧
ident g1.i2)∧
ident g1.i3)∧
ident g1.a)∧
((g1.kp : Bool) = (g1.kp)))) (by kernel_rfl) ⟨⟨⟨⟨⟨⟨⟨⟨⟨⟨⟨⟨⟨⟨⟨⟨⟨⟨⟨⟨⟨⟨⟨⟨⟨⟨⟨⟨⟨⟨⟨⟨⟨⟨⟨⟨⟨⟨⟨⟨⟨⟨⟨⟨⟨⟨⟨⟨⟨⟨⟨⟨⟨⟨⟨⟨⟨⟨⟨⟨⟨⟨⟨⟨⟨⟨⟨⟨⟨⟨⟨⟨⟨⟨⟨⟨⟨⟨⟨⟩,H.kl⟩,H.kl⟩,H.kl⟩,H.kl⟩,⟨c1,⟨le1 h.u0,⟨le1 h.u3,⟨le1 h.b0,r1⟩⟩⟩⟩⟩,rfl⟩,rfl⟩,rfl⟩,rfl⟩,rfl⟩,rfl⟩,rfl⟩,⟨c2,⟨le1 h.u0,⟨le1 h.u3,⟨le1 h.b0,r2⟩⟩⟩⟩⟩,rfl⟩,rfl⟩,rfl⟩,rfl⟩,rfl⟩,rfl⟩,rfl⟩,⟨c3,⟨le1 h.u0,⟨le1 h.u3,⟨le1 h.b0,r3⟩⟩⟩⟩⟩,rfl⟩,rfl⟩,rfl⟩,rfl⟩,rfl⟩,rfl⟩,rfl⟩,rfl⟩,rfl⟩,H.due⟩,⟨le1 h.p0,⟨le1 h.p3,⟨le1 h.b1,⟨le1 h.b32,⟨h.o,h.f⟩⟩⟩⟩⟩⟩,tf⟩,rfl⟩,rfl⟩,H.nw⟩,H.kw⟩,H.mw⟩,rfl⟩,H.mw⟩,rfl⟩,rfl⟩,rfl⟩,rfl⟩,rfl⟩,rfl⟩,rfl⟩,rfl⟩,rfl⟩,rfl⟩,rfl⟩,rfl⟩,rfl⟩,rfl⟩,rfl⟩,rfl⟩,rfl⟩,rfl⟩,rfl⟩,rfl⟩,rfl⟩,rfl⟩,rfl⟩,rfl⟩,rfl⟩,rfl⟩,rfl⟩,rfl⟩,rfl⟩,rfl⟩,rfl⟩,rfl⟩,rfl⟩,rfl⟩,rfl⟩,rfl⟩,rfl⟩,rfl⟩

set_option maxRecDepth 100000 in
theorem g_A_3_1_101 (b : BS) (s : SR) (n1 n2 n3 : ND) (g1 : GV) (u : Int) (H : HB b) (h4 : 1 ≤ u) (h5 : u ≤ 127) (c1 : n1.c = true) (c2 : n2.c = false) (c3 : n3.c = true) : Holds (fitOA (head b.next .k s [n1.set u true, n2.set u false, n3.set u true] [g1]) none (runB b (.a u) s [n1, n2, n3] [g1] [true, true, true, true, true, false, true, true])) := by
  exact Holds.of (p := (((((((((((((((((((((((((((((((((((((((((((((((((((((((((True∧
((b.kl : Bool) = (true)))∧
((b.kl : Bool) = (true)))∧
((b.kl : Bool) = (true)))∧
((b.kl : Bool) = (true)))∧
(((n1.c : Bool) = (true))∧
((Int.NonNeg (u - 1 : Int))∧
(Int.NonNeg (127 - u : Int)))))∧
ident u)∧
((n2.c : Bool) = (false)))∧
ident u)∧
(((n3.c : Bool) = (true))∧
((Int.NonNeg (u - 1 : Int))∧
(Int.NonNeg (127 - u : Int)))))∧
ident u)∧
ident b.mw)∧
ident b.ak)∧
((decide (b.mw ≥ b.aw) : Bool) = (true)))∧
ident b.f)∧
ident b.g)∧
((b.next.now : Int) = (b.nw)))∧
((b.next.k : Int) = (b.kw)))∧
((b.next.ak : Int) = (b.mw)))∧
ident b.h)∧
((b.next.now : Int) = (b.mw)))∧
ident b.nx)∧
((b.next.kp : Bool) = (b.kp)))∧
ident s.i0)∧
ident s.i1)∧
ident s.i2)∧
ident s.i3)∧
ident s.p)∧
ident s.b)∧
((s.o : Bool) = (s.o)))∧
((s.f : Bool) = (s.f)))∧
ident n1.i0)∧
ident n1.i1)∧
ident n1.i2)∧
ident n1.i3)∧
ident u)∧
(((n1.set u true).c : Bool) = (true)))∧
ident n1.pl)∧
ident n2.i0)∧
ident n2.i1)∧
ident n2.i2)∧
ident n2.i3)∧
ident n2.x)∧
(((n2.set u false).c : Bool) = (false)))∧
ident n2.pl)∧
ident n3.i0)∧
ident n3.i1)∧
ident n3.i2)∧
ident n3.i3)∧
ident u)∧
(((n3.set u true).c : Bool) = (true)))∧
ident n3.pl)∧
ident g1.i0)∧
ident g1.i1)∧
ident g1.i2)∧
ident g1.i3)∧
ident g1.a)∧
((g1.kp : Bool) = (g1.kp)))) (by kernel_rfl) ⟨⟨⟨⟨⟨⟨⟨⟨⟨⟨⟨⟨⟨⟨⟨⟨⟨⟨⟨⟨⟨⟨⟨⟨⟨⟨⟨⟨⟨⟨⟨⟨⟨⟨⟨⟨⟨⟨⟨⟨⟨⟨⟨⟨⟨⟨⟨⟨⟨⟨⟨⟨⟨⟨⟨⟨⟨⟨⟩,H.kl⟩,H.kl⟩,H.kl⟩,H.kl⟩,⟨c1,⟨le1 h4,le1 h5⟩⟩⟩,rfl⟩,c2⟩,rfl⟩,⟨c3,⟨le1 h4,le1 h5⟩⟩⟩,rfl⟩,rfl⟩,rfl⟩,H.due⟩,rfl⟩,rfl⟩,H.nw⟩,H.kw⟩,H.mw⟩,rfl⟩,H.mw⟩,rfl⟩,rfl⟩,rfl⟩,rfl⟩,rfl⟩,rfl⟩,rfl⟩,rfl⟩,rfl⟩,rfl⟩,rfl⟩,rfl⟩,rfl⟩,rfl⟩,rfl⟩,rfl⟩,rfl⟩,rfl⟩,rfl⟩,rfl⟩,rfl⟩,rfl⟩,rfl⟩,rfl⟩,rfl⟩,rfl⟩,rfl⟩,rfl⟩,rfl⟩,rfl⟩,rfl⟩,rfl⟩,rfl⟩,rfl⟩,rfl⟩,rfl⟩,rfl⟩

set_option maxRecDepth 100000 in
theorem g_K_3_1_101 (b : BS) (s : SR) (n1 n2 n3 : ND) (g1 : GV) (H : HB b) (c1 : n1.c = true) (c2 : n2.c = false) (c3 : n3.c = true) : Holds (fitOA (head b.kept .w s [n1, n2, n3] [g1]) none (runB b .k s [n1, n2, n3] [g1] [true, true, true, true, true, false, true, true])) := by
  exact Holds.of (p := ((((((((((((((((((((((((((((((((((((((((((((((((((((((True∧
((b.kl : Bool) = (true)))∧
((b.kl : Bool) = (true)))∧
((b.kl : Bool) = (true)))∧
((b.kl : Bool) = (true)))∧
((n1.c : Bool) = (true)))∧
((n2.c : Bool) = (false)))∧
((n3.c : Bool) = (true)))∧
ident b.mw)∧
ident b.ak)∧
((decide (b.mw ≥ b.aw) : Bool) = (true)))∧
ident b.f)∧
ident b.g)∧
((b.kept.now : Int) = (b.nw)))∧
((b.kept.k : Int) = (b.kw)))∧
((b.kept.ak : Int) = (b.mw)))∧
ident b.h)∧
((b.kept.now : Int) = (b.mw)))∧
ident b.nx)∧
((b.kept.kp : Bool) = (Nat.ble 0 0)))∧
ident s.i0)∧
ident s.i1)∧
ident s.i2)∧
ident s.i3)∧
ident s.p)∧
ident s.b)∧
((s.o : Bool) = (s.o)))∧
((s.f : Bool) = (s.f)))∧
ident n1.i0)∧
ident n1.i1)∧
ident n1.i2)∧
ident n1.i3)∧
ident n1.x)∧
((n1.c : Bool) = (n1.c)))∧
ident n1.pl)∧
ident n2.i0)∧
ident n2.i1)∧
ident n2.i2)∧
ident n2.i3)∧
ident n2.x)∧
((n2.c : Bool) = (n2.c)))∧
ident n2.pl)∧
ident n3.i0)∧
ident n3.i1)∧
ident n3.i2)∧
ident n3.i3)∧
ident n3.x)∧
((n3.c : Bool) = (n3.c)))∧
ident n3.pl)∧
ident g1.i0)∧
ident g1.i1)∧
ident g1.i2)∧
ident g1.i3)∧
ident g1.a)∧
((g1.kp : Bool) = (g1.kp)))) (by kernel_rfl) ⟨⟨⟨⟨⟨⟨⟨⟨⟨⟨⟨⟨⟨⟨⟨⟨⟨⟨⟨⟨⟨⟨⟨⟨⟨⟨⟨⟨⟨⟨⟨⟨⟨⟨⟨⟨⟨⟨⟨⟨⟨⟨⟨⟨⟨⟨⟨⟨⟨⟨⟨⟨⟨⟨⟨⟩,H.kl⟩,H.kl⟩,H.kl⟩,H.kl⟩,c1⟩,c2⟩,c3⟩,rfl⟩,rfl⟩,H.due⟩,rfl⟩,rfl⟩,H.nw⟩,H.kw⟩,H.mw⟩,rfl⟩,H.mw⟩,rfl⟩,rfl⟩,rfl⟩,rfl⟩,rfl⟩,rfl⟩,rfl⟩,rfl⟩,rfl⟩,rfl⟩,rfl⟩,rfl⟩,rfl⟩,rfl⟩,rfl⟩,rfl⟩,rfl⟩,rfl⟩,rfl⟩,rfl⟩,rfl⟩,rfl⟩,rfl⟩,rfl⟩,rfl⟩,rfl⟩,rfl⟩,rfl⟩,rfl⟩,rfl⟩,rfl⟩,rfl⟩,rfl⟩,rfl⟩,rfl⟩,rfl⟩,rfl⟩

set_option maxRecDepth 100000 in
theorem g_Sc_3_1_110 (b : BS) (s : SR) (n1 n2 n3 : ND) (g1 : GV) (a1 a2 a3 a4 fb fu ft : Int) (H : HB b) (h : HS s fb fu) (c1 : n1.c = false) (r1 : n1.ok a1 a2 a3 a4 fb fu = true) (c2 : n2.c = false) (r2 : n2.ok a1 a2 a3 a4 fb fu = true) (c3 : n3.c = false) (r3 : n3.ok a1 a2 a3 a4 fb fu = false) (t : HT (s.told true)) : Holds (fitOA (head b.next (s.told true).ask (s.told true) [n1.hears true fb fu ft, n2.hears true fb fu ft, n3.hears false fb fu ft] [g1]) none (runB b (.s a1 a2 a3 a4 fb fu ft) s [n1, n2, n3] [g1] [true, true, true, true, true, true, false, true, false, false, false, false])) := by
  exact Holds.of (p := ((((((((((((((((((((((((((((((((((((((((((((((((((((((((((((((((((((((((((((((((((((((((True∧
((b.kl : Bool) = (true)))∧
((b.kl : Bool) = (true)))∧
((b.kl : Bool) = (true)))∧
((b.kl : Bool) = (true)))∧
(((n1.c : Bool) = (false))∧
((Int.NonNeg (fu - 0 : Int))∧
((Int.NonNeg (3 - fu : Int))∧
((Int.NonNeg (fb - 0 : Int))∧
((n1.ok a1 a2 a3 a4 fb fu : Bool) = (true)))))))∧
ident a1)∧
ident a2)∧
ident a3)∧
ident a4)∧
ident fb)∧
ident fu)∧
ident ft)∧
(((n2.c : Bool) = (false))∧
((Int.NonNeg (fu - 0 : Int))∧
((Int.NonNeg (3 - fu : Int))∧
((Int.NonNeg (fb - 0 : Int))∧
((n2.ok a1 a2 a3 a4 fb fu : Bool) = (true)))))))∧
ident a1)∧
ident a2)∧
ident a3)∧
ident a4)∧
ident fb)∧
ident fu)∧
ident ft)∧
(((n3.c : Bool) = (false))∧
((Int.NonNeg (fu - 0 : Int))∧
((Int.NonNeg (3 - fu : Int))∧
((Int.NonNeg (fb - 0 : Int))∧
((n3.ok a1 a2 a3 a4 fb fu : Bool) = (false)))))))∧
ident a1)∧
ident a2)∧
ident a3)∧
ident a4)∧
ident fb)∧
ident fu)∧
ident ft)∧
ident b.mw)∧
ident b.ak)∧
((decide (b.mw ≥ b.aw) : Bool) = (true)))∧
((Int.NonNeg (s.p - 0 : Int))∧
((Int.NonNeg (3 - s.p : Int))∧
((Int.NonNeg (s.b - -1 : Int))∧
((Int.NonNeg (32 - s.b : Int))∧
(((s.o : Bool) = (false))∧
((s.f : Bool) = (false))))))))∧
(((s.told true).f : Bool) = (false)))∧
(((s.told true).o : Bool) = (false)))∧
(((s.told true).o : Bool) = (false)))∧
(((s.told true).o : Bool) = (false)))∧
((Int.NonNeg ((s.told true).p - 0 : Int))∧
((Int.NonNeg (3 - (s.told true).p : Int))∧
((Int.NonNeg ((s.told true).b - -1 : Int))∧
((Int.NonNeg (32 - (s.told true).b : Int))∧
((((s.told true).o : Bool) = (false))∧
(((s.told true).f : Bool) = (false))))))))∧
ident b.f)∧
ident b.g)∧
((b.next.now : Int) = (b.nw)))∧
((b.next.k : Int) = (b.kw)))∧
((b.next.ak : Int) = (b.mw)))∧
ident b.h)∧
((b.next.now : Int) = (b.mw)))∧
ident b.nx)∧
((b.next.kp : Bool) = (b.kp)))∧
ident ((s.told true).i0))∧
ident ((s.told true).i1))∧
ident ((s.told true).i2))∧
ident ((s.told true).i3))∧
ident ((s.told true).p))∧
ident ((s.told true).b))∧
(((s.told true).o : Bool) = (false)))∧
(((s.told true).f : Bool) = (false)))∧
ident n1.i0)∧
ident n1.i1)∧
ident n1.i2)∧
ident n1.i3)∧
ident n1.x)∧
(((n1.hears true fb fu ft).c : Bool) = (hearC fb fu ft)))∧
ident (hearP n1.pl fb ft))∧
ident n2.i0)∧
ident n2.i1)∧
ident n2.i2)∧
ident n2.i3)∧
ident n2.x)∧
(((n2.hears true fb fu ft).c : Bool) = (hearC fb fu ft)))∧
ident (hearP n2.pl fb ft))∧
ident n3.i0)∧
ident n3.i1)∧
ident n3.i2)∧
ident n3.i3)∧
ident n3.x)∧
(((n3.hears false fb fu ft).c : Bool) = (false)))∧
ident n3.pl)∧
ident (IntKind.u8.wrap ((s.told true).sel)))∧
ident (byK ((s.told true).sel) 8))∧
ident (byK ((s.told true).sel) 16))∧
ident (byK ((s.told true).sel) 24))∧
ident (bitsF ((s.told true).b)))∧
ident ((s.told true).p))∧
ident (nextF ((s.told true).p) ((s.told true).b)))∧
ident g1.i0)∧
ident g1.i1)∧
ident g1.i2)∧
ident g1.i3)∧
ident g1.a)∧
((g1.kp : Bool) = (g1.kp)))) (by kernel_rfl) ⟨⟨⟨⟨⟨⟨⟨⟨⟨⟨⟨⟨⟨⟨⟨⟨⟨⟨⟨⟨⟨⟨⟨⟨⟨⟨⟨⟨⟨⟨⟨⟨⟨⟨⟨⟨⟨⟨⟨⟨⟨⟨⟨⟨⟨⟨⟨⟨⟨⟨⟨⟨⟨⟨⟨⟨⟨⟨⟨⟨⟨⟨⟨⟨⟨⟨⟨⟨⟨⟨⟨⟨⟨⟨⟨⟨⟨⟨⟨⟨⟨⟨⟨⟨⟨⟨⟨⟨⟨⟩,H.kl⟩,H.kl⟩,H.kl⟩,H.kl⟩,⟨c1,⟨le1 h.u0,⟨le1 h.u3,⟨le1 h.b0,r1⟩⟩⟩⟩⟩,rfl⟩,rfl⟩,rfl⟩,rfl⟩,rfl⟩,rfl⟩,rfl⟩,⟨c2,⟨le1 h.u0,⟨le1 h.u3,⟨le1 h.b0,r2⟩⟩⟩⟩⟩,rfl⟩,rfl⟩,rfl⟩,rfl⟩,rfl⟩,rfl⟩,rfl⟩,⟨c3,⟨le1 h.u0,⟨le1 h.u3,⟨le1 h.b0,r3⟩⟩⟩⟩⟩,rfl⟩,rfl⟩,rfl⟩,rfl⟩,rfl⟩,rfl⟩,rfl⟩,rfl⟩,rfl⟩,H.due⟩,⟨le1 h.p0,⟨le1 h.p3,⟨le1 h.b1,⟨le1 h.b32,⟨h.o,h.f⟩⟩⟩⟩⟩⟩,t.f⟩,t.o⟩,t.o⟩,t.o⟩,⟨le1 t.p0,⟨le1 t.p3,⟨le1 t.b1,⟨le1 t.b32,⟨t.o,t.f⟩⟩⟩⟩⟩⟩,rfl⟩,rfl⟩,H.nw⟩,H.kw⟩,H.mw⟩,rfl⟩,H.mw⟩,rfl⟩,rfl⟩,rfl⟩,rfl⟩,rfl⟩,rfl⟩,rfl⟩,rfl⟩,t.o⟩,t.f⟩,rfl⟩,rfl⟩,rfl⟩,rfl⟩,rfl⟩,rfl⟩,rfl⟩,rfl⟩,rfl⟩,rfl⟩,rfl⟩,rfl⟩,rfl⟩,rfl⟩,rfl⟩,rfl⟩,rfl⟩,rfl⟩,rfl⟩,rfl⟩,rfl⟩,rfl⟩,rfl⟩,rfl⟩,rfl⟩,rfl⟩,rfl⟩,rfl⟩,rfl⟩,rfl⟩,rfl⟩,rfl⟩,rfl⟩,rfl⟩

set_option maxRecDepth 100000 in
theorem g_Sf_3_1_110 (b : BS) (s : SR) (n1 n2 n3 : ND) (g1 : GV) (a1 a2 a3 a4 fb fu ft : Int) (H : HB b) (h : HS s fb fu) (c1 : n1.c = false) (r1 : n1.ok a1 a2 a3 a4 fb fu = true) (c2 : n2.c = false) (r2 : n2.ok a1 a2 a3 a4 fb fu = true) (c3 : n3.c = false) (r3 : n3.ok a1 a2 a3 a4 fb fu = false) (tf : (s.told true).f = true) : Holds (fitOA (head b.asked (.a b.nx) (s.told true) [n1.hears true fb fu ft, n2.hears true fb fu ft, n3.hears false fb fu ft] [g1]) none (runB b (.s a1 a2 a3 a4 fb fu ft) s [n1, n2, n3] [g1] [true, true, true, true, true, true, false, true, true])) := by
  exact Holds.of (p := ((((((((((((((((((((((((((((((((((((((((((((((((((((((((((((((((((((((((((((((True∧
((b.kl : Bool) = (true)))∧
((b.kl : Bool) = (true)))∧
((b.kl : Bool) = (true)))∧
((b.kl : Bool) = (true)))∧
(((n1.c : Bool) = (false))∧
((Int.NonNeg (fu - 0 : Int))∧
((Int.NonNeg (3 - fu : Int))∧
((Int.NonNeg (fb - 0 : Int))∧
((n1.ok a1 a2 a3 a4 fb fu : Bool) = (true)))))))∧
ident a1)∧
ident a2)∧
ident a3)∧
ident a4)∧
ident fb)∧
ident fu)∧
ident ft)∧
(((n2.c : Bool) = (false))∧
((Int.NonNeg (fu - 0 : Int))∧
((Int.NonNeg (3 - fu : Int))∧
((Int.NonNeg (fb - 0 : Int))∧
((n2.ok a1 a2 a3 a4 fb fu : Bool) = (true)))))))∧
ident a1)∧
ident a2)∧
ident a3)∧
ident a4)∧
ident fb)∧
ident fu)∧
ident ft)∧
(((n3.c : Bool) = (false))∧
((Int.NonNeg (fu - 0 : Int))∧
((Int.NonNeg (3 - fu : Int))∧
((Int.NonNeg (fb - 0 : Int))∧
((n3.ok a1 a2 a3 a4 fb fu : Bool) = (false)))))))∧
ident a1)∧
ident a2)∧
ident a3)∧
ident a4)∧
ident fb)∧
ident fu)∧
ident ft)∧
ident b.mw)∧
ident b.ak)∧
((decide (b.mw ≥ b.aw) : Bool) = (true)))∧
((Int.NonNeg (s.p - 0 : Int))∧
((Int.NonNeg (3 - s.p : Int))∧
((Int.NonNeg (s.b - -1 : Int))∧
((Int.NonNeg (32 - s.b : Int))∧
(((s.o : Bool) = (false))∧
((s.f : Bool) = (false))))))))∧
(((s.told true).f : Bool) = (true)))∧
ident b.f)∧
ident b.g)∧
((b.asked.now : Int) = (b.nw)))∧
((b.asked.k : Int) = (b.kw)))∧
((b.asked.ak : Int) = (b.mw)))∧
ident b.nx)∧
((b.asked.now : Int) = (b.mw)))∧
ident b.nx)∧
((b.asked.kp : Bool) = (b.kp)))∧
ident ((s.told true).i0))∧
ident ((s.told true).i1))∧
ident ((s.told true).i2))∧
ident ((s.told true).i3))∧
ident ((s.told true).p))∧
ident ((s.told true).b))∧
(((s.told true).o : Bool) = ((s.told true).o)))∧
(((s.told true).f : Bool) = ((s.told true).f)))∧
ident n1.i0)∧
ident n1.i1)∧
ident n1.i2)∧
ident n1.i3)∧
ident n1.x)∧
(((n1.hears true fb fu ft).c : Bool) = (hearC fb fu ft)))∧
ident (hearP n1.pl fb ft))∧
ident n2.i0)∧
ident n2.i1)∧
ident n2.i2)∧
ident n2.i3)∧
ident n2.x)∧
(((n2.hears true fb fu ft).c : Bool) = (hearC fb fu ft)))∧
ident (hearP n2.pl fb ft))∧
ident n3.i0)∧
ident n3.i1)∧
ident n3.i2)∧
ident n3.i3)∧
ident n3.x)∧
(((n3.hears false fb fu ft).c : Bool) = (false)))∧
ident n3.pl)∧
ident b.nx)∧
ident g1.i0)∧
ident g1.i1)∧
ident g1.i2)∧
ident g1.i3)∧
ident g1.a)∧
((g1.kp : Bool) = (g1.kp)))) (by kernel_rfl) ⟨⟨⟨⟨⟨⟨⟨⟨⟨⟨⟨⟨⟨⟨⟨⟨⟨⟨⟨⟨⟨⟨⟨⟨⟨⟨⟨⟨⟨⟨⟨⟨⟨⟨⟨⟨⟨⟨⟨⟨⟨⟨⟨⟨⟨⟨⟨⟨⟨⟨⟨⟨⟨⟨⟨⟨⟨⟨⟨⟨⟨⟨⟨⟨⟨⟨⟨⟨⟨⟨⟨⟨⟨⟨⟨⟨⟨⟨⟨⟩,H.kl⟩,H.kl⟩,H.kl⟩,H.kl⟩,⟨c1,⟨le1 h.u0,⟨le1 h.u3,⟨le1 h.b0,r1⟩⟩⟩⟩⟩,rfl⟩,rfl⟩,rfl⟩,rfl⟩,rfl⟩,rfl⟩,rfl⟩,⟨c2,⟨le1 h.u0,⟨le1 h.u3,⟨le1 h.b0,r2⟩⟩⟩⟩⟩,rfl⟩,rfl⟩,rfl⟩,rfl⟩,rfl⟩,rfl⟩,rfl⟩,⟨c3,⟨le1 h.u0,⟨le1 h.u3,⟨le1 h.b0,r3⟩⟩⟩⟩⟩,rfl⟩,rfl⟩,rfl⟩,rfl⟩,rfl⟩,rfl⟩,rfl⟩,rfl⟩,rfl⟩,H.due⟩,⟨le1 h.p0,⟨le1 h.p3,⟨le1 h.b1,⟨le1 h.b32,⟨h.o,h.f⟩⟩⟩⟩⟩⟩,tf⟩,rfl⟩,rfl⟩,H.nw⟩,H.kw⟩,H.mw⟩,rfl⟩,H.mw⟩,rfl⟩,rfl⟩,rfl⟩,rfl⟩,rfl⟩,rfl⟩,rfl⟩,rfl⟩,rfl⟩,rfl⟩,rfl⟩,rfl⟩,rfl⟩,rfl⟩,rfl⟩,rfl⟩,rfl⟩,rfl⟩,rfl⟩,rfl⟩,rfl⟩,rfl⟩,rfl⟩,rfl⟩,rfl⟩,rfl⟩,rfl⟩,rfl⟩,rfl⟩,rfl⟩,rfl⟩,rfl⟩,rfl⟩,rfl⟩,rfl⟩,rfl⟩,rfl⟩,rfl⟩

set_option maxRecDepth 100000 in
theorem g_A_3_1_110 (b : BS) (s : SR) (n1 n2 n3 : ND) (g1 : GV) (u : Int) (H : HB b) (h4 : 1 ≤ u) (h5 : u ≤ 127) (c1 : n1.c = true) (c2 : n2.c = true) (c3 : n3.c = false) : Holds (fitOA (head b.next .k s [n1.set u true, n2.set u true, n3.set u false] [g1]) none (runB b (.a u) s [n1, n2, n3] [g1] [true, true, true, true, true, true, false, true])) := by
  exact Holds.of (p := (((((((((((((((((((((((((((((((((((((((((((((((((((((((((True∧
((b.kl : Bool) = (true)))∧
((b.kl : Bool) = (true)))∧
((b.kl : Bool) = (true)))∧
((b.kl : Bool) = (true)))∧
(((n1.c : Bool) = (true))∧
((Int.NonNeg (u - 1 : Int))∧
(Int.NonNeg (127 - u : Int)))))∧
ident u)∧
(((n2.c : Bool) = (true))∧
((Int.NonNeg (u - 1 : Int))∧
(Int.NonNeg (127 - u : Int)))))∧
ident u)∧
((n3.c : Bool) = (false)))∧
ident u)∧
ident b.mw)∧
ident b.ak)∧
((decide (b.mw ≥ b.aw) : Bool) = (true)))∧
ident b.f)∧
ident b.g)∧
((b.next.now : Int) = (b.nw)))∧
((b.next.k : Int) = (b.kw)))∧
((b.next.ak : Int) = (b.mw)))∧
ident b.h)∧
((b.next.now : Int) = (b.mw)))∧
ident b.nx)∧
((b.next.kp : Bool) = (b.kp)))∧
ident s.i0)∧
ident s.i1)∧
ident s.i2)∧
ident s.i3)∧
ident s.p)∧
ident s.b)∧
((s.o : Bool) = (s.o)))∧
((s.f : Bool) = (s.f)))∧
ident n1.i0)∧
ident n1.i1)∧
ident n1.i2)∧
ident n1.i3)∧
ident u)∧
(((n1.set u true).c : Bool) = (true)))∧
ident n1.pl)∧
ident n2.i0)∧
ident n2.i1)∧
ident n2.i2)∧
ident n2.i3)∧
ident u)∧
(((n2.set u true).c : Bool) = (true)))∧
ident n2.pl)∧
ident n3.i0)∧
ident n3.i1)∧
ident n3.i2)∧
ident n3.i3)∧
ident n3.x)∧
(((n3.set u false).c : Bool) = (false)))∧
ident n3.pl)∧
ident g1.i0)∧
ident g1.i1)∧
ident g1.i2)∧
ident g1.i3)∧
ident g1.a)∧
((g1.kp : Bool) = (g1.kp)))) (by kernel_rfl) ⟨⟨⟨⟨⟨⟨⟨⟨⟨⟨⟨⟨⟨⟨⟨⟨⟨⟨⟨⟨⟨⟨⟨⟨⟨⟨⟨⟨⟨⟨⟨⟨⟨⟨⟨⟨⟨⟨⟨⟨⟨⟨⟨⟨⟨⟨⟨⟨⟨⟨⟨⟨⟨⟨⟨⟨⟨⟨⟩,H.kl⟩,H.kl⟩,H.kl⟩,H.kl⟩,⟨c1,⟨le1 h4,le1 h5⟩⟩⟩,rfl⟩,⟨c2,⟨le1 h4,le1 h5⟩⟩⟩,rfl⟩,c3⟩,rfl⟩,rfl⟩,rfl⟩,H.due⟩,rfl⟩,rfl⟩,H.nw⟩,H.kw⟩,H.mw⟩,rfl⟩,H.mw⟩,rfl⟩,rfl⟩,rfl⟩,rfl⟩,rfl⟩,rfl⟩,rfl⟩,rfl⟩,rfl⟩,rfl⟩,rfl⟩,rfl⟩,rfl⟩,rfl⟩,rfl⟩,rfl⟩,rfl⟩,rfl⟩,rfl⟩,rfl⟩,rfl⟩,rfl⟩,rfl⟩,rfl⟩,rfl⟩,rfl⟩,rfl⟩,rfl⟩,rfl⟩,rfl⟩,rfl⟩,rfl⟩,rfl⟩,rfl⟩,rfl⟩,rfl⟩,rfl⟩

set_option maxRecDepth 100000 in
theorem g_K_3_1_110 (b : BS) (s : SR) (n1 n2 n3 : ND) (g1 : GV) (H : HB b) (c1 : n1.c = true) (c2 : n2.c = true) (c3 : n3.c = false) : Holds (fitOA (head b.kept .w s [n1, n2, n3] [g1]) none (runB b .k s [n1, n2, n3] [g1] [true, true, true, true, true, true, false, true])) := by
  exact Holds.of (p := ((((((((((((((((((((((((((((((((((((((((((((((((((((((True∧
((b.kl : Bool) = (true)))∧
((b.kl : Bool) = (true)))∧
((b.kl : Bool) = (true)))∧
((b.kl : Bool) = (true)))∧
((n1.c : Bool) = (true)))∧
((n2.c : Bool) = (true)))∧
((n3.c : Bool) = (false)))∧
ident b.mw)∧
ident b.ak)∧
((decide (b.mw ≥ b.aw) : Bool) = (true)))∧
ident b.f)∧
ident b.g)∧
((b.kept.now : Int) = (b.nw)))∧
((b.kept.k : Int) = (b.kw)))∧
((b.kept.ak : Int) = (b.mw)))∧
ident b.h)∧
((b.kept.now : Int) = (b.mw)))∧
ident b.nx)∧
((b.kept.kp : Bool) = (Nat.ble 0 0)))∧
ident s.i0)∧
ident s.i1)∧
ident s.i2)∧
ident s.i3)∧
ident s.p)∧
ident s.b)∧
((s.o : Bool) = (s.o)))∧
((s.f : Bool) = (s.f)))∧
ident n1.i0)∧
ident n1.i1)∧
ident n1.i2)∧
ident n1.i3)∧
ident n1.x)∧
((n1.c : Bool) = (n1.c)))∧
ident n1.pl)∧
ident n2.i0)∧
ident n2.i1)∧
ident n2.i2)∧
ident n2.i3)∧
ident n2.x)∧
((n2.c : Bool) = (n2.c)))∧
ident n2.pl)∧
ident n3.i0)∧
ident n3.i1)∧
ident n3.i2)∧
ident n3.i3)∧
ident n3.x)∧
((n3.c : Bool) = (n3.c)))∧
ident n3.pl)∧
ident g1.i0)∧
ident g1.i1)∧
ident g1.i2)∧
ident g1.i3)∧
ident g1.a)∧
((g1.kp : Bool) = (g1.kp)))) (by kernel_rfl) ⟨⟨⟨⟨⟨⟨⟨⟨⟨⟨⟨⟨⟨⟨⟨⟨⟨⟨⟨⟨⟨⟨⟨⟨⟨⟨⟨⟨⟨⟨⟨⟨⟨⟨⟨⟨⟨⟨⟨⟨⟨⟨⟨⟨⟨⟨⟨⟨⟨⟨⟨⟨⟨⟨⟨⟩,H.kl⟩,H.kl⟩,H.kl⟩,H.kl⟩,c1⟩,c2⟩,c3⟩,rfl⟩,rfl⟩,H.due⟩,rfl⟩,rfl⟩,H.nw⟩,H.kw⟩,H.mw⟩,rfl⟩,H.mw⟩,rfl⟩,rfl⟩,rfl⟩,rfl⟩,rfl⟩,rfl⟩,rfl⟩,rfl⟩,rfl⟩,rfl⟩,rfl⟩,rfl⟩,rfl⟩,rfl⟩,rfl⟩,rfl⟩,rfl⟩,rfl⟩,rfl⟩,rfl⟩,rfl⟩,rfl⟩,rfl⟩,rfl⟩,rfl⟩,rfl⟩,rfl⟩,rfl⟩,rfl⟩,rfl⟩,rfl⟩,rfl⟩,rfl⟩,rfl⟩,rfl⟩,rfl⟩,rfl⟩

set_option maxRecDepth 100000 in
theorem g_Sc_3_1_111 (b : BS) (s : SR) (n1 n2 n3 : ND) (g1 : GV) (a1 a2 a3 a4 fb fu ft : Int) (H : HB b) (h : HS s fb fu) (c1 : n1.c = false) (r1 : n1.ok a1 a2 a3 a4 fb fu = true) (c2 : n2.c = false) (r2 : n2.ok a1 a2 a3 a4 fb fu = true) (c3 : n3.c = false) (r3 : n3.ok a1 a2 a3 a4 fb fu = true) (t : HT (s.told true)) : Holds (fitOA (head b.next (s.told true).ask (s.told true) [n1.hears true fb fu ft, n2.hears true fb fu ft, n3.hears true fb fu ft] [g1]) none (runB b (.s a1 a2 a3 a4 fb fu ft) s [n1, n2, n3] [g1] [true, true, true, true, true, true, true, true, false, false, false, false])) := by
  exact Holds.of (p := ((((((((((((((((((((((((((((((((((((((((((((((((((((((((((((((((((((((((((((((((((((((((True∧
((b.kl : Bool) = (true)))∧
((b.kl : Bool) = (true)))∧
((b.kl : Bool) = (true)))∧
((b.kl : Bool) = (true)))∧
(((n1.c : Bool) = (false))∧
((Int.NonNeg (fu - 0 : Int))∧
((Int.NonNeg (3 - fu : Int))∧
((Int.NonNeg (fb - 0 : Int))∧
((n1.ok a1 a2 a3 a4 fb fu : Bool) = (true)))))))∧
ident a1)∧
ident a2)∧
ident a3)∧
ident a4)∧
ident fb)∧
ident fu)∧
ident ft)∧
(((n2.c : Bool) = (false))∧
((Int.NonNeg (fu - 0 : Int))∧
((Int.NonNeg (3 - fu : Int))∧
((Int.NonNeg (fb - 0 : Int))∧
((n2.ok a1 a2 a3 a4 fb fu : Bool) = (true)))))))∧
ident a1)∧
ident a2)∧
ident a3)∧
ident a4)∧
ident fb)∧
ident fu)∧
ident ft)∧
(((n3.c : Bool) = (false))∧
((Int.NonNeg (fu - 0 : Int))∧
((Int.NonNeg (3 - fu : Int))∧
((Int.NonNeg (fb - 0 : Int))∧
((n3.ok a1 a2 a3 a4 fb fu : Bool) = (true)))))))∧
ident a1)∧
ident a2)∧
ident a3)∧
ident a4)∧
ident fb)∧
ident fu)∧
ident ft)∧
ident b.mw)∧
ident b.ak)∧
((decide (b.mw ≥ b.aw) : Bool) = (true)))∧
((Int.NonNeg (s.p - 0 : Int))∧
((Int.NonNeg (3 - s.p : Int))∧
((Int.NonNeg (s.b - -1 : Int))∧
((Int.NonNeg (32 - s.b : Int))∧
(((s.o : Bool) = (false))∧
((s.f : Bool) = (false))))))))∧
(((s.told true).f : Bool) = (false)))∧
(((s.told true).o : Bool) = (false)))∧
(((s.told true).o : Bool) = (false)))∧
(((s.told true).o : Bool) = (false)))∧
((Int.NonNeg ((s.told true).p - 0 : Int))∧
((Int.NonNeg (3 - (s.told true).p : Int))∧
((Int.NonNeg ((s.told true).b - -1 : Int))∧
((Int.NonNeg (32 - (s.told true).b : Int))∧
((((s.told true).o : Bool) = (false))∧
(((s.told true).f : Bool) = (false))))))))∧
ident b.f)∧
ident b.g)∧
((b.next.now : Int) = (b.nw)))∧
((b.next.k : Int) = (b.kw)))∧
((b.next.ak : Int) = (b.mw)))∧
ident b.h)∧
((b.next.now : Int) = (b.mw)))∧
ident b.nx)∧
((b.next.kp : Bool) = (b.kp)))∧
ident ((s.told true).i0))∧
ident ((s.told true).i1))∧
ident ((s.told true).i2))∧
ident ((s.told true).i3))∧
ident ((s.told true).p))∧
ident ((s.told true).b))∧
(((s.told true).o : Bool) = (false)))∧
(((s.told true).f : Bool) = (false)))∧
ident n1.i0)∧
ident n1.i1)∧
ident n1.i2)∧
ident n1.i3)∧
ident n1.x)∧
(((n1.hears true fb fu ft).c : Bool) = (hearC fb fu ft)))∧
ident (hearP n1.pl fb ft))∧
ident n2.i0)∧
ident n2.i1)∧
ident n2.i2)∧
ident n2.i3)∧
ident n2.x)∧
(((n2.hears true fb fu ft).c : Bool) = (hearC fb fu ft)))∧
ident (hearP n2.pl fb ft))∧
ident n3.i0)∧
ident n3.i1)∧
ident n3.i2)∧
ident n3.i3)∧
ident n3.x)∧
(((n3.hears true fb fu ft).c : Bool) = (hearC fb fu ft)))∧
ident (hearP n3.pl fb ft))∧
ident (IntKind.u8.wrap ((s.told true).sel)))∧
ident (byK ((s.told true).sel) 8))∧
ident (byK ((s.told true).sel) 16))∧
ident (byK ((s.told true).sel) 24))∧
ident (bitsF ((s.told true).b)))∧
ident ((s.told true).p))∧
ident (nextF ((s.told true).p) ((s.told true).b)))∧
ident g1.i0)∧
ident g1.i1)∧
ident g1.i2)∧
ident g1.i3)∧
ident g1.a)∧
((g1.kp : Bool) = (g1.kp)))) (by kernel_rfl) ⟨⟨⟨⟨⟨⟨⟨⟨⟨⟨⟨⟨⟨⟨⟨⟨⟨⟨⟨⟨⟨⟨⟨⟨⟨⟨⟨⟨⟨⟨⟨⟨⟨⟨⟨⟨⟨⟨⟨⟨⟨⟨⟨⟨⟨⟨⟨⟨⟨⟨⟨⟨⟨⟨⟨⟨⟨⟨⟨⟨⟨⟨⟨⟨⟨⟨⟨⟨⟨⟨⟨⟨⟨⟨⟨⟨⟨⟨⟨⟨⟨⟨⟨⟨⟨⟨⟨⟨⟨⟩,H.kl⟩,H.kl⟩,H.kl⟩,H.kl⟩,⟨c1,⟨le1 h.u0,⟨le1 h.u3,⟨le1 h.b0,r1⟩⟩⟩⟩⟩,rfl⟩,rfl⟩,rfl⟩,rfl⟩,rfl⟩,rfl⟩,rfl⟩,⟨c2,⟨le1 h.u0,⟨le1 h.u3,⟨le1 h.b0,r2⟩⟩⟩⟩⟩,rfl⟩,rfl⟩,rfl⟩,rfl⟩,rfl⟩,rfl⟩,rfl⟩,⟨c3,⟨le1 h.u0,⟨le1 h.u3,⟨le1 h.b0,r3⟩⟩⟩⟩⟩,rfl⟩,rfl⟩,rfl⟩,rfl⟩,rfl⟩,rfl⟩,rfl⟩,rfl⟩,rfl⟩,H.due⟩,⟨le1 h.p0,⟨le1 h.p3,⟨le1 h.b1,⟨le1 h.b32,⟨h.o,h.f⟩⟩⟩⟩⟩⟩,t.f⟩,t.o⟩,t.o⟩,t.o⟩,⟨le1 t.p0,⟨le1 t.p3,⟨le1 t.b1,⟨le1 t.b32,⟨t.o,t.f⟩⟩⟩⟩⟩⟩,rfl⟩,rfl⟩,H.nw⟩,H.kw⟩,H.mw⟩,rfl⟩,H.mw⟩,rfl⟩,rfl⟩,rfl⟩,rfl⟩,rfl⟩,rfl⟩,rfl⟩,rfl⟩,t.o⟩,t.f⟩,rfl⟩,rfl⟩,rfl⟩,rfl⟩,rfl⟩,rfl⟩,rfl⟩,rfl⟩,rfl⟩,rfl⟩,rfl⟩,rfl⟩,rfl⟩,rfl⟩,rfl⟩,rfl⟩,rfl⟩,rfl⟩,rfl⟩,rfl⟩,rfl⟩,rfl⟩,rfl⟩,rfl⟩,rfl⟩,rfl⟩,rfl⟩,rfl⟩,rfl⟩,rfl⟩,rfl⟩,rfl⟩,rfl⟩,rfl⟩

set_option maxRecDepth 100000 in
theorem g_Sf_3_1_111 (b : BS) (s : SR) (n1 n2 n3 : ND) (g1 : GV) (a1 a2 a3 a4 fb fu ft : Int) (H : HB b) (h : HS s fb fu) (c1 : n1.c = false) (r1 : n1.ok a1 a2 a3 a4 fb fu = true) (c2 : n2.c = false) (r2 : n2.ok a1 a2 a3 a4 fb fu = true) (c3 : n3.c = false) (r3 : n3.ok a1 a2 a3 a4 fb fu = true) (tf : (s.told true).f = true) : Holds (fitOA (head b.asked (.a b.nx) (s.told true) [n1.hears true fb fu ft, n2.hears true fb fu ft, n3.hears true fb fu ft] [g1]) none (runB b (.s a1 a2 a3 a4 fb fu ft) s [n1, n2, n3] [g1] [true, true, true, true, true, true, true, true, true])) := by
  exact Holds.of (p := ((((((((((((((((((((((((((((((((((((((((((((((((((((((((((((((((((((((((((((((True∧
((b.kl : Bool) = (true)))∧
((b.kl : Bool) = (true)))∧
((b.kl : Bool) = (true)))∧
((b.kl : Bool) = (true)))∧
(((n1.c : Bool) = (false))∧
((Int.NonNeg (fu - 0 : Int))∧
((Int.NonNeg (3 - fu : Int))∧
((Int.NonNeg (fb - 0 : Int))∧
((n1.ok a1 a2 a3 a4 fb fu : Bool) = (true)))))))∧
ident a1)∧
ident a2)∧
ident a3)∧
ident a4)∧
ident fb)∧
ident fu)∧
ident ft)∧
(((n2.c : Bool) = (false))∧
((Int.NonNeg (fu - 0 : Int))∧
((Int.NonNeg (3 - fu : Int))∧
((Int.NonNeg (fb - 0 : Int))∧
((n2.ok a1 a2 a3 a4 fb fu : Bool) = (true)))))))∧
ident a1)∧
ident a2)∧
ident a3)∧
ident a4)∧
ident fb)∧
ident fu)∧
ident ft)∧
(((n3.c : Bool) = (false))∧
((Int.NonNeg (fu - 0 : Int))∧
((Int.NonNeg (3 - fu : Int))∧
((Int.NonNeg (fb - 0 : Int))∧
((n3.ok a1 a2 a3 a4 fb fu : Bool) = (true)))))))∧
ident a1)∧
ident a2)∧
ident a3)∧
ident a4)∧
ident fb)∧
ident fu)∧
ident ft)∧
ident b.mw)∧
ident b.ak)∧
((decide (b.mw ≥ b.aw) : Bool) = (true)))∧
((Int.NonNeg (s.p - 0 : Int))∧
((Int.NonNeg (3 - s.p : Int))∧
((Int.NonNeg (s.b - -1 : Int))∧
((Int.NonNeg (32 - s.b : Int))∧
(((s.o : Bool) = (false))∧
((s.f : Bool) = (false))))))))∧
(((s.told true).f : Bool) = (true)))∧
ident b.f)∧
ident b.g)∧
((b.asked.now : Int) = (b.nw)))∧
((b.asked.k : Int) = (b.kw)))∧
((b.asked.ak : Int) = (b.mw)))∧
ident b.nx)∧
((b.asked.now : Int) = (b.mw)))∧
ident b.nx)∧
((b.asked.kp : Bool) = (b.kp)))∧
ident ((s.told true).i0))∧
ident ((s.told true).i1))∧
ident ((s.told true).i2))∧
ident ((s.told true).i3))∧
ident ((s.told true).p))∧
ident ((s.told true).b))∧
(((s.told true).o : Bool) = ((s.told true).o)))∧
(((s.told true).f : Bool) = ((s.told true).f)))∧
ident n1.i0)∧
ident n1.i1)∧
ident n1.i2)∧
ident n1.i3)∧
ident n1.x)∧
(((n1.hears true fb fu ft).c : Bool) = (hearC fb fu ft)))∧
ident (hearP n1.pl fb ft))∧
ident n2.i0)∧
ident n2.i1)∧
ident n2.i2)∧
ident n2.i3)∧
ident n2.x)∧
(((n2.hears true fb fu ft).c : Bool) = (hearC fb fu ft)))∧
ident (hearP n2.pl fb ft))∧
ident n3.i0)∧
ident n3.i1)∧
ident n3.i2)∧
ident n3.i3)∧
ident n3.x)∧
(((n3.hears true fb fu ft).c : Bool) = (hearC fb fu ft)))∧
ident (hearP n3.pl fb ft))∧
ident b.nx)∧
ident g1.i0)∧
ident g1.i1)∧
ident g1.i2)∧
ident g1.i3)∧
ident g1.a)∧
((g1.kp : Bool) = (g1.kp)))) (by kernel_rfl) ⟨⟨⟨⟨⟨⟨⟨⟨⟨⟨⟨⟨⟨⟨⟨⟨⟨⟨⟨⟨⟨⟨⟨⟨⟨⟨⟨⟨⟨⟨⟨⟨⟨⟨⟨⟨⟨⟨⟨⟨⟨⟨⟨⟨⟨⟨⟨⟨⟨⟨⟨⟨⟨⟨⟨⟨⟨⟨⟨⟨⟨⟨⟨⟨⟨⟨⟨⟨⟨⟨⟨⟨⟨⟨⟨⟨⟨⟨⟨⟩,H.kl⟩,H.kl⟩,H.kl⟩,H.kl⟩,⟨c1,⟨le1 h.u0,⟨le1 h.u3,⟨le1 h.b0,r1⟩⟩⟩⟩⟩,rfl⟩,rfl⟩,rfl⟩,rfl⟩,rfl⟩,rfl⟩,rfl⟩,⟨c2,⟨le1 h.u0,⟨le1 h.u3,⟨le1 h.b0,r2⟩⟩⟩⟩⟩,rfl⟩,rfl⟩,rfl⟩,rfl⟩,rfl⟩,rfl⟩,rfl⟩,⟨c3,⟨le1 h.u0,⟨le1 h.u3,⟨le1 h.b0,r3⟩⟩⟩⟩⟩,rfl⟩,rfl⟩,rfl⟩,rfl⟩,rfl⟩,rfl⟩,rfl⟩,rfl⟩,rfl⟩,H.due⟩,⟨le1 h.p0,⟨le1 h.p3,⟨le1 h.b1,⟨le1 h.b32,⟨h.o,h.f⟩⟩⟩⟩⟩⟩,tf⟩,rfl⟩,rfl⟩,H.nw⟩,H.kw⟩,H.mw⟩,rfl⟩,H.mw⟩,rfl⟩,rfl⟩,rfl⟩,rfl⟩,rfl⟩,rfl⟩,rfl⟩,rfl⟩,rfl⟩,rfl⟩,rfl⟩,rfl⟩,rfl⟩,rfl⟩,rfl⟩,rfl⟩,rfl⟩,rfl⟩,rfl⟩,rfl⟩,rfl⟩,rfl⟩,rfl⟩,rfl⟩,rfl⟩,rfl⟩,rfl⟩,rfl⟩,rfl⟩,rfl⟩,rfl⟩,rfl⟩,rfl⟩,rfl⟩,rfl⟩,rfl⟩,rfl⟩,rfl⟩

set_option maxRecDepth 100000 in
theorem g_A_3_1_111 (b : BS) (s : SR) (n1 n2 n3 : ND) (g1 : GV) (u : Int) (H : HB b) (h4 : 1 ≤ u) (h5 : u ≤ 127) (c1 : n1.c = true) (c2 : n2.c = true) (c3 : n3.c = true) : Holds (fitOA (head b.next .k s [n1.set u true, n2.set u true, n3.set u true] [g1]) none (runB b (.a u) s [n1, n2, n3] [g1] [true, true, true, true, true, true, true, true])) := by
  exact Holds.of (p := (((((((((((((((((((((((((((((((((((((((((((((((((((((((((True∧
((b.kl : Bool) = (true)))∧
((b.kl : Bool) = (true)))∧
((b.kl : Bool) = (true)))∧
((b.kl : Bool) = (true)))∧
(((n1.c : Bool) = (true))∧
((Int.NonNeg (u - 1 : Int))∧
(Int.NonNeg (127 - u : Int)))))∧
ident u)∧
(((n2.c : Bool) = (true))∧
((Int.NonNeg (u - 1 : Int))∧
(Int.NonNeg (127 - u : Int)))))∧
ident u)∧
(((n3.c : Bool) = (true))∧
((Int.NonNeg (u - 1 : Int))∧
(Int.NonNeg (127 - u : Int)))))∧
ident u)∧
ident b.mw)∧
ident b.ak)∧
((decide (b.mw ≥ b.aw) : Bool) = (true)))∧
ident b.f)∧
ident b.g)∧
((b.next.now : Int) = (b.nw)))∧
((b.next.k : Int) = (b.kw)))∧
((b.next.ak : Int) = (b.mw)))∧
ident b.h)∧
((b.next.now : Int) = (b.mw)))∧
ident b.nx)∧
((b.next.kp : Bool) = (b.kp)))∧
ident s.i0)∧
ident s.i1)∧
ident s.i2)∧
ident s.i3)∧
ident s.p)∧
ident s.b)∧
((s.o : Bool) = (s.o)))∧
((s.f : Bool) = (s.f)))∧
ident n1.i0)∧
ident n1.i1)∧
ident n1.i2)∧
ident n1.i3)∧
ident u)∧
(((n1.set u true).c : Bool) = (true)))∧
ident n1.pl)∧
ident n2.i0)∧
ident n2.i1)∧
ident n2.i2)∧
ident n2.i3)∧
ident u)∧
(((n2.set u true).c : Bool) = (true)))∧
ident n2.pl)∧
ident n3.i0)∧
ident n3.i1)∧
ident n3.i2)∧
ident n3.i3)∧
ident u)∧
(((n3.set u true).c : Bool) = (true)))∧
ident n3.pl)∧
ident g1.i0)∧
ident g1.i1)∧
ident g1.i2)∧
ident g1.i3)∧
ident g1.a)∧
((g1.kp : Bool) = (g1.kp)))) (by kernel_rfl) ⟨⟨⟨⟨⟨⟨⟨⟨⟨⟨⟨⟨⟨⟨⟨⟨⟨⟨⟨⟨⟨⟨⟨⟨⟨⟨⟨⟨⟨⟨⟨⟨⟨⟨⟨⟨⟨⟨⟨⟨⟨⟨⟨⟨⟨⟨⟨⟨⟨⟨⟨⟨⟨⟨⟨⟨⟨⟨⟩,H.kl⟩,H.kl⟩,H.kl⟩,H.kl⟩,⟨c1,⟨le1 h4,le1 h5⟩⟩⟩,rfl⟩,⟨c2,⟨le1 h4,le1 h5⟩⟩⟩,rfl⟩,⟨c3,⟨le1 h4,le1 h5⟩⟩⟩,rfl⟩,rfl⟩,rfl⟩,H.due⟩,rfl⟩,rfl⟩,H.nw⟩,H.kw⟩,H.mw⟩,rfl⟩,H.mw⟩,rfl⟩,rfl⟩,rfl⟩,rfl⟩,rfl⟩,rfl⟩,rfl⟩,rfl⟩,rfl⟩,rfl⟩,rfl⟩,rfl⟩,rfl⟩,rfl⟩,rfl⟩,rfl⟩,rfl⟩,rfl⟩,rfl⟩,rfl⟩,rfl⟩,rfl⟩,rfl⟩,rfl⟩,rfl⟩,rfl⟩,rfl⟩,rfl⟩,rfl⟩,rfl⟩,rfl⟩,rfl⟩,rfl⟩,rfl⟩,rfl⟩,rfl⟩,rfl⟩

set_option maxRecDepth 100000 in
theorem g_K_3_1_111 (b : BS) (s : SR) (n1 n2 n3 : ND) (g1 : GV) (H : HB b) (c1 : n1.c = true) (c2 : n2.c = true) (c3 : n3.c = true) : Holds (fitOA (head b.kept .w s [n1, n2, n3] [g1]) none (runB b .k s [n1, n2, n3] [g1] [true, true, true, true, true, true, true, true])) := by
  exact Holds.of (p := ((((((((((((((((((((((((((((((((((((((((((((((((((((((True∧
((b.kl : Bool) = (true)))∧
((b.kl : Bool) = (true)))∧
((b.kl : Bool) = (true)))∧
((b.kl : Bool) = (true)))∧
((n1.c : Bool) = (true)))∧
((n2.c : Bool) = (true)))∧
((n3.c : Bool) = (true)))∧
ident b.mw)∧
ident b.ak)∧
((decide (b.mw ≥ b.aw) : Bool) = (true)))∧
ident b.f)∧
ident b.g)∧
((b.kept.now : Int) = (b.nw)))∧
((b.kept.k : Int) = (b.kw)))∧
((b.kept.ak : Int) = (b.mw)))∧
ident b.h)∧
((b.kept.now : Int) = (b.mw)))∧
ident b.nx)∧
((b.kept.kp : Bool) = (Nat.ble 0 0)))∧
ident s.i0)∧
ident s.i1)∧
ident s.i2)∧
ident s.i3)∧
ident s.p)∧
ident s.b)∧
((s.o : Bool) = (s.o)))∧
((s.f : Bool) = (s.f)))∧
ident n1.i0)∧
ident n1.i1)∧
ident n1.i2)∧
ident n1.i3)∧
ident n1.x)∧
((n1.c : Bool) = (n1.c)))∧
ident n1.pl)∧
ident n2.i0)∧
ident n2.i1)∧
ident n2.i2)∧
ident n2.i3)∧
ident n2.x)∧
((n2.c : Bool) = (n2.c)))∧
ident n2.pl)∧
ident n3.i0)∧
ident n3.i1)∧
ident n3.i2)∧
ident n3.i3)∧
ident n3.x)∧
((n3.c : Bool) = (n3.c)))∧
ident n3.pl)∧
ident g1.i0)∧
ident g1.i1)∧
ident g1.i2)∧
ident g1.i3)∧
ident g1.a)∧
((g1.kp : Bool) = (g1.kp)))) (by kernel_rfl) ⟨⟨⟨⟨⟨⟨⟨⟨⟨⟨⟨⟨⟨⟨⟨⟨⟨⟨⟨⟨⟨⟨⟨⟨⟨⟨⟨⟨⟨⟨⟨⟨⟨⟨⟨⟨⟨⟨⟨⟨⟨⟨⟨⟨⟨⟨⟨⟨⟨⟨⟨⟨⟨⟨⟨⟩,H.kl⟩,H.kl⟩,H.kl⟩,H.kl⟩,c1⟩,c2⟩,c3⟩,rfl⟩,rfl⟩,H.due⟩,rfl⟩,rfl⟩,H.nw⟩,H.kw⟩,H.mw⟩,rfl⟩,H.mw⟩,rfl⟩,rfl⟩,rfl⟩,rfl⟩,rfl⟩,rfl⟩,rfl⟩,rfl⟩,rfl⟩,rfl⟩,rfl⟩,rfl⟩,rfl⟩,rfl⟩,rfl⟩,rfl⟩,rfl⟩,rfl⟩,rfl⟩,rfl⟩,rfl⟩,rfl⟩,rfl⟩,rfl⟩,rfl⟩,rfl⟩,rfl⟩,rfl⟩,rfl⟩,rfl⟩,rfl⟩,rfl⟩,rfl⟩,rfl⟩,rfl⟩,rfl⟩,rfl⟩

set_option maxRecDepth 100000 in
theorem g_D_3_1 (b : BS) (s : SR) (n1 n2 n3 : ND) (g1 : GV) (e : Int) (H : b.kl = true) : Holds (fitOA (fin b e s [g1]) (some 2) (runB b (.d e) s [n1, n2, n3] [g1] [true, true, true, true])) := by
  exact Holds.of (p := (((((((((((((((((((((((((((True∧
((b.kl : Bool) = (true)))∧
((b.kl : Bool) = (true)))∧
((b.kl : Bool) = (true)))∧
((b.kl : Bool) = (true)))∧
ident b.f)∧
ident b.g)∧
ident b.now)∧
ident b.ak)∧
ident b.h)∧
ident b.now)∧
ident b.nx)∧
((b.kp : Bool) = (b.kp)))∧
ident e)∧
ident s.i0)∧
ident s.i1)∧
ident s.i2)∧
ident s.i3)∧
ident s.p)∧
ident s.b)∧
((s.o : Bool) = (s.o)))∧
((s.f : Bool) = (s.f)))∧
ident g1.i0)∧
ident g1.i1)∧
ident g1.i2)∧
ident g1.i3)∧
ident g1.a)∧
((g1.kp : Bool) = (g1.kp)))) (by kernel_rfl) ⟨⟨⟨⟨⟨⟨⟨⟨⟨⟨⟨⟨⟨⟨⟨⟨⟨⟨⟨⟨⟨⟨⟨⟨⟨⟨⟨⟨⟩,H⟩,H⟩,H⟩,H⟩,rfl⟩,rfl⟩,rfl⟩,rfl⟩,rfl⟩,rfl⟩,rfl⟩,rfl⟩,rfl⟩,rfl⟩,rfl⟩,rfl⟩,rfl⟩,rfl⟩,rfl⟩,rfl⟩,rfl⟩,rfl⟩,rfl⟩,rfl⟩,rfl⟩,rfl⟩,rfl⟩

end Go.Proofs.YtpdgklkcjegkfaaGreat
