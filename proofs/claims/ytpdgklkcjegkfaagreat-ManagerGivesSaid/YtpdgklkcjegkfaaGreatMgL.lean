/-
  ManagerGives: rounds of three nodes, all given.
-/
import Derived.Test.YtpdgklkcjegkfaaGreatMgF
set_option linter.unusedSimpArgs false
set_option linter.unusedVariables false
namespace Go.Proofs.YtpdgklkcjegkfaaGreat
open Go Go.Sx

set_option maxRecDepth 100000 in
theorem g_Sc_3_3_000 (b : BS) (s : SR) (n1 n2 n3 : ND) (g1 g2 g3 : GV) (a1 a2 a3 a4 fb fu ft : Int) (H : HB b) (h : HS s fb fu) (c1 : n1.c = false) (r1 : n1.ok a1 a2 a3 a4 fb fu = false) (c2 : n2.c = false) (r2 : n2.ok a1 a2 a3 a4 fb fu = false) (c3 : n3.c = false) (r3 : n3.ok a1 a2 a3 a4 fb fu = false) (t : HT (s.told false)) : Holds (fitOA (head b.next (s.told false).ask (s.told false) [n1.hears false fb fu ft, n2.hears false fb fu ft, n3.hears false fb fu ft] [g1, g2, g3]) none (runB b (.s a1 a2 a3 a4 fb fu ft) s [n1, n2, n3] [g1, g2, g3] [true, true, true, true, false, false, false, true, false, false, false, false])) := by
  exact Holds.of (p := ((((((((((((((((((((((((((((((((((((((((((((((((((((((((((((((((((((((((((((((((((((((((((((((((((((True∧
((b.kl : Bool) = (true)))∧
((b.kl : Bool) = (true)))∧
((b.kl : Bool) = (true)))∧
((b.kl : Bool) = (true)))∧
(((n1.c : Bool) = (false))∧
((Int.NonNeg (fu - 0 : Int))∧
((Int.NonNeg (3 - fu : Int))∧
((Int.NonNeg (fb - 0 : Int))∧
((n1.ok a1 a2 a3 a4 fb fu : Bool) = (false)))))))∧
ident a1)∧
ident a2)∧
ident a3)∧
ident a4)∧
ident fb)∧
ident fu)∧
ident ft)∧
(((n2.c : Bool) = (false))∧
((Int.NonNeg (fu - 0 : Int))∧
((Int.NonNeg (3 - fu : Int))∧
((Int.NonNeg (fb - 0 : Int))∧
((n2.ok a1 a2 a3 a4 fb fu : Bool) = (false)))))))∧
ident a1)∧
ident a2)∧
ident a3)∧
ident a4)∧
ident fb)∧
ident fu)∧
ident ft)∧
(((n3.c : Bool) = (false))∧
((Int.NonNeg (fu - 0 : Int))∧
((Int.NonNeg (3 - fu : Int))∧
((Int.NonNeg (fb - 0 : Int))∧
((n3.ok a1 a2 a3 a4 fb fu : Bool) = (false)))))))∧
ident a1)∧
ident a2)∧
ident a3)∧
ident a4)∧
ident fb)∧
ident fu)∧
ident ft)∧
ident b.mw)∧
ident b.ak)∧
((decide (b.mw ≥ b.aw) : Bool) = (true)))∧
((Int.NonNeg (s.p - 0 : Int))∧
((Int.NonNeg (3 - s.p : Int))∧
((Int.NonNeg (s.b - -1 : Int))∧
((Int.NonNeg (32 - s.b : Int))∧
(((s.o : Bool) = (false))∧
((s.f : Bool) = (false))))))))∧
(((s.told false).f : Bool) = (false)))∧
(((s.told false).o : Bool) = (false)))∧
(((s.told false).o : Bool) = (false)))∧
(((s.told false).o : Bool) = (false)))∧
((Int.NonNeg ((s.told false).p - 0 : Int))∧
((Int.NonNeg (3 - (s.told false).p : Int))∧
((Int.NonNeg ((s.told false).b - -1 : Int))∧
((Int.NonNeg (32 - (s.told false).b : Int))∧
((((s.told false).o : Bool) = (false))∧
(((s.told false).f : Bool) = (false))))))))∧
ident b.f)∧
ident b.g)∧
((b.next.now : Int) = (b.nw)))∧
((b.next.k : Int) = (b.kw)))∧
((b.next.ak : Int) = (b.mw)))∧
ident b.h)∧
((b.next.now : Int) = (b.mw)))∧
ident b.nx)∧
((b.next.kp : Bool) = (b.kp)))∧
ident ((s.told false).i0))∧
ident ((s.told false).i1))∧
ident ((s.told false).i2))∧
ident ((s.told false).i3))∧
ident ((s.told false).p))∧
ident ((s.told false).b))∧
(((s.told false).o : Bool) = (false)))∧
(((s.told false).f : Bool) = (false)))∧
ident n1.i0)∧
ident n1.i1)∧
ident n1.i2)∧
ident n1.i3)∧
ident n1.x)∧
(((n1.hears false fb fu ft).c : Bool) = (false)))∧
ident n1.pl)∧
ident n2.i0)∧
ident n2.i1)∧
ident n2.i2)∧
ident n2.i3)∧
ident n2.x)∧
(((n2.hears false fb fu ft).c : Bool) = (false)))∧
ident n2.pl)∧
ident n3.i0)∧
ident n3.i1)∧
ident n3.i2)∧
ident n3.i3)∧
ident n3.x)∧
(((n3.hears false fb fu ft).c : Bool) = (false)))∧
ident n3.pl)∧
ident (IntKind.u8.wrap ((s.told false).sel)))∧
ident (byK ((s.told false).sel) 8))∧
ident (byK ((s.told false).sel) 16))∧
ident (byK ((s.told false).sel) 24))∧
ident (bitsF ((s.told false).b)))∧
ident ((s.told false).p))∧
ident (nextF ((s.told false).p) ((s.told false).b)))∧
ident g1.i0)∧
ident g1.i1)∧
ident g1.i2)∧
ident g1.i3)∧
ident g1.a)∧
((g1.kp : Bool) = (g1.kp)))∧
ident g2.i0)∧
ident g2.i1)∧
ident g2.i2)∧
ident g2.i3)∧
ident g2.a)∧
((g2.kp : Bool) = (g2.kp)))∧
ident g3.i0)∧
ident g3.i1)∧
ident g3.i2)∧
ident g3.i3)∧
ident g3.a)∧
((g3.kp : Bool) = (g3.kp)))) (by kernel_rfl) ⟨⟨⟨⟨⟨⟨⟨⟨⟨⟨⟨⟨⟨⟨⟨⟨⟨⟨⟨⟨⟨⟨⟨⟨⟨⟨⟨⟨⟨⟨⟨⟨⟨⟨⟨⟨⟨⟨⟨⟨⟨⟨⟨⟨⟨⟨⟨⟨⟨⟨⟨⟨⟨⟨⟨⟨⟨⟨⟨⟨⟨⟨⟨⟨⟨⟨⟨⟨⟨⟨⟨⟨⟨⟨⟨⟨⟨⟨⟨⟨⟨⟨⟨⟨⟨⟨⟨⟨⟨⟨⟨⟨⟨⟨⟨⟨⟨⟨⟨⟨⟨⟩,H.kl⟩,H.kl⟩,H.kl⟩,H.kl⟩,⟨c1,⟨le1 h.u0,⟨le1 h.u3,⟨le1 h.b0,r1⟩⟩⟩⟩⟩,rfl⟩,rfl⟩,rfl⟩,rfl⟩,rfl⟩,rfl⟩,rfl⟩,⟨c2,⟨le1 h.u0,⟨le1 h.u3,⟨le1 h.b0,r2⟩⟩⟩⟩⟩,rfl⟩,rfl⟩,rfl⟩,rfl⟩,rfl⟩,rfl⟩,rfl⟩,⟨c3,⟨le1 h.u0,⟨le1 h.u3,⟨le1 h.b0,r3⟩⟩⟩⟩⟩,rfl⟩,rfl⟩,rfl⟩,rfl⟩,rfl⟩,rfl⟩,rfl⟩,rfl⟩,rfl⟩,H.due⟩,⟨le1 h.p0,⟨le1 h.p3,⟨le1 h.b1,⟨le1 h.b32,⟨h.o,h.f⟩⟩⟩⟩⟩⟩,t.f⟩,t.o⟩,t.o⟩,t.o⟩,⟨le1 t.p0,⟨le1 t.p3,⟨le1 t.b1,⟨le1 t.b32,⟨t.o,t.f⟩⟩⟩⟩⟩⟩,rfl⟩,rfl⟩,H.nw⟩,H.kw⟩,H.mw⟩,rfl⟩,H.mw⟩,rfl⟩,rfl⟩,rfl⟩,rfl⟩,rfl⟩,rfl⟩,rfl⟩,rfl⟩,t.o⟩,t.f⟩,rfl⟩,rfl⟩,rfl⟩,rfl⟩,rfl⟩,rfl⟩,rfl⟩,rfl⟩,rfl⟩,rfl⟩,rfl⟩,rfl⟩,rfl⟩,rfl⟩,rfl⟩,rfl⟩,rfl⟩,rfl⟩,rfl⟩,rfl⟩,rfl⟩,rfl⟩,rfl⟩,rfl⟩,rfl⟩,rfl⟩,rfl⟩,rfl⟩,rfl⟩,rfl⟩,rfl⟩,rfl⟩,rfl⟩,rfl⟩,rfl⟩,rfl⟩,rfl⟩,rfl⟩,rfl⟩,rfl⟩,rfl⟩,rfl⟩,rfl⟩,rfl⟩,rfl⟩,rfl⟩

set_option maxRecDepth 100000 in
theorem g_Sd_3_3_000 (b : BS) (s : SR) (n1 n2 n3 : ND) (g1 g2 g3 : GV) (a1 a2 a3 a4 fb fu ft : Int) (H : HB b) (h : HS s fb fu) (c1 : n1.c = false) (r1 : n1.ok a1 a2 a3 a4 fb fu = false) (c2 : n2.c = false) (r2 : n2.ok a1 a2 a3 a4 fb fu = false) (c3 : n3.c = false) (r3 : n3.ok a1 a2 a3 a4 fb fu = false) (tf : (s.told false).f = false) (to : (s.told false).o = true) (h32 : (s.b == 32) = true) : Holds (fitOA (head b.over (.d 0) (s.told false) [n1.hears false fb fu ft, n2.hears false fb fu ft, n3.hears false fb fu ft] [g1, g2, g3]) none (runB b (.s a1 a2 a3 a4 fb fu ft) s [n1, n2, n3] [g1, g2, g3] [true, true, true, true, false, false, false, true, false, true, true, true])) := by
  exact Holds.of (p := (((((((((((((((((((((((((((((((((((((((((((((((((((((((((((((((((((((((((((((((((((((((((((((True∧
((b.kl : Bool) = (true)))∧
((b.kl : Bool) = (true)))∧
((b.kl : Bool) = (true)))∧
((b.kl : Bool) = (true)))∧
(((n1.c : Bool) = (false))∧
((Int.NonNeg (fu - 0 : Int))∧
((Int.NonNeg (3 - fu : Int))∧
((Int.NonNeg (fb - 0 : Int))∧
((n1.ok a1 a2 a3 a4 fb fu : Bool) = (false)))))))∧
ident a1)∧
ident a2)∧
ident a3)∧
ident a4)∧
ident fb)∧
ident fu)∧
ident ft)∧
(((n2.c : Bool) = (false))∧
((Int.NonNeg (fu - 0 : Int))∧
((Int.NonNeg (3 - fu : Int))∧
((Int.NonNeg (fb - 0 : Int))∧
((n2.ok a1 a2 a3 a4 fb fu : Bool) = (false)))))))∧
ident a1)∧
ident a2)∧
ident a3)∧
ident a4)∧
ident fb)∧
ident fu)∧
ident ft)∧
(((n3.c : Bool) = (false))∧
((Int.NonNeg (fu - 0 : Int))∧
((Int.NonNeg (3 - fu : Int))∧
((Int.NonNeg (fb - 0 : Int))∧
((n3.ok a1 a2 a3 a4 fb fu : Bool) = (false)))))))∧
ident a1)∧
ident a2)∧
ident a3)∧
ident a4)∧
ident fb)∧
ident fu)∧
ident ft)∧
ident b.mw)∧
ident b.ak)∧
((decide (b.mw ≥ b.aw) : Bool) = (true)))∧
((Int.NonNeg (s.p - 0 : Int))∧
((Int.NonNeg (3 - s.p : Int))∧
((Int.NonNeg (s.b - -1 : Int))∧
((Int.NonNeg (32 - s.b : Int))∧
(((s.o : Bool) = (false))∧
((s.f : Bool) = (false))))))))∧
(((s.told false).f : Bool) = (false)))∧
(((s.told false).o : Bool) = (true)))∧
(((s.told false).o : Bool) = (true)))∧
((s.b == 32 : Bool) = (true)))∧
ident b.f)∧
ident b.g)∧
((b.over.now : Int) = (b.nw)))∧
((b.over.k : Int) = (b.kw)))∧
ident b.ak)∧
ident b.h)∧
((b.over.now : Int) = (b.mw)))∧
ident b.nx)∧
((b.over.kp : Bool) = (b.kp)))∧
ident 0)∧
ident ((s.told false).i0))∧
ident ((s.told false).i1))∧
ident ((s.told false).i2))∧
ident ((s.told false).i3))∧
ident ((s.told false).p))∧
ident ((s.told false).b))∧
(((s.told false).o : Bool) = ((s.told false).o)))∧
(((s.told false).f : Bool) = ((s.told false).f)))∧
ident n1.i0)∧
ident n1.i1)∧
ident n1.i2)∧
ident n1.i3)∧
ident n1.x)∧
(((n1.hears false fb fu ft).c : Bool) = (false)))∧
ident n1.pl)∧
ident n2.i0)∧
ident n2.i1)∧
ident n2.i2)∧
ident n2.i3)∧
ident n2.x)∧
(((n2.hears false fb fu ft).c : Bool) = (false)))∧
ident n2.pl)∧
ident n3.i0)∧
ident n3.i1)∧
ident n3.i2)∧
ident n3.i3)∧
ident n3.x)∧
(((n3.hears false fb fu ft).c : Bool) = (false)))∧
ident n3.pl)∧
ident g1.i0)∧
ident g1.i1)∧
ident g1.i2)∧
ident g1.i3)∧
ident g1.a)∧
((g1.kp : Bool) = (g1.kp)))∧
ident g2.i0)∧
ident g2.i1)∧
ident g2.i2)∧
ident g2.i3)∧
ident g2.a)∧
((g2.kp : Bool) = (g2.kp)))∧
ident g3.i0)∧
ident g3.i1)∧
ident g3.i2)∧
ident g3.i3)∧
ident g3.a)∧
((g3.kp : Bool) = (g3.kp)))) (by kernel_rfl) ⟨⟨⟨⟨⟨⟨⟨⟨⟨⟨⟨⟨⟨⟨⟨⟨⟨⟨⟨⟨⟨⟨⟨⟨⟨⟨⟨⟨⟨⟨⟨⟨⟨⟨⟨⟨⟨⟨⟨⟨⟨⟨⟨⟨⟨⟨⟨⟨⟨⟨⟨⟨⟨⟨⟨⟨⟨⟨⟨⟨⟨⟨⟨⟨⟨⟨⟨⟨⟨⟨⟨⟨⟨⟨⟨⟨⟨⟨⟨⟨⟨⟨⟨⟨⟨⟨⟨⟨⟨⟨⟨⟨⟨⟨⟩,H.kl⟩,H.kl⟩,H.kl⟩,H.kl⟩,⟨c1,⟨le1 h.u0,⟨le1 h.u3,⟨le1 h.b0,r1⟩⟩⟩⟩⟩,rfl⟩,rfl⟩,rfl⟩,rfl⟩,rfl⟩,rfl⟩,rfl⟩,⟨c2,⟨le1 h.u0,⟨le1 h.u3,⟨le1 h.b0,r2⟩⟩⟩⟩⟩,rfl⟩,rfl⟩,rfl⟩,rfl⟩,rfl⟩,rfl⟩,rfl⟩,⟨c3,⟨le1 h.u0,⟨le1 h.u3,⟨le1 h.b0,r3⟩⟩⟩⟩⟩,rfl⟩,rfl⟩,rfl⟩,rfl⟩,rfl⟩,rfl⟩,rfl⟩,rfl⟩,rfl⟩,H.due⟩,⟨le1 h.p0,⟨le1 h.p3,⟨le1 h.b1,⟨le1 h.b32,⟨h.o,h.f⟩⟩⟩⟩⟩⟩,tf⟩,to⟩,to⟩,h32⟩,rfl⟩,rfl⟩,H.nw⟩,H.kw⟩,rfl⟩,rfl⟩,H.mw⟩,rfl⟩,rfl⟩,rfl⟩,rfl⟩,rfl⟩,rfl⟩,rfl⟩,rfl⟩,rfl⟩,rfl⟩,rfl⟩,rfl⟩,rfl⟩,rfl⟩,rfl⟩,rfl⟩,rfl⟩,rfl⟩,rfl⟩,rfl⟩,rfl⟩,rfl⟩,rfl⟩,rfl⟩,rfl⟩,rfl⟩,rfl⟩,rfl⟩,rfl⟩,rfl⟩,rfl⟩,rfl⟩,rfl⟩,rfl⟩,rfl⟩,rfl⟩,rfl⟩,rfl⟩,rfl⟩,rfl⟩,rfl⟩,rfl⟩,rfl⟩,rfl⟩,rfl⟩,rfl⟩,rfl⟩,rfl⟩,rfl⟩,rfl⟩

set_option maxRecDepth 100000 in
theorem g_Se_3_3_000 (b : BS) (s : SR) (n1 n2 n3 : ND) (g1 g2 g3 : GV) (a1 a2 a3 a4 fb fu ft : Int) (H : HB b) (h : HS s fb fu) (c1 : n1.c = false) (r1 : n1.ok a1 a2 a3 a4 fb fu = false) (c2 : n2.c = false) (r2 : n2.ok a1 a2 a3 a4 fb fu = false) (c3 : n3.c = false) (r3 : n3.ok a1 a2 a3 a4 fb fu = false) (tf : (s.told false).f = false) (to : (s.told false).o = true) (h32 : (s.b == 32) = false) : Holds (fitOA (head b.over (.d 5) (s.told false) [n1.hears false fb fu ft, n2.hears false fb fu ft, n3.hears false fb fu ft] [g1, g2, g3]) none (runB b (.s a1 a2 a3 a4 fb fu ft) s [n1, n2, n3] [g1, g2, g3] [true, true, true, true, false, false, false, true, false, true, true, false, true])) := by
  exact Holds.of (p := ((((((((((((((((((((((((((((((((((((((((((((((((((((((((((((((((((((((((((((((((((((((((((((((True∧
((b.kl : Bool) = (true)))∧
((b.kl : Bool) = (true)))∧
((b.kl : Bool) = (true)))∧
((b.kl : Bool) = (true)))∧
(((n1.c : Bool) = (false))∧
((Int.NonNeg (fu - 0 : Int))∧
((Int.NonNeg (3 - fu : Int))∧
((Int.NonNeg (fb - 0 : Int))∧
((n1.ok a1 a2 a3 a4 fb fu : Bool) = (false)))))))∧
ident a1)∧
ident a2)∧
ident a3)∧
ident a4)∧
ident fb)∧
ident fu)∧
ident ft)∧
(((n2.c : Bool) = (false))∧
((Int.NonNeg (fu - 0 : Int))∧
((Int.NonNeg (3 - fu : Int))∧
((Int.NonNeg (fb - 0 : Int))∧
((n2.ok a1 a2 a3 a4 fb fu : Bool) = (false)))))))∧
ident a1)∧
ident a2)∧
ident a3)∧
ident a4)∧
ident fb)∧
ident fu)∧
ident ft)∧
(((n3.c : Bool) = (false))∧
((Int.NonNeg (fu - 0 : Int))∧
((Int.NonNeg (3 - fu : Int))∧
((Int.NonNeg (fb - 0 : Int))∧
((n3.ok a1 a2 a3 a4 fb fu : Bool) = (false)))))))∧
ident a1)∧
ident a2)∧
ident a3)∧
ident a4)∧
ident fb)∧
ident fu)∧
ident ft)∧
ident b.mw)∧
ident b.ak)∧
((decide (b.mw ≥ b.aw) : Bool) = (true)))∧
((Int.NonNeg (s.p - 0 : Int))∧
((Int.NonNeg (3 - s.p : Int))∧
((Int.NonNeg (s.b - -1 : Int))∧
((Int.NonNeg (32 - s.b : Int))∧
(((s.o : Bool) = (false))∧
((s.f : Bool) = (false))))))))∧
(((s.told false).f : Bool) = (false)))∧
(((s.told false).o : Bool) = (true)))∧
(((s.told false).o : Bool) = (true)))∧
((s.b == 32 : Bool) = (false)))∧
(((s.told false).o : Bool) = (true)))∧
ident b.f)∧
ident b.g)∧
((b.over.now : Int) = (b.nw)))∧
((b.over.k : Int) = (b.kw)))∧
ident b.ak)∧
ident b.h)∧
((b.over.now : Int) = (b.mw)))∧
ident b.nx)∧
((b.over.kp : Bool) = (b.kp)))∧
ident 5)∧
ident ((s.told false).i0))∧
ident ((s.told false).i1))∧
ident ((s.told false).i2))∧
ident ((s.told false).i3))∧
ident ((s.told false).p))∧
ident ((s.told false).b))∧
(((s.told false).o : Bool) = ((s.told false).o)))∧
(((s.told false).f : Bool) = ((s.told false).f)))∧
ident n1.i0)∧
ident n1.i1)∧
ident n1.i2)∧
ident n1.i3)∧
ident n1.x)∧
(((n1.hears false fb fu ft).c : Bool) = (false)))∧
ident n1.pl)∧
ident n2.i0)∧
ident n2.i1)∧
ident n2.i2)∧
ident n2.i3)∧
ident n2.x)∧
(((n2.hears false fb fu ft).c : Bool) = (false)))∧
ident n2.pl)∧
ident n3.i0)∧
ident n3.i1)∧
ident n3.i2)∧
ident n3.i3)∧
ident n3.x)∧
(((n3.hears false fb fu ft).c : Bool) = (false)))∧
ident n3.pl)∧
ident g1.i0)∧
ident g1.i1)∧
ident g1.i2)∧
ident g1.i3)∧
ident g1.a)∧
((g1.kp : Bool) = (g1.kp)))∧
ident g2.i0)∧
ident g2.i1)∧
ident g2.i2)∧
ident g2.i3)∧
ident g2.a)∧
((g2.kp : Bool) = (g2.kp)))∧
ident g3.i0)∧
ident g3.i1)∧
ident g3.i2)∧
ident g3.i3)∧
ident g3.a)∧
((g3.kp : Bool) = (g3.kp)))) (by kernel_rfl) ⟨⟨⟨⟨⟨⟨⟨⟨⟨⟨⟨⟨⟨⟨⟨⟨⟨⟨⟨⟨⟨⟨⟨⟨⟨⟨⟨⟨⟨⟨⟨⟨⟨⟨⟨⟨⟨⟨⟨⟨⟨⟨⟨⟨⟨⟨⟨⟨⟨⟨⟨⟨⟨⟨⟨⟨⟨⟨⟨⟨⟨⟨⟨⟨⟨⟨⟨⟨⟨⟨⟨⟨⟨⟨⟨⟨⟨⟨⟨⟨⟨⟨⟨⟨⟨⟨⟨⟨⟨⟨⟨⟨⟨⟨⟨⟩,H.kl⟩,H.kl⟩,H.kl⟩,H.kl⟩,⟨c1,⟨le1 h.u0,⟨le1 h.u3,⟨le1 h.b0,r1⟩⟩⟩⟩⟩,rfl⟩,rfl⟩,rfl⟩,rfl⟩,rfl⟩,rfl⟩,rfl⟩,⟨c2,⟨le1 h.u0,⟨le1 h.u3,⟨le1 h.b0,r2⟩⟩⟩⟩⟩,rfl⟩,rfl⟩,rfl⟩,rfl⟩,rfl⟩,rfl⟩,rfl⟩,⟨c3,⟨le1 h.u0,⟨le1 h.u3,⟨le1 h.b0,r3⟩⟩⟩⟩⟩,rfl⟩,rfl⟩,rfl⟩,rfl⟩,rfl⟩,rfl⟩,rfl⟩,rfl⟩,rfl⟩,H.due⟩,⟨le1 h.p0,⟨le1 h.p3,⟨le1 h.b1,⟨le1 h.b32,⟨h.o,h.f⟩⟩⟩⟩⟩⟩,tf⟩,to⟩,to⟩,h32⟩,to⟩,rfl⟩,rfl⟩,H.nw⟩,H.kw⟩,rfl⟩,rfl⟩,H.mw⟩,rfl⟩,rfl⟩,rfl⟩,rfl⟩,rfl⟩,rfl⟩,rfl⟩,rfl⟩,rfl⟩,rfl⟩,rfl⟩,rfl⟩,rfl⟩,rfl⟩,rfl⟩,rfl⟩,rfl⟩,rfl⟩,rfl⟩,rfl⟩,rfl⟩,rfl⟩,rfl⟩,rfl⟩,rfl⟩,rfl⟩,rfl⟩,rfl⟩,rfl⟩,rfl⟩,rfl⟩,rfl⟩,rfl⟩,rfl⟩,rfl⟩,rfl⟩,rfl⟩,rfl⟩,rfl⟩,rfl⟩,rfl⟩,rfl⟩,rfl⟩,rfl⟩,rfl⟩,rfl⟩,rfl⟩,rfl⟩,rfl⟩,rfl⟩

set_option maxRecDepth 100000 in
theorem g_D_3_3 (b : BS) (s : SR) (n1 n2 n3 : ND) (g1 g2 g3 : GV) (e : Int) (H : b.kl = true) : Holds (fitOA (fin b e s [g1, g2, g3]) (some 2) (runB b (.d e) s [n1, n2, n3] [g1, g2, g3] [true, true, true, true])) := by
  exact Holds.of (p := (((((((((((((((((((((((((((((((((((((((True∧
((b.kl : Bool) = (true)))∧
((b.kl : Bool) = (true)))∧
((b.kl : Bool) = (true)))∧
((b.kl : Bool) = (true)))∧
ident b.f)∧
ident b.g)∧
ident b.now)∧
ident b.ak)∧
ident b.h)∧
ident b.now)∧
ident b.nx)∧
((b.kp : Bool) = (b.kp)))∧
ident e)∧
ident s.i0)∧
ident s.i1)∧
ident s.i2)∧
ident s.i3)∧
ident s.p)∧
ident s.b)∧
((s.o : Bool) = (s.o)))∧
((s.f : Bool) = (s.f)))∧
ident g1.i0)∧
ident g1.i1)∧
ident g1.i2)∧
ident g1.i3)∧
ident g1.a)∧
((g1.kp : Bool) = (g1.kp)))∧
ident g2.i0)∧
ident g2.i1)∧
ident g2.i2)∧
ident g2.i3)∧
ident g2.a)∧
((g2.kp : Bool) = (g2.kp)))∧
ident g3.i0)∧
ident g3.i1)∧
ident g3.i2)∧
ident g3.i3)∧
ident g3.a)∧
((g3.kp : Bool) = (g3.kp)))) (by kernel_rfl) ⟨⟨⟨⟨⟨⟨⟨⟨⟨⟨⟨⟨⟨⟨⟨⟨⟨⟨⟨⟨⟨⟨⟨⟨⟨⟨⟨⟨⟨⟨⟨⟨⟨⟨⟨⟨⟨⟨⟨⟨⟩,H⟩,H⟩,H⟩,H⟩,rfl⟩,rfl⟩,rfl⟩,rfl⟩,rfl⟩,rfl⟩,rfl⟩,rfl⟩,rfl⟩,rfl⟩,rfl⟩,rfl⟩,rfl⟩,rfl⟩,rfl⟩,rfl⟩,rfl⟩,rfl⟩,rfl⟩,rfl⟩,rfl⟩,rfl⟩,rfl⟩,rfl⟩,rfl⟩,rfl⟩,rfl⟩,rfl⟩,rfl⟩,rfl⟩,rfl⟩,rfl⟩,rfl⟩,rfl⟩,rfl⟩

end Go.Proofs.YtpdgklkcjegkfaaGreat
