/-
  ManagerGives: a round, whatever the nodes answer.
-/
import Derived.Test.YtpdgklkcjegkfaaGreatMgG
import Derived.Test.YtpdgklkcjegkfaaGreatMgH
import Derived.Test.YtpdgklkcjegkfaaGreatMgI
import Derived.Test.YtpdgklkcjegkfaaGreatMgJ
import Derived.Test.YtpdgklkcjegkfaaGreatMgK
import Derived.Test.YtpdgklkcjegkfaaGreatMgL
set_option linter.unusedSimpArgs false
set_option linter.unusedVariables false
namespace Go.Proofs.YtpdgklkcjegkfaaGreat
open Go Go.Sx

def anyOk (ns : List ND) (a1 a2 a3 a4 fb fu : Int) : Bool := ns.any fun n => n.ok a1 a2 a3 a4 fb fu
def hearsL (ns : List ND) (a1 a2 a3 a4 fb fu ft : Int) : List ND := ns.map fun n => n.hears (n.ok a1 a2 a3 a4 fb fu) fb fu ft
def setL (ns : List ND) (u : Int) : List ND := ns.map fun n => n.set u n.c

set_option maxRecDepth 100000 in
theorem rS_0_0 (b : BS) (s : SR) (a1 a2 a3 a4 fb fu ft : Int) (H : HB b) (h : HS s fb fu) (hc : ∀ m ∈ ([] : List ND), m.c = false) (hx : (anyOk [] a1 a2 a3 a4 fb fu) = true → 0 < 0) :
    (HT (s.told (anyOk [] a1 a2 a3 a4 fb fu)) → ∃ orc, Holds (fitOA (head b.next (s.told (anyOk [] a1 a2 a3 a4 fb fu)).ask (s.told (anyOk [] a1 a2 a3 a4 fb fu)) (hearsL [] a1 a2 a3 a4 fb fu ft) []) none (runB b (.s a1 a2 a3 a4 fb fu ft) s [] [] orc))) ∧
    ((anyOk [] a1 a2 a3 a4 fb fu) = true → (s.told true).f = true → ∃ orc, Holds (fitOA (head b.asked (.a b.nx) (s.told true) (hearsL [] a1 a2 a3 a4 fb fu ft) []) none (runB b (.s a1 a2 a3 a4 fb fu ft) s [] [] orc))) ∧
    ((anyOk [] a1 a2 a3 a4 fb fu) = false → (s.told false).f = false → (s.told false).o = true → ∃ e orc, Holds (fitOA (head b.over (.d e) (s.told false) (hearsL [] a1 a2 a3 a4 fb fu ft) []) none (runB b (.s a1 a2 a3 a4 fb fu ft) s [] [] orc))) := by
  have ea : (anyOk [] a1 a2 a3 a4 fb fu) = false := by rfl
  have eh : hearsL [] a1 a2 a3 a4 fb fu ft = [] := rfl
  rw [ea, eh]
  refine ⟨fun t => ⟨[true, true, true, true, true, false, false, false, false], g_Sc_0_0_ b s a1 a2 a3 a4 fb fu ft H h  t⟩, (fun q => by cases q), fun _ tf to => ?_⟩
  cases h32 : (s.b == 32) with
  | true => exact ⟨0, [true, true, true, true, true, false, true, true, true], g_Sd_0_0_ b s a1 a2 a3 a4 fb fu ft H h  tf to h32⟩
  | false => exact ⟨5, [true, true, true, true, true, false, true, true, false, true], g_Se_0_0_ b s a1 a2 a3 a4 fb fu ft H h  tf to h32⟩

set_option maxRecDepth 100000 in
theorem rD_0_0 (b : BS) (s : SR) (e : Int) (H : b.kl = true) : ∃ orc, Holds (fitOA (fin b e s []) (some 2) (runB b (.d e) s [] [] orc)) := ⟨[true, true, true, true], g_D_0_0 b s e H⟩

set_option maxRecDepth 100000 in
theorem rS_1_0 (b : BS) (s : SR) (n1 : ND) (a1 a2 a3 a4 fb fu ft : Int) (H : HB b) (h : HS s fb fu) (hc : ∀ m ∈ ([n1] : List ND), m.c = false) (hx : (anyOk [n1] a1 a2 a3 a4 fb fu) = true → 0 < 1) :
    (HT (s.told (anyOk [n1] a1 a2 a3 a4 fb fu)) → ∃ orc, Holds (fitOA (head b.next (s.told (anyOk [n1] a1 a2 a3 a4 fb fu)).ask (s.told (anyOk [n1] a1 a2 a3 a4 fb fu)) (hearsL [n1] a1 a2 a3 a4 fb fu ft) []) none (runB b (.s a1 a2 a3 a4 fb fu ft) s [n1] [] orc))) ∧
    ((anyOk [n1] a1 a2 a3 a4 fb fu) = true → (s.told true).f = true → ∃ orc, Holds (fitOA (head b.asked (.a b.nx) (s.told true) (hearsL [n1] a1 a2 a3 a4 fb fu ft) []) none (runB b (.s a1 a2 a3 a4 fb fu ft) s [n1] [] orc))) ∧
    ((anyOk [n1] a1 a2 a3 a4 fb fu) = false → (s.told false).f = false → (s.told false).o = true → ∃ e orc, Holds (fitOA (head b.over (.d e) (s.told false) (hearsL [n1] a1 a2 a3 a4 fb fu ft) []) none (runB b (.s a1 a2 a3 a4 fb fu ft) s [n1] [] orc))) := by
  have c1 : n1.c = false := hc _ (by simp)
  cases r1 : n1.ok a1 a2 a3 a4 fb fu with
  | true =>
    have ea : (anyOk [n1] a1 a2 a3 a4 fb fu) = true := by simp [anyOk, r1]
    have eh : hearsL [n1] a1 a2 a3 a4 fb fu ft = [n1.hears true fb fu ft] := by simp [hearsL, r1]
    rw [ea, eh]
    exact ⟨fun t => ⟨[true, true, true, true, true, true, false, false, false, false], g_Sc_1_0_1 b s n1 a1 a2 a3 a4 fb fu ft H h c1 r1 t⟩, fun _ tf => ⟨[true, true, true, true, true, true, true], g_Sf_1_0_1 b s n1 a1 a2 a3 a4 fb fu ft H h c1 r1 tf⟩, fun q => by cases q⟩
  | false =>
    have ea : (anyOk [n1] a1 a2 a3 a4 fb fu) = false := by simp [anyOk, r1]
    have eh : hearsL [n1] a1 a2 a3 a4 fb fu ft = [n1.hears false fb fu ft] := by simp [hearsL, r1]
    rw [ea, eh]
    refine ⟨fun t => ⟨[true, true, true, true, false, true, false, false, false, false], g_Sc_1_0_0 b s n1 a1 a2 a3 a4 fb fu ft H h c1 r1 t⟩, (fun q => by cases q), fun _ tf to => ?_⟩
    cases h32 : (s.b == 32) with
    | true => exact ⟨0, [true, true, true, true, false, true, false, true, true, true], g_Sd_1_0_0 b s n1 a1 a2 a3 a4 fb fu ft H h c1 r1 tf to h32⟩
    | false => exact ⟨5, [true, true, true, true, false, true, false, true, true, false, true], g_Se_1_0_0 b s n1 a1 a2 a3 a4 fb fu ft H h c1 r1 tf to h32⟩

set_option maxRecDepth 100000 in
theorem rD_1_0 (b : BS) (s : SR) (n1 : ND) (e : Int) (H : b.kl = true) : ∃ orc, Holds (fitOA (fin b e s []) (some 2) (runB b (.d e) s [n1] [] orc)) := ⟨[true, true, true, true], g_D_1_0 b s n1 e H⟩

set_option maxRecDepth 100000 in
theorem rA_1_0 (b : BS) (s : SR) (n1 : ND) (u : Int) (H : HB b) (h4 : 1 ≤ u) (h5 : u ≤ 127) (hc : ([n1] : List ND).any (·.c) = true) : ∃ orc, Holds (fitOA (head b.next .k s (setL [n1] u) []) none (runB b (.a u) s [n1] [] orc)) := by
  cases c1 : n1.c with
  | true =>
    have eh : setL [n1] u = [n1.set u true] := by simp [setL, c1]
    rw [eh]
    exact ⟨[true, true, true, true, true, true], g_A_1_0_1 b s n1 u H h4 h5 c1⟩
  | false =>
    simp [c1] at hc

set_option maxRecDepth 100000 in
theorem rK_1_0 (b : BS) (s : SR) (n1 : ND) (H : HB b) (hc : ([n1] : List ND).any (·.c) = true) : ∃ orc, Holds (fitOA (head b.kept .w s [n1] []) none (runB b .k s [n1] [] orc)) := by
  cases c1 : n1.c with
  | true =>
    exact ⟨[true, true, true, true, true, true], g_K_1_0_1 b s n1 H c1⟩
  | false =>
    simp [c1] at hc

set_option maxRecDepth 100000 in
theorem rW_1_0 (b : BS) (s : SR) (n1 : ND) (H : HB b) :
    (0 ≤ b.nx ∧ b.nx < 127 → ∃ orc, Holds (fitOA (head b.more (SR.ask SR.new) SR.new ([n1].map ND.off) ([] ++ [gvOf b s])) none (runB b .w s [n1] [] orc))) ∧
    (b.nx = 127 → ∃ orc, Holds (fitOA (head b.last (.d 200) SR.new ([n1].map ND.off) ([] ++ [gvOf b s])) none (runB b .w s [n1] [] orc))) :=
  ⟨fun h4 => ⟨[true, true, true, true, true, false], g_W_1_0_0 b s n1 H h4 (by simp; omega)⟩, fun h => ⟨[true, true, true, true, true, true], g_V_1_0_0 b s n1 H (by simp [h]) (by rw [h]; rfl)⟩⟩

set_option maxRecDepth 100000 in
theorem rS_1_1 (b : BS) (s : SR) (n1 : ND) (g1 : GV) (a1 a2 a3 a4 fb fu ft : Int) (H : HB b) (h : HS s fb fu) (hc : ∀ m ∈ ([n1] : List ND), m.c = false) (hx : (anyOk [n1] a1 a2 a3 a4 fb fu) = true → 1 < 1) :
    (HT (s.told (anyOk [n1] a1 a2 a3 a4 fb fu)) → ∃ orc, Holds (fitOA (head b.next (s.told (anyOk [n1] a1 a2 a3 a4 fb fu)).ask (s.told (anyOk [n1] a1 a2 a3 a4 fb fu)) (hearsL [n1] a1 a2 a3 a4 fb fu ft) [g1]) none (runB b (.s a1 a2 a3 a4 fb fu ft) s [n1] [g1] orc))) ∧
    ((anyOk [n1] a1 a2 a3 a4 fb fu) = true → (s.told true).f = true → ∃ orc, Holds (fitOA (head b.asked (.a b.nx) (s.told true) (hearsL [n1] a1 a2 a3 a4 fb fu ft) [g1]) none (runB b (.s a1 a2 a3 a4 fb fu ft) s [n1] [g1] orc))) ∧
    ((anyOk [n1] a1 a2 a3 a4 fb fu) = false → (s.told false).f = false → (s.told false).o = true → ∃ e orc, Holds (fitOA (head b.over (.d e) (s.told false) (hearsL [n1] a1 a2 a3 a4 fb fu ft) [g1]) none (runB b (.s a1 a2 a3 a4 fb fu ft) s [n1] [g1] orc))) := by
  have c1 : n1.c = false := hc _ (by simp)
  cases r1 : n1.ok a1 a2 a3 a4 fb fu with
  | true =>
    have ea : (anyOk [n1] a1 a2 a3 a4 fb fu) = true := by simp [anyOk, r1]
    exact absurd (hx ea) (by decide)
  | false =>
    have ea : (anyOk [n1] a1 a2 a3 a4 fb fu) = false := by simp [anyOk, r1]
    have eh : hearsL [n1] a1 a2 a3 a4 fb fu ft = [n1.hears false fb fu ft] := by simp [hearsL, r1]
    rw [ea, eh]
    refine ⟨fun t => ⟨[true, true, true, true, false, true, false, false, false, false], g_Sc_1_1_0 b s n1 g1 a1 a2 a3 a4 fb fu ft H h c1 r1 t⟩, (fun q => by cases q), fun _ tf to => ?_⟩
    cases h32 : (s.b == 32) with
    | true => exact ⟨0, [true, true, true, true, false, true, false, true, true, true], g_Sd_1_1_0 b s n1 g1 a1 a2 a3 a4 fb fu ft H h c1 r1 tf to h32⟩
    | false => exact ⟨5, [true, true, true, true, false, true, false, true, true, false, true], g_Se_1_1_0 b s n1 g1 a1 a2 a3 a4 fb fu ft H h c1 r1 tf to h32⟩

set_option maxRecDepth 100000 in
theorem rD_1_1 (b : BS) (s : SR) (n1 : ND) (g1 : GV) (e : Int) (H : b.kl = true) : ∃ orc, Holds (fitOA (fin b e s [g1]) (some 2) (runB b (.d e) s [n1] [g1] orc)) := ⟨[true, true, true, true], g_D_1_1 b s n1 g1 e H⟩

set_option maxRecDepth 100000 in
theorem rS_2_0 (b : BS) (s : SR) (n1 n2 : ND) (a1 a2 a3 a4 fb fu ft : Int) (H : HB b) (h : HS s fb fu) (hc : ∀ m ∈ ([n1, n2] : List ND), m.c = false) (hx : (anyOk [n1, n2] a1 a2 a3 a4 fb fu) = true → 0 < 2) :
    (HT (s.told (anyOk [n1, n2] a1 a2 a3 a4 fb fu)) → ∃ orc, Holds (fitOA (head b.next (s.told (anyOk [n1, n2] a1 a2 a3 a4 fb fu)).ask (s.told (anyOk [n1, n2] a1 a2 a3 a4 fb fu)) (hearsL [n1, n2] a1 a2 a3 a4 fb fu ft) []) none (runB b (.s a1 a2 a3 a4 fb fu ft) s [n1, n2] [] orc))) ∧
    ((anyOk [n1, n2] a1 a2 a3 a4 fb fu) = true → (s.told true).f = true → ∃ orc, Holds (fitOA (head b.asked (.a b.nx) (s.told true) (hearsL [n1, n2] a1 a2 a3 a4 fb fu ft) []) none (runB b (.s a1 a2 a3 a4 fb fu ft) s [n1, n2] [] orc))) ∧
    ((anyOk [n1, n2] a1 a2 a3 a4 fb fu) = false → (s.told false).f = false → (s.told false).o = true → ∃ e orc, Holds (fitOA (head b.over (.d e) (s.told false) (hearsL [n1, n2] a1 a2 a3 a4 fb fu ft) []) none (runB b (.s a1 a2 a3 a4 fb fu ft) s [n1, n2] [] orc))) := by
  have c1 : n1.c = false := hc _ (by simp)
  have c2 : n2.c = false := hc _ (by simp)
  cases r1 : n1.ok a1 a2 a3 a4 fb fu with
  | true =>
    cases r2 : n2.ok a1 a2 a3 a4 fb fu with
    | true =>
      have ea : (anyOk [n1, n2] a1 a2 a3 a4 fb fu) = true := by simp [anyOk, r1, r2]
      have eh : hearsL [n1, n2] a1 a2 a3 a4 fb fu ft = [n1.hears true fb fu ft, n2.hears true fb fu ft] := by simp [hearsL, r1, r2]
      rw [ea, eh]
      exact ⟨fun t => ⟨[true, true, true, true, true, true, true, false, false, false, false], g_Sc_2_0_11 b s n1 n2 a1 a2 a3 a4 fb fu ft H h c1 r1 c2 r2 t⟩, fun _ tf => ⟨[true, true, true, true, true, true, true, true], g_Sf_2_0_11 b s n1 n2 a1 a2 a3 a4 fb fu ft H h c1 r1 c2 r2 tf⟩, fun q => by cases q⟩
    | false =>
      have ea : (anyOk [n1, n2] a1 a2 a3 a4 fb fu) = true := by simp [anyOk, r1, r2]
      have eh : hearsL [n1, n2] a1 a2 a3 a4 fb fu ft = [n1.hears true fb fu ft, n2.hears false fb fu ft] := by simp [hearsL, r1, r2]
      rw [ea, eh]
      exact ⟨fun t => ⟨[true, true, true, true, true, false, true, false, false, false, false], g_Sc_2_0_10 b s n1 n2 a1 a2 a3 a4 fb fu ft H h c1 r1 c2 r2 t⟩, fun _ tf => ⟨[true, true, true, true, true, false, true, true], g_Sf_2_0_10 b s n1 n2 a1 a2 a3 a4 fb fu ft H h c1 r1 c2 r2 tf⟩, fun q => by cases q⟩
  | false =>
    cases r2 : n2.ok a1 a2 a3 a4 fb fu with
    | true =>
      have ea : (anyOk [n1, n2] a1 a2 a3 a4 fb fu) = true := by simp [anyOk, r1, r2]
      have eh : hearsL [n1, n2] a1 a2 a3 a4 fb fu ft = [n1.hears false fb fu ft, n2.hears true fb fu ft] := by simp [hearsL, r1, r2]
      rw [ea, eh]
      exact ⟨fun t => ⟨[true, true, true, true, false, true, true, false, false, false, false], g_Sc_2_0_01 b s n1 n2 a1 a2 a3 a4 fb fu ft H h c1 r1 c2 r2 t⟩, fun _ tf => ⟨[true, true, true, true, false, true, true, true], g_Sf_2_0_01 b s n1 n2 a1 a2 a3 a4 fb fu ft H h c1 r1 c2 r2 tf⟩, fun q => by cases q⟩
    | false =>
      have ea : (anyOk [n1, n2] a1 a2 a3 a4 fb fu) = false := by simp [anyOk, r1, r2]
      have eh : hearsL [n1, n2] a1 a2 a3 a4 fb fu ft = [n1.hears false fb fu ft, n2.hears false fb fu ft] := by simp [hearsL, r1, r2]
      rw [ea, eh]
      refine ⟨fun t => ⟨[true, true, true, true, false, false, true, false, false, false, false], g_Sc_2_0_00 b s n1 n2 a1 a2 a3 a4 fb fu ft H h c1 r1 c2 r2 t⟩, (fun q => by cases q), fun _ tf to => ?_⟩
      cases h32 : (s.b == 32) with
      | true => exact ⟨0, [true, true, true, true, false, false, true, false, true, true, true], g_Sd_2_0_00 b s n1 n2 a1 a2 a3 a4 fb fu ft H h c1 r1 c2 r2 tf to h32⟩
      | false => exact ⟨5, [true, true, true, true, false, false, true, false, true, true, false, true], g_Se_2_0_00 b s n1 n2 a1 a2 a3 a4 fb fu ft H h c1 r1 c2 r2 tf to h32⟩

set_option maxRecDepth 100000 in
theorem rD_2_0 (b : BS) (s : SR) (n1 n2 : ND) (e : Int) (H : b.kl = true) : ∃ orc, Holds (fitOA (fin b e s []) (some 2) (runB b (.d e) s [n1, n2] [] orc)) := ⟨[true, true, true, true], g_D_2_0 b s n1 n2 e H⟩

set_option maxRecDepth 100000 in
theorem rA_2_0 (b : BS) (s : SR) (n1 n2 : ND) (u : Int) (H : HB b) (h4 : 1 ≤ u) (h5 : u ≤ 127) (hc : ([n1, n2] : List ND).any (·.c) = true) : ∃ orc, Holds (fitOA (head b.next .k s (setL [n1, n2] u) []) none (runB b (.a u) s [n1, n2] [] orc)) := by
  cases c1 : n1.c with
  | true =>
    cases c2 : n2.c with
    | true =>
      have eh : setL [n1, n2] u = [n1.set u true, n2.set u true] := by simp [setL, c1, c2]
      rw [eh]
      exact ⟨[true, true, true, true, true, true, true], g_A_2_0_11 b s n1 n2 u H h4 h5 c1 c2⟩
    | false =>
      have eh : setL [n1, n2] u = [n1.set u true, n2.set u false] := by simp [setL, c1, c2]
      rw [eh]
      exact ⟨[true, true, true, true, true, false, true], g_A_2_0_10 b s n1 n2 u H h4 h5 c1 c2⟩
  | false =>
    cases c2 : n2.c with
    | true =>
      have eh : setL [n1, n2] u = [n1.set u false, n2.set u true] := by simp [setL, c1, c2]
      rw [eh]
      exact ⟨[true, true, true, true, false, true, true], g_A_2_0_01 b s n1 n2 u H h4 h5 c1 c2⟩
    | false =>
      simp [c1, c2] at hc

set_option maxRecDepth 100000 in
theorem rK_2_0 (b : BS) (s : SR) (n1 n2 : ND) (H : HB b) (hc : ([n1, n2] : List ND).any (·.c) = true) : ∃ orc, Holds (fitOA (head b.kept .w s [n1, n2] []) none (runB b .k s [n1, n2] [] orc)) := by
  cases c1 : n1.c with
  | true =>
    cases c2 : n2.c with
    | true =>
      exact ⟨[true, true, true, true, true, true, true], g_K_2_0_11 b s n1 n2 H c1 c2⟩
    | false =>
      exact ⟨[true, true, true, true, true, false, true], g_K_2_0_10 b s n1 n2 H c1 c2⟩
  | false =>
    cases c2 : n2.c with
    | true =>
      exact ⟨[true, true, true, true, false, true, true], g_K_2_0_01 b s n1 n2 H c1 c2⟩
    | false =>
      simp [c1, c2] at hc

set_option maxRecDepth 100000 in
theorem rW_2_0 (b : BS) (s : SR) (n1 n2 : ND) (H : HB b) :
    (0 ≤ b.nx ∧ b.nx < 127 → ∃ orc, Holds (fitOA (head b.more (SR.ask SR.new) SR.new ([n1, n2].map ND.off) ([] ++ [gvOf b s])) none (runB b .w s [n1, n2] [] orc))) ∧
    (b.nx = 127 → ∃ orc, Holds (fitOA (head b.last (.d 200) SR.new ([n1, n2].map ND.off) ([] ++ [gvOf b s])) none (runB b .w s [n1, n2] [] orc))) :=
  ⟨fun h4 => ⟨[true, true, true, true, true, false], g_W_2_0_00 b s n1 n2 H h4 (by simp; omega)⟩, fun h => ⟨[true, true, true, true, true, true], g_V_2_0_00 b s n1 n2 H (by simp [h]) (by rw [h]; rfl)⟩⟩

set_option maxRecDepth 100000 in
theorem rS_2_1 (b : BS) (s : SR) (n1 n2 : ND) (g1 : GV) (a1 a2 a3 a4 fb fu ft : Int) (H : HB b) (h : HS s fb fu) (hc : ∀ m ∈ ([n1, n2] : List ND), m.c = false) (hx : (anyOk [n1, n2] a1 a2 a3 a4 fb fu) = true → 1 < 2) :
    (HT (s.told (anyOk [n1, n2] a1 a2 a3 a4 fb fu)) → ∃ orc, Holds (fitOA (head b.next (s.told (anyOk [n1, n2] a1 a2 a3 a4 fb fu)).ask (s.told (anyOk [n1, n2] a1 a2 a3 a4 fb fu)) (hearsL [n1, n2] a1 a2 a3 a4 fb fu ft) [g1]) none (runB b (.s a1 a2 a3 a4 fb fu ft) s [n1, n2] [g1] orc))) ∧
    ((anyOk [n1, n2] a1 a2 a3 a4 fb fu) = true → (s.told true).f = true → ∃ orc, Holds (fitOA (head b.asked (.a b.nx) (s.told true) (hearsL [n1, n2] a1 a2 a3 a4 fb fu ft) [g1]) none (runB b (.s a1 a2 a3 a4 fb fu ft) s [n1, n2] [g1] orc))) ∧
    ((anyOk [n1, n2] a1 a2 a3 a4 fb fu) = false → (s.told false).f = false → (s.told false).o = true → ∃ e orc, Holds (fitOA (head b.over (.d e) (s.told false) (hearsL [n1, n2] a1 a2 a3 a4 fb fu ft) [g1]) none (runB b (.s a1 a2 a3 a4 fb fu ft) s [n1, n2] [g1] orc))) := by
  have c1 : n1.c = false := hc _ (by simp)
  have c2 : n2.c = false := hc _ (by simp)
  cases r1 : n1.ok a1 a2 a3 a4 fb fu with
  | true =>
    cases r2 : n2.ok a1 a2 a3 a4 fb fu with
    | true =>
      have ea : (anyOk [n1, n2] a1 a2 a3 a4 fb fu) = true := by simp [anyOk, r1, r2]
      have eh : hearsL [n1, n2] a1 a2 a3 a4 fb fu ft = [n1.hears true fb fu ft, n2.hears true fb fu ft] := by simp [hearsL, r1, r2]
      rw [ea, eh]
      exact ⟨fun t => ⟨[true, true, true, true, true, true, true, false, false, false, false], g_Sc_2_1_11 b s n1 n2 g1 a1 a2 a3 a4 fb fu ft H h c1 r1 c2 r2 t⟩, fun _ tf => ⟨[true, true, true, true, true, true, true, true], g_Sf_2_1_11 b s n1 n2 g1 a1 a2 a3 a4 fb fu ft H h c1 r1 c2 r2 tf⟩, fun q => by cases q⟩
    | false =>
      have ea : (anyOk [n1, n2] a1 a2 a3 a4 fb fu) = true := by simp [anyOk, r1, r2]
      have eh : hearsL [n1, n2] a1 a2 a3 a4 fb fu ft = [n1.hears true fb fu ft, n2.hears false fb fu ft] := by simp [hearsL, r1, r2]
      rw [ea, eh]
      exact ⟨fun t => ⟨[true, true, true, true, true, false, true, false, false, false, false], g_Sc_2_1_10 b s n1 n2 g1 a1 a2 a3 a4 fb fu ft H h c1 r1 c2 r2 t⟩, fun _ tf => ⟨[true, true, true, true, true, false, true, true], g_Sf_2_1_10 b s n1 n2 g1 a1 a2 a3 a4 fb fu ft H h c1 r1 c2 r2 tf⟩, fun q => by cases q⟩
  | false =>
    cases r2 : n2.ok a1 a2 a3 a4 fb fu with
    | true =>
      have ea : (anyOk [n1, n2] a1 a2 a3 a4 fb fu) = true := by simp [anyOk, r1, r2]
      have eh : hearsL [n1, n2] a1 a2 a3 a4 fb fu ft = [n1.hears false fb fu ft, n2.hears true fb fu ft] := by simp [hearsL, r1, r2]
      rw [ea, eh]
      exact ⟨fun t => ⟨[true, true, true, true, false, true, true, false, false, false, false], g_Sc_2_1_01 b s n1 n2 g1 a1 a2 a3 a4 fb fu ft H h c1 r1 c2 r2 t⟩, fun _ tf => ⟨[true, true, true, true, false, true, true, true], g_Sf_2_1_01 b s n1 n2 g1 a1 a2 a3 a4 fb fu ft H h c1 r1 c2 r2 tf⟩, fun q => by cases q⟩
    | false =>
      have ea : (anyOk [n1, n2] a1 a2 a3 a4 fb fu) = false := by simp [anyOk, r1, r2]
      have eh : hearsL [n1, n2] a1 a2 a3 a4 fb fu ft = [n1.hears false fb fu ft, n2.hears false fb fu ft] := by simp [hearsL, r1, r2]
      rw [ea, eh]
      refine ⟨fun t => ⟨[true, true, true, true, false, false, true, false, false, false, false], g_Sc_2_1_00 b s n1 n2 g1 a1 a2 a3 a4 fb fu ft H h c1 r1 c2 r2 t⟩, (fun q => by cases q), fun _ tf to => ?_⟩
      cases h32 : (s.b == 32) with
      | true => exact ⟨0, [true, true, true, true, false, false, true, false, true, true, true], g_Sd_2_1_00 b s n1 n2 g1 a1 a2 a3 a4 fb fu ft H h c1 r1 c2 r2 tf to h32⟩
      | false => exact ⟨5, [true, true, true, true, false, false, true, false, true, true, false, true], g_Se_2_1_00 b s n1 n2 g1 a1 a2 a3 a4 fb fu ft H h c1 r1 c2 r2 tf to h32⟩

set_option maxRecDepth 100000 in
theorem rD_2_1 (b : BS) (s : SR) (n1 n2 : ND) (g1 : GV) (e : Int) (H : b.kl = true) : ∃ orc, Holds (fitOA (fin b e s [g1]) (some 2) (runB b (.d e) s [n1, n2] [g1] orc)) := ⟨[true, true, true, true], g_D_2_1 b s n1 n2 g1 e H⟩

set_option maxRecDepth 100000 in
theorem rA_2_1 (b : BS) (s : SR) (n1 n2 : ND) (g1 : GV) (u : Int) (H : HB b) (h4 : 1 ≤ u) (h5 : u ≤ 127) (hc : ([n1, n2] : List ND).any (·.c) = true) : ∃ orc, Holds (fitOA (head b.next .k s (setL [n1, n2] u) [g1]) none (runB b (.a u) s [n1, n2] [g1] orc)) := by
  cases c1 : n1.c with
  | true =>
    cases c2 : n2.c with
    | true =>
      have eh : setL [n1, n2] u = [n1.set u true, n2.set u true] := by simp [setL, c1, c2]
      rw [eh]
      exact ⟨[true, true, true, true, true, true, true], g_A_2_1_11 b s n1 n2 g1 u H h4 h5 c1 c2⟩
    | false =>
      have eh : setL [n1, n2] u = [n1.set u true, n2.set u false] := by simp [setL, c1, c2]
      rw [eh]
      exact ⟨[true, true, true, true, true, false, true], g_A_2_1_10 b s n1 n2 g1 u H h4 h5 c1 c2⟩
  | false =>
    cases c2 : n2.c with
    | true =>
      have eh : setL [n1, n2] u = [n1.set u false, n2.set u true] := by simp [setL, c1, c2]
      rw [eh]
      exact ⟨[true, true, true, true, false, true, true], g_A_2_1_01 b s n1 n2 g1 u H h4 h5 c1 c2⟩
    | false =>
      simp [c1, c2] at hc

set_option maxRecDepth 100000 in
theorem rK_2_1 (b : BS) (s : SR) (n1 n2 : ND) (g1 : GV) (H : HB b) (hc : ([n1, n2] : List ND).any (·.c) = true) : ∃ orc, Holds (fitOA (head b.kept .w s [n1, n2] [g1]) none (runB b .k s [n1, n2] [g1] orc)) := by
  cases c1 : n1.c with
  | true =>
    cases c2 : n2.c with
    | true =>
      exact ⟨[true, true, true, true, true, true, true], g_K_2_1_11 b s n1 n2 g1 H c1 c2⟩
    | false =>
      exact ⟨[true, true, true, true, true, false, true], g_K_2_1_10 b s n1 n2 g1 H c1 c2⟩
  | false =>
    cases c2 : n2.c with
    | true =>
      exact ⟨[true, true, true, true, false, true, true], g_K_2_1_01 b s n1 n2 g1 H c1 c2⟩
    | false =>
      simp [c1, c2] at hc

set_option maxRecDepth 100000 in
theorem rW_2_1 (b : BS) (s : SR) (n1 n2 : ND) (g1 : GV) (H : HB b) :
    (0 ≤ b.nx ∧ b.nx < 127 → ∃ orc, Holds (fitOA (head b.more (SR.ask SR.new) SR.new ([n1, n2].map ND.off) ([g1] ++ [gvOf b s])) none (runB b .w s [n1, n2] [g1] orc))) ∧
    (b.nx = 127 → ∃ orc, Holds (fitOA (head b.last (.d 200) SR.new ([n1, n2].map ND.off) ([g1] ++ [gvOf b s])) none (runB b .w s [n1, n2] [g1] orc))) :=
  ⟨fun h4 => ⟨[true, true, true, true, true, false], g_W_2_1_00 b s n1 n2 g1 H h4 (by simp; omega)⟩, fun h => ⟨[true, true, true, true, true, true], g_V_2_1_00 b s n1 n2 g1 H (by simp [h]) (by rw [h]; rfl)⟩⟩

set_option maxRecDepth 100000 in
theorem rS_2_2 (b : BS) (s : SR) (n1 n2 : ND) (g1 g2 : GV) (a1 a2 a3 a4 fb fu ft : Int) (H : HB b) (h : HS s fb fu) (hc : ∀ m ∈ ([n1, n2] : List ND), m.c = false) (hx : (anyOk [n1, n2] a1 a2 a3 a4 fb fu) = true → 2 < 2) :
    (HT (s.told (anyOk [n1, n2] a1 a2 a3 a4 fb fu)) → ∃ orc, Holds (fitOA (head b.next (s.told (anyOk [n1, n2] a1 a2 a3 a4 fb fu)).ask (s.told (anyOk [n1, n2] a1 a2 a3 a4 fb fu)) (hearsL [n1, n2] a1 a2 a3 a4 fb fu ft) [g1, g2]) none (runB b (.s a1 a2 a3 a4 fb fu ft) s [n1, n2] [g1, g2] orc))) ∧
    ((anyOk [n1, n2] a1 a2 a3 a4 fb fu) = true → (s.told true).f = true → ∃ orc, Holds (fitOA (head b.asked (.a b.nx) (s.told true) (hearsL [n1, n2] a1 a2 a3 a4 fb fu ft) [g1, g2]) none (runB b (.s a1 a2 a3 a4 fb fu ft) s [n1, n2] [g1, g2] orc))) ∧
    ((anyOk [n1, n2] a1 a2 a3 a4 fb fu) = false → (s.told false).f = false → (s.told false).o = true → ∃ e orc, Holds (fitOA (head b.over (.d e) (s.told false) (hearsL [n1, n2] a1 a2 a3 a4 fb fu ft) [g1, g2]) none (runB b (.s a1 a2 a3 a4 fb fu ft) s [n1, n2] [g1, g2] orc))) := by
  have c1 : n1.c = false := hc _ (by simp)
  have c2 : n2.c = false := hc _ (by simp)
  cases r1 : n1.ok a1 a2 a3 a4 fb fu with
  | true =>
    cases r2 : n2.ok a1 a2 a3 a4 fb fu with
    | true =>
      have ea : (anyOk [n1, n2] a1 a2 a3 a4 fb fu) = true := by simp [anyOk, r1, r2]
      exact absurd (hx ea) (by decide)
    | false =>
      have ea : (anyOk [n1, n2] a1 a2 a3 a4 fb fu) = true := by simp [anyOk, r1, r2]
      exact absurd (hx ea) (by decide)
  | false =>
    cases r2 : n2.ok a1 a2 a3 a4 fb fu with
    | true =>
      have ea : (anyOk [n1, n2] a1 a2 a3 a4 fb fu) = true := by simp [anyOk, r1, r2]
      exact absurd (hx ea) (by decide)
    | false =>
      have ea : (anyOk [n1, n2] a1 a2 a3 a4 fb fu) = false := by simp [anyOk, r1, r2]
      have eh : hearsL [n1, n2] a1 a2 a3 a4 fb fu ft = [n1.hears false fb fu ft, n2.hears false fb fu ft] := by simp [hearsL, r1, r2]
      rw [ea, eh]
      refine ⟨fun t => ⟨[true, true, true, true, false, false, true, false, false, false, false], g_Sc_2_2_00 b s n1 n2 g1 g2 a1 a2 a3 a4 fb fu ft H h c1 r1 c2 r2 t⟩, (fun q => by cases q), fun _ tf to => ?_⟩
      cases h32 : (s.b == 32) with
      | true => exact ⟨0, [true, true, true, true, false, false, true, false, true, true, true], g_Sd_2_2_00 b s n1 n2 g1 g2 a1 a2 a3 a4 fb fu ft H h c1 r1 c2 r2 tf to h32⟩
      | false => exact ⟨5, [true, true, true, true, false, false, true, false, true, true, false, true], g_Se_2_2_00 b s n1 n2 g1 g2 a1 a2 a3 a4 fb fu ft H h c1 r1 c2 r2 tf to h32⟩

set_option maxRecDepth 100000 in
theorem rD_2_2 (b : BS) (s : SR) (n1 n2 : ND) (g1 g2 : GV) (e : Int) (H : b.kl = true) : ∃ orc, Holds (fitOA (fin b e s [g1, g2]) (some 2) (runB b (.d e) s [n1, n2] [g1, g2] orc)) := ⟨[true, true, true, true], g_D_2_2 b s n1 n2 g1 g2 e H⟩

set_option maxRecDepth 100000 in
theorem rS_3_0 (b : BS) (s : SR) (n1 n2 n3 : ND) (a1 a2 a3 a4 fb fu ft : Int) (H : HB b) (h : HS s fb fu) (hc : ∀ m ∈ ([n1, n2, n3] : List ND), m.c = false) (hx : (anyOk [n1, n2, n3] a1 a2 a3 a4 fb fu) = true → 0 < 3) :
    (HT (s.told (anyOk [n1, n2, n3] a1 a2 a3 a4 fb fu)) → ∃ orc, Holds (fitOA (head b.next (s.told (anyOk [n1, n2, n3] a1 a2 a3 a4 fb fu)).ask (s.told (anyOk [n1, n2, n3] a1 a2 a3 a4 fb fu)) (hearsL [n1, n2, n3] a1 a2 a3 a4 fb fu ft) []) none (runB b (.s a1 a2 a3 a4 fb fu ft) s [n1, n2, n3] [] orc))) ∧
    ((anyOk [n1, n2, n3] a1 a2 a3 a4 fb fu) = true → (s.told true).f = true → ∃ orc, Holds (fitOA (head b.asked (.a b.nx) (s.told true) (hearsL [n1, n2, n3] a1 a2 a3 a4 fb fu ft) []) none (runB b (.s a1 a2 a3 a4 fb fu ft) s [n1, n2, n3] [] orc))) ∧
    ((anyOk [n1, n2, n3] a1 a2 a3 a4 fb fu) = false → (s.told false).f = false → (s.told false).o = true → ∃ e orc, Holds (fitOA (head b.over (.d e) (s.told false) (hearsL [n1, n2, n3] a1 a2 a3 a4 fb fu ft) []) none (runB b (.s a1 a2 a3 a4 fb fu ft) s [n1, n2, n3] [] orc))) := by
  have c1 : n1.c = false := hc _ (by simp)
  have c2 : n2.c = false := hc _ (by simp)
  have c3 : n3.c = false := hc _ (by simp)
  cases r1 : n1.ok a1 a2 a3 a4 fb fu with
  | true =>
    cases r2 : n2.ok a1 a2 a3 a4 fb fu with
    | true =>
      cases r3 : n3.ok a1 a2 a3 a4 fb fu with
      | true =>
        have ea : (anyOk [n1, n2, n3] a1 a2 a3 a4 fb fu) = true := by simp [anyOk, r1, r2, r3]
        have eh : hearsL [n1, n2, n3] a1 a2 a3 a4 fb fu ft = [n1.hears true fb fu ft, n2.hears true fb fu ft, n3.hears true fb fu ft] := by simp [hearsL, r1, r2, r3]
        rw [ea, eh]
        exact ⟨fun t => ⟨[true, true, true, true, true, true, true, true, false, false, false, false], g_Sc_3_0_111 b s n1 n2 n3 a1 a2 a3 a4 fb fu ft H h c1 r1 c2 r2 c3 r3 t⟩, fun _ tf => ⟨[true, true, true, true, true, true, true, true, true], g_Sf_3_0_111 b s n1 n2 n3 a1 a2 a3 a4 fb fu ft H h c1 r1 c2 r2 c3 r3 tf⟩, fun q => by cases q⟩
      | false =>
        have ea : (anyOk [n1, n2, n3] a1 a2 a3 a4 fb fu) = true := by simp [anyOk, r1, r2, r3]
        have eh : hearsL [n1, n2, n3] a1 a2 a3 a4 fb fu ft = [n1.hears true fb fu ft, n2.hears true fb fu ft, n3.hears false fb fu ft] := by simp [hearsL, r1, r2, r3]
        rw [ea, eh]
        exact ⟨fun t => ⟨[true, true, true, true, true, true, false, true, false, false, false, false], g_Sc_3_0_110 b s n1 n2 n3 a1 a2 a3 a4 fb fu ft H h c1 r1 c2 r2 c3 r3 t⟩, fun _ tf => ⟨[true, true, true, true, true, true, false, true, true], g_Sf_3_0_110 b s n1 n2 n3 a1 a2 a3 a4 fb fu ft H h c1 r1 c2 r2 c3 r3 tf⟩, fun q => by cases q⟩
    | false =>
      cases r3 : n3.ok a1 a2 a3 a4 fb fu with
      | true =>
        have ea : (anyOk [n1, n2, n3] a1 a2 a3 a4 fb fu) = true := by simp [anyOk, r1, r2, r3]
        have eh : hearsL [n1, n2, n3] a1 a2 a3 a4 fb fu ft = [n1.hears true fb fu ft, n2.hears false fb fu ft, n3.hears true fb fu ft] := by simp [hearsL, r1, r2, r3]
        rw [ea, eh]
        exact ⟨fun t => ⟨[true, true, true, true, true, false, true, true, false, false, false, false], g_Sc_3_0_101 b s n1 n2 n3 a1 a2 a3 a4 fb fu ft H h c1 r1 c2 r2 c3 r3 t⟩, fun _ tf => ⟨[true, true, true, true, true, false, true, true, true], g_Sf_3_0_101 b s n1 n2 n3 a1 a2 a3 a4 fb fu ft H h c1 r1 c2 r2 c3 r3 tf⟩, fun q => by cases q⟩
      | false =>
        have ea : (anyOk [n1, n2, n3] a1 a2 a3 a4 fb fu) = true := by simp [anyOk, r1, r2, r3]
        have eh : hearsL [n1, n2, n3] a1 a2 a3 a4 fb fu ft = [n1.hears true fb fu ft, n2.hears false fb fu ft, n3.hears false fb fu ft] := by simp [hearsL, r1, r2, r3]
        rw [ea, eh]
        exact ⟨fun t => ⟨[true, true, true, true, true, false, false, true, false, false, false, false], g_Sc_3_0_100 b s n1 n2 n3 a1 a2 a3 a4 fb fu ft H h c1 r1 c2 r2 c3 r3 t⟩, fun _ tf => ⟨[true, true, true, true, true, false, false, true, true], g_Sf_3_0_100 b s n1 n2 n3 a1 a2 a3 a4 fb fu ft H h c1 r1 c2 r2 c3 r3 tf⟩, fun q => by cases q⟩
  | false =>
    cases r2 : n2.ok a1 a2 a3 a4 fb fu with
    | true =>
      cases r3 : n3.ok a1 a2 a3 a4 fb fu with
      | true =>
        have ea : (anyOk [n1, n2, n3] a1 a2 a3 a4 fb fu) = true := by simp [anyOk, r1, r2, r3]
        have eh : hearsL [n1, n2, n3] a1 a2 a3 a4 fb fu ft = [n1.hears false fb fu ft, n2.hears true fb fu ft, n3.hears true fb fu ft] := by simp [hearsL, r1, r2, r3]
        rw [ea, eh]
        exact ⟨fun t => ⟨[true, true, true, true, false, true, true, true, false, false, false, false], g_Sc_3_0_011 b s n1 n2 n3 a1 a2 a3 a4 fb fu ft H h c1 r1 c2 r2 c3 r3 t⟩, fun _ tf => ⟨[true, true, true, true, false, true, true, true, true], g_Sf_3_0_011 b s n1 n2 n3 a1 a2 a3 a4 fb fu ft H h c1 r1 c2 r2 c3 r3 tf⟩, fun q => by cases q⟩
      | false =>
        have ea : (anyOk [n1, n2, n3] a1 a2 a3 a4 fb fu) = true := by simp [anyOk, r1, r2, r3]
        have eh : hearsL [n1, n2, n3] a1 a2 a3 a4 fb fu ft = [n1.hears false fb fu ft, n2.hears true fb fu ft, n3.hears false fb fu ft] := by simp [hearsL, r1, r2, r3]
        rw [ea, eh]
        exact ⟨fun t => ⟨[true, true, true, true, false, true, false, true, false, false, false, false], g_Sc_3_0_010 b s n1 n2 n3 a1 a2 a3 a4 fb fu ft H h c1 r1 c2 r2 c3 r3 t⟩, fun _ tf => ⟨[true, true, true, true, false, true, false, true, true], g_Sf_3_0_010 b s n1 n2 n3 a1 a2 a3 a4 fb fu ft H h c1 r1 c2 r2 c3 r3 tf⟩, fun q => by cases q⟩
    | false =>
      cases r3 : n3.ok a1 a2 a3 a4 fb fu with
      | true =>
        have ea : (anyOk [n1, n2, n3] a1 a2 a3 a4 fb fu) = true := by simp [anyOk, r1, r2, r3]
        have eh : hearsL [n1, n2, n3] a1 a2 a3 a4 fb fu ft = [n1.hears false fb fu ft, n2.hears false fb fu ft, n3.hears true fb fu ft] := by simp [hearsL, r1, r2, r3]
        rw [ea, eh]
        exact ⟨fun t => ⟨[true, true, true, true, false, false, true, true, false, false, false, false], g_Sc_3_0_001 b s n1 n2 n3 a1 a2 a3 a4 fb fu ft H h c1 r1 c2 r2 c3 r3 t⟩, fun _ tf => ⟨[true, true, true, true, false, false, true, true, true], g_Sf_3_0_001 b s n1 n2 n3 a1 a2 a3 a4 fb fu ft H h c1 r1 c2 r2 c3 r3 tf⟩, fun q => by cases q⟩
      | false =>
        have ea : (anyOk [n1, n2, n3] a1 a2 a3 a4 fb fu) = false := by simp [anyOk, r1, r2, r3]
        have eh : hearsL [n1, n2, n3] a1 a2 a3 a4 fb fu ft = [n1.hears false fb fu ft, n2.hears false fb fu ft, n3.hears false fb fu ft] := by simp [hearsL, r1, r2, r3]
        rw [ea, eh]
        refine ⟨fun t => ⟨[true, true, true, true, false, false, false, true, false, false, false, false], g_Sc_3_0_000 b s n1 n2 n3 a1 a2 a3 a4 fb fu ft H h c1 r1 c2 r2 c3 r3 t⟩, (fun q => by cases q), fun _ tf to => ?_⟩
        cases h32 : (s.b == 32) with
        | true => exact ⟨0, [true, true, true, true, false, false, false, true, false, true, true, true], g_Sd_3_0_000 b s n1 n2 n3 a1 a2 a3 a4 fb fu ft H h c1 r1 c2 r2 c3 r3 tf to h32⟩
        | false => exact ⟨5, [true, true, true, true, false, false, false, true, false, true, true, false, true], g_Se_3_0_000 b s n1 n2 n3 a1 a2 a3 a4 fb fu ft H h c1 r1 c2 r2 c3 r3 tf to h32⟩

set_option maxRecDepth 100000 in
theorem rD_3_0 (b : BS) (s : SR) (n1 n2 n3 : ND) (e : Int) (H : b.kl = true) : ∃ orc, Holds (fitOA (fin b e s []) (some 2) (runB b (.d e) s [n1, n2, n3] [] orc)) := ⟨[true, true, true, true], g_D_3_0 b s n1 n2 n3 e H⟩

set_option maxRecDepth 100000 in
theorem rA_3_0 (b : BS) (s : SR) (n1 n2 n3 : ND) (u : Int) (H : HB b) (h4 : 1 ≤ u) (h5 : u ≤ 127) (hc : ([n1, n2, n3] : List ND).any (·.c) = true) : ∃ orc, Holds (fitOA (head b.next .k s (setL [n1, n2, n3] u) []) none (runB b (.a u) s [n1, n2, n3] [] orc)) := by
  cases c1 : n1.c with
  | true =>
    cases c2 : n2.c with
    | true =>
      cases c3 : n3.c with
      | true =>
        have eh : setL [n1, n2, n3] u = [n1.set u true, n2.set u true, n3.set u true] := by simp [setL, c1, c2, c3]
        rw [eh]
        exact ⟨[true, true, true, true, true, true, true, true], g_A_3_0_111 b s n1 n2 n3 u H h4 h5 c1 c2 c3⟩
      | false =>
        have eh : setL [n1, n2, n3] u = [n1.set u true, n2.set u true, n3.set u false] := by simp [setL, c1, c2, c3]
        rw [eh]
        exact ⟨[true, true, true, true, true, true, false, true], g_A_3_0_110 b s n1 n2 n3 u H h4 h5 c1 c2 c3⟩
    | false =>
      cases c3 : n3.c with
      | true =>
        have eh : setL [n1, n2, n3] u = [n1.set u true, n2.set u false, n3.set u true] := by simp [setL, c1, c2, c3]
        rw [eh]
        exact ⟨[true, true, true, true, true, false, true, true], g_A_3_0_101 b s n1 n2 n3 u H h4 h5 c1 c2 c3⟩
      | false =>
        have eh : setL [n1, n2, n3] u = [n1.set u true, n2.set u false, n3.set u false] := by simp [setL, c1, c2, c3]
        rw [eh]
        exact ⟨[true, true, true, true, true, false, false, true], g_A_3_0_100 b s n1 n2 n3 u H h4 h5 c1 c2 c3⟩
  | false =>
    cases c2 : n2.c with
    | true =>
      cases c3 : n3.c with
      | true =>
        have eh : setL [n1, n2, n3] u = [n1.set u false, n2.set u true, n3.set u true] := by simp [setL, c1, c2, c3]
        rw [eh]
        exact ⟨[true, true, true, true, false, true, true, true], g_A_3_0_011 b s n1 n2 n3 u H h4 h5 c1 c2 c3⟩
      | false =>
        have eh : setL [n1, n2, n3] u = [n1.set u false, n2.set u true, n3.set u false] := by simp [setL, c1, c2, c3]
        rw [eh]
        exact ⟨[true, true, true, true, false, true, false, true], g_A_3_0_010 b s n1 n2 n3 u H h4 h5 c1 c2 c3⟩
    | false =>
      cases c3 : n3.c with
      | true =>
        have eh : setL [n1, n2, n3] u = [n1.set u false, n2.set u false, n3.set u true] := by simp [setL, c1, c2, c3]
        rw [eh]
        exact ⟨[true, true, true, true, false, false, true, true], g_A_3_0_001 b s n1 n2 n3 u H h4 h5 c1 c2 c3⟩
      | false =>
        simp [c1, c2, c3] at hc

set_option maxRecDepth 100000 in
theorem rK_3_0 (b : BS) (s : SR) (n1 n2 n3 : ND) (H : HB b) (hc : ([n1, n2, n3] : List ND).any (·.c) = true) : ∃ orc, Holds (fitOA (head b.kept .w s [n1, n2, n3] []) none (runB b .k s [n1, n2, n3] [] orc)) := by
  cases c1 : n1.c with
  | true =>
    cases c2 : n2.c with
    | true =>
      cases c3 : n3.c with
      | true =>
        exact ⟨[true, true, true, true, true, true, true, true], g_K_3_0_111 b s n1 n2 n3 H c1 c2 c3⟩
      | false =>
        exact ⟨[true, true, true, true, true, true, false, true], g_K_3_0_110 b s n1 n2 n3 H c1 c2 c3⟩
    | false =>
      cases c3 : n3.c with
      | true =>
        exact ⟨[true, true, true, true, true, false, true, true], g_K_3_0_101 b s n1 n2 n3 H c1 c2 c3⟩
      | false =>
        exact ⟨[true, true, true, true, true, false, false, true], g_K_3_0_100 b s n1 n2 n3 H c1 c2 c3⟩
  | false =>
    cases c2 : n2.c with
    | true =>
      cases c3 : n3.c with
      | true =>
        exact ⟨[true, true, true, true, false, true, true, true], g_K_3_0_011 b s n1 n2 n3 H c1 c2 c3⟩
      | false =>
        exact ⟨[true, true, true, true, false, true, false, true], g_K_3_0_010 b s n1 n2 n3 H c1 c2 c3⟩
    | false =>
      cases c3 : n3.c with
      | true =>
        exact ⟨[true, true, true, true, false, false, true, true], g_K_3_0_001 b s n1 n2 n3 H c1 c2 c3⟩
      | false =>
        simp [c1, c2, c3] at hc

set_option maxRecDepth 100000 in
theorem rW_3_0 (b : BS) (s : SR) (n1 n2 n3 : ND) (H : HB b) :
    (0 ≤ b.nx ∧ b.nx < 127 → ∃ orc, Holds (fitOA (head b.more (SR.ask SR.new) SR.new ([n1, n2, n3].map ND.off) ([] ++ [gvOf b s])) none (runB b .w s [n1, n2, n3] [] orc))) ∧
    (b.nx = 127 → ∃ orc, Holds (fitOA (head b.last (.d 200) SR.new ([n1, n2, n3].map ND.off) ([] ++ [gvOf b s])) none (runB b .w s [n1, n2, n3] [] orc))) :=
  ⟨fun h4 => ⟨[true, true, true, true, true, false], g_W_3_0_000 b s n1 n2 n3 H h4 (by simp; omega)⟩, fun h => ⟨[true, true, true, true, true, true], g_V_3_0_000 b s n1 n2 n3 H (by simp [h]) (by rw [h]; rfl)⟩⟩

set_option maxRecDepth 100000 in
theorem rS_3_1 (b : BS) (s : SR) (n1 n2 n3 : ND) (g1 : GV) (a1 a2 a3 a4 fb fu ft : Int) (H : HB b) (h : HS s fb fu) (hc : ∀ m ∈ ([n1, n2, n3] : List ND), m.c = false) (hx : (anyOk [n1, n2, n3] a1 a2 a3 a4 fb fu) = true → 1 < 3) :
    (HT (s.told (anyOk [n1, n2, n3] a1 a2 a3 a4 fb fu)) → ∃ orc, Holds (fitOA (head b.next (s.told (anyOk [n1, n2, n3] a1 a2 a3 a4 fb fu)).ask (s.told (anyOk [n1, n2, n3] a1 a2 a3 a4 fb fu)) (hearsL [n1, n2, n3] a1 a2 a3 a4 fb fu ft) [g1]) none (runB b (.s a1 a2 a3 a4 fb fu ft) s [n1, n2, n3] [g1] orc))) ∧
    ((anyOk [n1, n2, n3] a1 a2 a3 a4 fb fu) = true → (s.told true).f = true → ∃ orc, Holds (fitOA (head b.asked (.a b.nx) (s.told true) (hearsL [n1, n2, n3] a1 a2 a3 a4 fb fu ft) [g1]) none (runB b (.s a1 a2 a3 a4 fb fu ft) s [n1, n2, n3] [g1] orc))) ∧
    ((anyOk [n1, n2, n3] a1 a2 a3 a4 fb fu) = false → (s.told false).f = false → (s.told false).o = true → ∃ e orc, Holds (fitOA (head b.over (.d e) (s.told false) (hearsL [n1, n2, n3] a1 a2 a3 a4 fb fu ft) [g1]) none (runB b (.s a1 a2 a3 a4 fb fu ft) s [n1, n2, n3] [g1] orc))) := by
  have c1 : n1.c = false := hc _ (by simp)
  have c2 : n2.c = false := hc _ (by simp)
  have c3 : n3.c = false := hc _ (by simp)
  cases r1 : n1.ok a1 a2 a3 a4 fb fu with
  | true =>
    cases r2 : n2.ok a1 a2 a3 a4 fb fu with
    | true =>
      cases r3 : n3.ok a1 a2 a3 a4 fb fu with
      | true =>
        have ea : (anyOk [n1, n2, n3] a1 a2 a3 a4 fb fu) = true := by simp [anyOk, r1, r2, r3]
        have eh : hearsL [n1, n2, n3] a1 a2 a3 a4 fb fu ft = [n1.hears true fb fu ft, n2.hears true fb fu ft, n3.hears true fb fu ft] := by simp [hearsL, r1, r2, r3]
        rw [ea, eh]
        exact ⟨fun t => ⟨[true, true, true, true, true, true, true, true, false, false, false, false], g_Sc_3_1_111 b s n1 n2 n3 g1 a1 a2 a3 a4 fb fu ft H h c1 r1 c2 r2 c3 r3 t⟩, fun _ tf => ⟨[true, true, true, true, true, true, true, true, true], g_Sf_3_1_111 b s n1 n2 n3 g1 a1 a2 a3 a4 fb fu ft H h c1 r1 c2 r2 c3 r3 tf⟩, fun q => by cases q⟩
      | false =>
        have ea : (anyOk [n1, n2, n3] a1 a2 a3 a4 fb fu) = true := by simp [anyOk, r1, r2, r3]
        have eh : hearsL [n1, n2, n3] a1 a2 a3 a4 fb fu ft = [n1.hears true fb fu ft, n2.hears true fb fu ft, n3.hears false fb fu ft] := by simp [hearsL, r1, r2, r3]
        rw [ea, eh]
        exact ⟨fun t => ⟨[true, true, true, true, true, true, false, true, false, false, false, false], g_Sc_3_1_110 b s n1 n2 n3 g1 a1 a2 a3 a4 fb fu ft H h c1 r1 c2 r2 c3 r3 t⟩, fun _ tf => ⟨[true, true, true, true, true, true, false, true, true], g_Sf_3_1_110 b s n1 n2 n3 g1 a1 a2 a3 a4 fb fu ft H h c1 r1 c2 r2 c3 r3 tf⟩, fun q => by cases q⟩
    | false =>
      cases r3 : n3.ok a1 a2 a3 a4 fb fu with
      | true =>
        have ea : (anyOk [n1, n2, n3] a1 a2 a3 a4 fb fu) = true := by simp [anyOk, r1, r2, r3]
        have eh : hearsL [n1, n2, n3] a1 a2 a3 a4 fb fu ft = [n1.hears true fb fu ft, n2.hears false fb fu ft, n3.hears true fb fu ft] := by simp [hearsL, r1, r2, r3]
        rw [ea, eh]
        exact ⟨fun t => ⟨[true, true, true, true, true, false, true, true, false, false, false, false], g_Sc_3_1_101 b s n1 n2 n3 g1 a1 a2 a3 a4 fb fu ft H h c1 r1 c2 r2 c3 r3 t⟩, fun _ tf => ⟨[true, true, true, true, true, false, true, true, true], g_Sf_3_1_101 b s n1 n2 n3 g1 a1 a2 a3 a4 fb fu ft H h c1 r1 c2 r2 c3 r3 tf⟩, fun q => by cases q⟩
      | false =>
        have ea : (anyOk [n1, n2, n3] a1 a2 a3 a4 fb fu) = true := by simp [anyOk, r1, r2, r3]
        have eh : hearsL [n1, n2, n3] a1 a2 a3 a4 fb fu ft = [n1.hears true fb fu ft, n2.hears false fb fu ft, n3.hears false fb fu ft] := by simp [hearsL, r1, r2, r3]
        rw [ea, eh]
        exact ⟨fun t => ⟨[true, true, true, true, true, false, false, true, false, false, false, false], g_Sc_3_1_100 b s n1 n2 n3 g1 a1 a2 a3 a4 fb fu ft H h c1 r1 c2 r2 c3 r3 t⟩, fun _ tf => ⟨[true, true, true, true, true, false, false, true, true], g_Sf_3_1_100 b s n1 n2 n3 g1 a1 a2 a3 a4 fb fu ft H h c1 r1 c2 r2 c3 r3 tf⟩, fun q => by cases q⟩
  | false =>
    cases r2 : n2.ok a1 a2 a3 a4 fb fu with
    | true =>
      cases r3 : n3.ok a1 a2 a3 a4 fb fu with
      | true =>
        have ea : (anyOk [n1, n2, n3] a1 a2 a3 a4 fb fu) = true := by simp [anyOk, r1, r2, r3]
        have eh : hearsL [n1, n2, n3] a1 a2 a3 a4 fb fu ft = [n1.hears false fb fu ft, n2.hears true fb fu ft, n3.hears true fb fu ft] := by simp [hearsL, r1, r2, r3]
        rw [ea, eh]
        exact ⟨fun t => ⟨[true, true, true, true, false, true, true, true, false, false, false, false], g_Sc_3_1_011 b s n1 n2 n3 g1 a1 a2 a3 a4 fb fu ft H h c1 r1 c2 r2 c3 r3 t⟩, fun _ tf => ⟨[true, true, true, true, false, true, true, true, true], g_Sf_3_1_011 b s n1 n2 n3 g1 a1 a2 a3 a4 fb fu ft H h c1 r1 c2 r2 c3 r3 tf⟩, fun q => by cases q⟩
      | false =>
        have ea : (anyOk [n1, n2, n3] a1 a2 a3 a4 fb fu) = true := by simp [anyOk, r1, r2, r3]
        have eh : hearsL [n1, n2, n3] a1 a2 a3 a4 fb fu ft = [n1.hears false fb fu ft, n2.hears true fb fu ft, n3.hears false fb fu ft] := by simp [hearsL, r1, r2, r3]
        rw [ea, eh]
        exact ⟨fun t => ⟨[true, true, true, true, false, true, false, true, false, false, false, false], g_Sc_3_1_010 b s n1 n2 n3 g1 a1 a2 a3 a4 fb fu ft H h c1 r1 c2 r2 c3 r3 t⟩, fun _ tf => ⟨[true, true, true, true, false, true, false, true, true], g_Sf_3_1_010 b s n1 n2 n3 g1 a1 a2 a3 a4 fb fu ft H h c1 r1 c2 r2 c3 r3 tf⟩, fun q => by cases q⟩
    | false =>
      cases r3 : n3.ok a1 a2 a3 a4 fb fu with
      | true =>
        have ea : (anyOk [n1, n2, n3] a1 a2 a3 a4 fb fu) = true := by simp [anyOk, r1, r2, r3]
        have eh : hearsL [n1, n2, n3] a1 a2 a3 a4 fb fu ft = [n1.hears false fb fu ft, n2.hears false fb fu ft, n3.hears true fb fu ft] := by simp [hearsL, r1, r2, r3]
        rw [ea, eh]
        exact ⟨fun t => ⟨[true, true, true, true, false, false, true, true, false, false, false, false], g_Sc_3_1_001 b s n1 n2 n3 g1 a1 a2 a3 a4 fb fu ft H h c1 r1 c2 r2 c3 r3 t⟩, fun _ tf => ⟨[true, true, true, true, false, false, true, true, true], g_Sf_3_1_001 b s n1 n2 n3 g1 a1 a2 a3 a4 fb fu ft H h c1 r1 c2 r2 c3 r3 tf⟩, fun q => by cases q⟩
      | false =>
        have ea : (anyOk [n1, n2, n3] a1 a2 a3 a4 fb fu) = false := by simp [anyOk, r1, r2, r3]
        have eh : hearsL [n1, n2, n3] a1 a2 a3 a4 fb fu ft = [n1.hears false fb fu ft, n2.hears false fb fu ft, n3.hears false fb fu ft] := by simp [hearsL, r1, r2, r3]
        rw [ea, eh]
        refine ⟨fun t => ⟨[true, true, true, true, false, false, false, true, false, false, false, false], g_Sc_3_1_000 b s n1 n2 n3 g1 a1 a2 a3 a4 fb fu ft H h c1 r1 c2 r2 c3 r3 t⟩, (fun q => by cases q), fun _ tf to => ?_⟩
        cases h32 : (s.b == 32) with
        | true => exact ⟨0, [true, true, true, true, false, false, false, true, false, true, true, true], g_Sd_3_1_000 b s n1 n2 n3 g1 a1 a2 a3 a4 fb fu ft H h c1 r1 c2 r2 c3 r3 tf to h32⟩
        | false => exact ⟨5, [true, true, true, true, false, false, false, true, false, true, true, false, true], g_Se_3_1_000 b s n1 n2 n3 g1 a1 a2 a3 a4 fb fu ft H h c1 r1 c2 r2 c3 r3 tf to h32⟩

set_option maxRecDepth 100000 in
theorem rD_3_1 (b : BS) (s : SR) (n1 n2 n3 : ND) (g1 : GV) (e : Int) (H : b.kl = true) : ∃ orc, Holds (fitOA (fin b e s [g1]) (some 2) (runB b (.d e) s [n1, n2, n3] [g1] orc)) := ⟨[true, true, true, true], g_D_3_1 b s n1 n2 n3 g1 e H⟩

set_option maxRecDepth 100000 in
theorem rA_3_1 (b : BS) (s : SR) (n1 n2 n3 : ND) (g1 : GV) (u : Int) (H : HB b) (h4 : 1 ≤ u) (h5 : u ≤ 127) (hc : ([n1, n2, n3] : List ND).any (·.c) = true) : ∃ orc, Holds (fitOA (head b.next .k s (setL [n1, n2, n3] u) [g1]) none (runB b (.a u) s [n1, n2, n3] [g1] orc)) := by
  cases c1 : n1.c with
  | true =>
    cases c2 : n2.c with
    | true =>
      cases c3 : n3.c with
      | true =>
        have eh : setL [n1, n2, n3] u = [n1.set u true, n2.set u true, n3.set u true] := by simp [setL, c1, c2, c3]
        rw [eh]
        exact ⟨[true, true, true, true, true, true, true, true], g_A_3_1_111 b s n1 n2 n3 g1 u H h4 h5 c1 c2 c3⟩
      | false =>
        have eh : setL [n1, n2, n3] u = [n1.set u true, n2.set u true, n3.set u false] := by simp [setL, c1, c2, c3]
        rw [eh]
        exact ⟨[true, true, true, true, true, true, false, true], g_A_3_1_110 b s n1 n2 n3 g1 u H h4 h5 c1 c2 c3⟩
    | false =>
      cases c3 : n3.c with
      | true =>
        have eh : setL [n1, n2, n3] u = [n1.set u true, n2.set u false, n3.set u true] := by simp [setL, c1, c2, c3]
        rw [eh]
        exact ⟨[true, true, true, true, true, false, true, true], g_A_3_1_101 b s n1 n2 n3 g1 u H h4 h5 c1 c2 c3⟩
      | false =>
        have eh : setL [n1, n2, n3] u = [n1.set u true, n2.set u false, n3.set u false] := by simp [setL, c1, c2, c3]
        rw [eh]
        exact ⟨[true, true, true, true, true, false, false, true], g_A_3_1_100 b s n1 n2 n3 g1 u H h4 h5 c1 c2 c3⟩
  | false =>
    cases c2 : n2.c with
    | true =>
      cases c3 : n3.c with
      | true =>
        have eh : setL [n1, n2, n3] u = [n1.set u false, n2.set u true, n3.set u true] := by simp [setL, c1, c2, c3]
        rw [eh]
        exact ⟨[true, true, true, true, false, true, true, true], g_A_3_1_011 b s n1 n2 n3 g1 u H h4 h5 c1 c2 c3⟩
      | false =>
        have eh : setL [n1, n2, n3] u = [n1.set u false, n2.set u true, n3.set u false] := by simp [setL, c1, c2, c3]
        rw [eh]
        exact ⟨[true, true, true, true, false, true, false, true], g_A_3_1_010 b s n1 n2 n3 g1 u H h4 h5 c1 c2 c3⟩
    | false =>
      cases c3 : n3.c with
      | true =>
        have eh : setL [n1, n2, n3] u = [n1.set u false, n2.set u false, n3.set u true] := by simp [setL, c1, c2, c3]
        rw [eh]
        exact ⟨[true, true, true, true, false, false, true, true], g_A_3_1_001 b s n1 n2 n3 g1 u H h4 h5 c1 c2 c3⟩
      | false =>
        simp [c1, c2, c3] at hc

set_option maxRecDepth 100000 in
theorem rK_3_1 (b : BS) (s : SR) (n1 n2 n3 : ND) (g1 : GV) (H : HB b) (hc : ([n1, n2, n3] : List ND).any (·.c) = true) : ∃ orc, Holds (fitOA (head b.kept .w s [n1, n2, n3] [g1]) none (runB b .k s [n1, n2, n3] [g1] orc)) := by
  cases c1 : n1.c with
  | true =>
    cases c2 : n2.c with
    | true =>
      cases c3 : n3.c with
      | true =>
        exact ⟨[true, true, true, true, true, true, true, true], g_K_3_1_111 b s n1 n2 n3 g1 H c1 c2 c3⟩
      | false =>
        exact ⟨[true, true, true, true, true, true, false, true], g_K_3_1_110 b s n1 n2 n3 g1 H c1 c2 c3⟩
    | false =>
      cases c3 : n3.c with
      | true =>
        exact ⟨[true, true, true, true, true, false, true, true], g_K_3_1_101 b s n1 n2 n3 g1 H c1 c2 c3⟩
      | false =>
        exact ⟨[true, true, true, true, true, false, false, true], g_K_3_1_100 b s n1 n2 n3 g1 H c1 c2 c3⟩
  | false =>
    cases c2 : n2.c with
    | true =>
      cases c3 : n3.c with
      | true =>
        exact ⟨[true, true, true, true, false, true, true, true], g_K_3_1_011 b s n1 n2 n3 g1 H c1 c2 c3⟩
      | false =>
        exact ⟨[true, true, true, true, false, true, false, true], g_K_3_1_010 b s n1 n2 n3 g1 H c1 c2 c3⟩
    | false =>
      cases c3 : n3.c with
      | true =>
        exact ⟨[true, true, true, true, false, false, true, true], g_K_3_1_001 b s n1 n2 n3 g1 H c1 c2 c3⟩
      | false =>
        simp [c1, c2, c3] at hc

set_option maxRecDepth 100000 in
theorem rW_3_1 (b : BS) (s : SR) (n1 n2 n3 : ND) (g1 : GV) (H : HB b) :
    (0 ≤ b.nx ∧ b.nx < 127 → ∃ orc, Holds (fitOA (head b.more (SR.ask SR.new) SR.new ([n1, n2, n3].map ND.off) ([g1] ++ [gvOf b s])) none (runB b .w s [n1, n2, n3] [g1] orc))) ∧
    (b.nx = 127 → ∃ orc, Holds (fitOA (head b.last (.d 200) SR.new ([n1, n2, n3].map ND.off) ([g1] ++ [gvOf b s])) none (runB b .w s [n1, n2, n3] [g1] orc))) :=
  ⟨fun h4 => ⟨[true, true, true, true, true, false], g_W_3_1_000 b s n1 n2 n3 g1 H h4 (by simp; omega)⟩, fun h => ⟨[true, true, true, true, true, true], g_V_3_1_000 b s n1 n2 n3 g1 H (by simp [h]) (by rw [h]; rfl)⟩⟩

set_option maxRecDepth 100000 in
theorem rS_3_2 (b : BS) (s : SR) (n1 n2 n3 : ND) (g1 g2 : GV) (a1 a2 a3 a4 fb fu ft : Int) (H : HB b) (h : HS s fb fu) (hc : ∀ m ∈ ([n1, n2, n3] : List ND), m.c = false) (hx : (anyOk [n1, n2, n3] a1 a2 a3 a4 fb fu) = true → 2 < 3) :
    (HT (s.told (anyOk [n1, n2, n3] a1 a2 a3 a4 fb fu)) → ∃ orc, Holds (fitOA (head b.next (s.told (anyOk [n1, n2, n3] a1 a2 a3 a4 fb fu)).ask (s.told (anyOk [n1, n2, n3] a1 a2 a3 a4 fb fu)) (hearsL [n1, n2, n3] a1 a2 a3 a4 fb fu ft) [g1, g2]) none (runB b (.s a1 a2 a3 a4 fb fu ft) s [n1, n2, n3] [g1, g2] orc))) ∧
    ((anyOk [n1, n2, n3] a1 a2 a3 a4 fb fu) = true → (s.told true).f = true → ∃ orc, Holds (fitOA (head b.asked (.a b.nx) (s.told true) (hearsL [n1, n2, n3] a1 a2 a3 a4 fb fu ft) [g1, g2]) none (runB b (.s a1 a2 a3 a4 fb fu ft) s [n1, n2, n3] [g1, g2] orc))) ∧
    ((anyOk [n1, n2, n3] a1 a2 a3 a4 fb fu) = false → (s.told false).f = false → (s.told false).o = true → ∃ e orc, Holds (fitOA (head b.over (.d e) (s.told false) (hearsL [n1, n2, n3] a1 a2 a3 a4 fb fu ft) [g1, g2]) none (runB b (.s a1 a2 a3 a4 fb fu ft) s [n1, n2, n3] [g1, g2] orc))) := by
  have c1 : n1.c = false := hc _ (by simp)
  have c2 : n2.c = false := hc _ (by simp)
  have c3 : n3.c = false := hc _ (by simp)
  cases r1 : n1.ok a1 a2 a3 a4 fb fu with
  | true =>
    cases r2 : n2.ok a1 a2 a3 a4 fb fu with
    | true =>
      cases r3 : n3.ok a1 a2 a3 a4 fb fu with
      | true =>
        have ea : (anyOk [n1, n2, n3] a1 a2 a3 a4 fb fu) = true := by simp [anyOk, r1, r2, r3]
        have eh : hearsL [n1, n2, n3] a1 a2 a3 a4 fb fu ft = [n1.hears true fb fu ft, n2.hears true fb fu ft, n3.hears true fb fu ft] := by simp [hearsL, r1, r2, r3]
        rw [ea, eh]
        exact ⟨fun t => ⟨[true, true, true, true, true, true, true, true, false, false, false, false], g_Sc_3_2_111 b s n1 n2 n3 g1 g2 a1 a2 a3 a4 fb fu ft H h c1 r1 c2 r2 c3 r3 t⟩, fun _ tf => ⟨[true, true, true, true, true, true, true, true, true], g_Sf_3_2_111 b s n1 n2 n3 g1 g2 a1 a2 a3 a4 fb fu ft H h c1 r1 c2 r2 c3 r3 tf⟩, fun q => by cases q⟩
      | false =>
        have ea : (anyOk [n1, n2, n3] a1 a2 a3 a4 fb fu) = true := by simp [anyOk, r1, r2, r3]
        have eh : hearsL [n1, n2, n3] a1 a2 a3 a4 fb fu ft = [n1.hears true fb fu ft, n2.hears true fb fu ft, n3.hears false fb fu ft] := by simp [hearsL, r1, r2, r3]
        rw [ea, eh]
        exact ⟨fun t => ⟨[true, true, true, true, true, true, false, true, false, false, false, false], g_Sc_3_2_110 b s n1 n2 n3 g1 g2 a1 a2 a3 a4 fb fu ft H h c1 r1 c2 r2 c3 r3 t⟩, fun _ tf => ⟨[true, true, true, true, true, true, false, true, true], g_Sf_3_2_110 b s n1 n2 n3 g1 g2 a1 a2 a3 a4 fb fu ft H h c1 r1 c2 r2 c3 r3 tf⟩, fun q => by cases q⟩
    | false =>
      cases r3 : n3.ok a1 a2 a3 a4 fb fu with
      | true =>
        have ea : (anyOk [n1, n2, n3] a1 a2 a3 a4 fb fu) = true := by simp [anyOk, r1, r2, r3]
        have eh : hearsL [n1, n2, n3] a1 a2 a3 a4 fb fu ft = [n1.hears true fb fu ft, n2.hears false fb fu ft, n3.hears true fb fu ft] := by simp [hearsL, r1, r2, r3]
        rw [ea, eh]
        exact ⟨fun t => ⟨[true, true, true, true, true, false, true, true, false, false, false, false], g_Sc_3_2_101 b s n1 n2 n3 g1 g2 a1 a2 a3 a4 fb fu ft H h c1 r1 c2 r2 c3 r3 t⟩, fun _ tf => ⟨[true, true, true, true, true, false, true, true, true], g_Sf_3_2_101 b s n1 n2 n3 g1 g2 a1 a2 a3 a4 fb fu ft H h c1 r1 c2 r2 c3 r3 tf⟩, fun q => by cases q⟩
      | false =>
        have ea : (anyOk [n1, n2, n3] a1 a2 a3 a4 fb fu) = true := by simp [anyOk, r1, r2, r3]
        have eh : hearsL [n1, n2, n3] a1 a2 a3 a4 fb fu ft = [n1.hears true fb fu ft, n2.hears false fb fu ft, n3.hears false fb fu ft] := by simp [hearsL, r1, r2, r3]
        rw [ea, eh]
        exact ⟨fun t => ⟨[true, true, true, true, true, false, false, true, false, false, false, false], g_Sc_3_2_100 b s n1 n2 n3 g1 g2 a1 a2 a3 a4 fb fu ft H h c1 r1 c2 r2 c3 r3 t⟩, fun _ tf => ⟨[true, true, true, true, true, false, false, true, true], g_Sf_3_2_100 b s n1 n2 n3 g1 g2 a1 a2 a3 a4 fb fu ft H h c1 r1 c2 r2 c3 r3 tf⟩, fun q => by cases q⟩
  | false =>
    cases r2 : n2.ok a1 a2 a3 a4 fb fu with
    | true =>
      cases r3 : n3.ok a1 a2 a3 a4 fb fu with
      | true =>
        have ea : (anyOk [n1, n2, n3] a1 a2 a3 a4 fb fu) = true := by simp [anyOk, r1, r2, r3]
        have eh : hearsL [n1, n2, n3] a1 a2 a3 a4 fb fu ft = [n1.hears false fb fu ft, n2.hears true fb fu ft, n3.hears true fb fu ft] := by simp [hearsL, r1, r2, r3]
        rw [ea, eh]
        exact ⟨fun t => ⟨[true, true, true, true, false, true, true, true, false, false, false, false], g_Sc_3_2_011 b s n1 n2 n3 g1 g2 a1 a2 a3 a4 fb fu ft H h c1 r1 c2 r2 c3 r3 t⟩, fun _ tf => ⟨[true, true, true, true, false, true, true, true, true], g_Sf_3_2_011 b s n1 n2 n3 g1 g2 a1 a2 a3 a4 fb fu ft H h c1 r1 c2 r2 c3 r3 tf⟩, fun q => by cases q⟩
      | false =>
        have ea : (anyOk [n1, n2, n3] a1 a2 a3 a4 fb fu) = true := by simp [anyOk, r1, r2, r3]
        have eh : hearsL [n1, n2, n3] a1 a2 a3 a4 fb fu ft = [n1.hears false fb fu ft, n2.hears true fb fu ft, n3.hears false fb fu ft] := by simp [hearsL, r1, r2, r3]
        rw [ea, eh]
        exact ⟨fun t => ⟨[true, true, true, true, false, true, false, true, false, false, false, false], g_Sc_3_2_010 b s n1 n2 n3 g1 g2 a1 a2 a3 a4 fb fu ft H h c1 r1 c2 r2 c3 r3 t⟩, fun _ tf => ⟨[true, true, true, true, false, true, false, true, true], g_Sf_3_2_010 b s n1 n2 n3 g1 g2 a1 a2 a3 a4 fb fu ft H h c1 r1 c2 r2 c3 r3 tf⟩, fun q => by cases q⟩
    | false =>
      cases r3 : n3.ok a1 a2 a3 a4 fb fu with
      | true =>
        have ea : (anyOk [n1, n2, n3] a1 a2 a3 a4 fb fu) = true := by simp [anyOk, r1, r2, r3]
        have eh : hearsL [n1, n2, n3] a1 a2 a3 a4 fb fu ft = [n1.hears false fb fu ft, n2.hears false fb fu ft, n3.hears true fb fu ft] := by simp [hearsL, r1, r2, r3]
        rw [ea, eh]
        exact ⟨fun t => ⟨[true, true, true, true, false, false, true, true, false, false, false, false], g_Sc_3_2_001 b s n1 n2 n3 g1 g2 a1 a2 a3 a4 fb fu ft H h c1 r1 c2 r2 c3 r3 t⟩, fun _ tf => ⟨[true, true, true, true, false, false, true, true, true], g_Sf_3_2_001 b s n1 n2 n3 g1 g2 a1 a2 a3 a4 fb fu ft H h c1 r1 c2 r2 c3 r3 tf⟩, fun q => by cases q⟩
      | false =>
        have ea : (anyOk [n1, n2, n3] a1 a2 a3 a4 fb fu) = false := by simp [anyOk, r1, r2, r3]
        have eh : hearsL [n1, n2, n3] a1 a2 a3 a4 fb fu ft = [n1.hears false fb fu ft, n2.hears false fb fu ft, n3.hears false fb fu ft] := by simp [hearsL, r1, r2, r3]
        rw [ea, eh]
        refine ⟨fun t => ⟨[true, true, true, true, false, false, false, true, false, false, false, false], g_Sc_3_2_000 b s n1 n2 n3 g1 g2 a1 a2 a3 a4 fb fu ft H h c1 r1 c2 r2 c3 r3 t⟩, (fun q => by cases q), fun _ tf to => ?_⟩
        cases h32 : (s.b == 32) with
        | true => exact ⟨0, [true, true, true, true, false, false, false, true, false, true, true, true], g_Sd_3_2_000 b s n1 n2 n3 g1 g2 a1 a2 a3 a4 fb fu ft H h c1 r1 c2 r2 c3 r3 tf to h32⟩
        | false => exact ⟨5, [true, true, true, true, false, false, false, true, false, true, true, false, true], g_Se_3_2_000 b s n1 n2 n3 g1 g2 a1 a2 a3 a4 fb fu ft H h c1 r1 c2 r2 c3 r3 tf to h32⟩

set_option maxRecDepth 100000 in
theorem rD_3_2 (b : BS) (s : SR) (n1 n2 n3 : ND) (g1 g2 : GV) (e : Int) (H : b.kl = true) : ∃ orc, Holds (fitOA (fin b e s [g1, g2]) (some 2) (runB b (.d e) s [n1, n2, n3] [g1, g2] orc)) := ⟨[true, true, true, true], g_D_3_2 b s n1 n2 n3 g1 g2 e H⟩

set_option maxRecDepth 100000 in
theorem rA_3_2 (b : BS) (s : SR) (n1 n2 n3 : ND) (g1 g2 : GV) (u : Int) (H : HB b) (h4 : 1 ≤ u) (h5 : u ≤ 127) (hc : ([n1, n2, n3] : List ND).any (·.c) = true) : ∃ orc, Holds (fitOA (head b.next .k s (setL [n1, n2, n3] u) [g1, g2]) none (runB b (.a u) s [n1, n2, n3] [g1, g2] orc)) := by
  cases c1 : n1.c with
  | true =>
    cases c2 : n2.c with
    | true =>
      cases c3 : n3.c with
      | true =>
        have eh : setL [n1, n2, n3] u = [n1.set u true, n2.set u true, n3.set u true] := by simp [setL, c1, c2, c3]
        rw [eh]
        exact ⟨[true, true, true, true, true, true, true, true], g_A_3_2_111 b s n1 n2 n3 g1 g2 u H h4 h5 c1 c2 c3⟩
      | false =>
        have eh : setL [n1, n2, n3] u = [n1.set u true, n2.set u true, n3.set u false] := by simp [setL, c1, c2, c3]
        rw [eh]
        exact ⟨[true, true, true, true, true, true, false, true], g_A_3_2_110 b s n1 n2 n3 g1 g2 u H h4 h5 c1 c2 c3⟩
    | false =>
      cases c3 : n3.c with
      | true =>
        have eh : setL [n1, n2, n3] u = [n1.set u true, n2.set u false, n3.set u true] := by simp [setL, c1, c2, c3]
        rw [eh]
        exact ⟨[true, true, true, true, true, false, true, true], g_A_3_2_101 b s n1 n2 n3 g1 g2 u H h4 h5 c1 c2 c3⟩
      | false =>
        have eh : setL [n1, n2, n3] u = [n1.set u true, n2.set u false, n3.set u false] := by simp [setL, c1, c2, c3]
        rw [eh]
        exact ⟨[true, true, true, true, true, false, false, true], g_A_3_2_100 b s n1 n2 n3 g1 g2 u H h4 h5 c1 c2 c3⟩
  | false =>
    cases c2 : n2.c with
    | true =>
      cases c3 : n3.c with
      | true =>
        have eh : setL [n1, n2, n3] u = [n1.set u false, n2.set u true, n3.set u true] := by simp [setL, c1, c2, c3]
        rw [eh]
        exact ⟨[true, true, true, true, false, true, true, true], g_A_3_2_011 b s n1 n2 n3 g1 g2 u H h4 h5 c1 c2 c3⟩
      | false =>
        have eh : setL [n1, n2, n3] u = [n1.set u false, n2.set u true, n3.set u false] := by simp [setL, c1, c2, c3]
        rw [eh]
        exact ⟨[true, true, true, true, false, true, false, true], g_A_3_2_010 b s n1 n2 n3 g1 g2 u H h4 h5 c1 c2 c3⟩
    | false =>
      cases c3 : n3.c with
      | true =>
        have eh : setL [n1, n2, n3] u = [n1.set u false, n2.set u false, n3.set u true] := by simp [setL, c1, c2, c3]
        rw [eh]
        exact ⟨[true, true, true, true, false, false, true, true], g_A_3_2_001 b s n1 n2 n3 g1 g2 u H h4 h5 c1 c2 c3⟩
      | false =>
        simp [c1, c2, c3] at hc

set_option maxRecDepth 100000 in
theorem rK_3_2 (b : BS) (s : SR) (n1 n2 n3 : ND) (g1 g2 : GV) (H : HB b) (hc : ([n1, n2, n3] : List ND).any (·.c) = true) : ∃ orc, Holds (fitOA (head b.kept .w s [n1, n2, n3] [g1, g2]) none (runB b .k s [n1, n2, n3] [g1, g2] orc)) := by
  cases c1 : n1.c with
  | true =>
    cases c2 : n2.c with
    | true =>
      cases c3 : n3.c with
      | true =>
        exact ⟨[true, true, true, true, true, true, true, true], g_K_3_2_111 b s n1 n2 n3 g1 g2 H c1 c2 c3⟩
      | false =>
        exact ⟨[true, true, true, true, true, true, false, true], g_K_3_2_110 b s n1 n2 n3 g1 g2 H c1 c2 c3⟩
    | false =>
      cases c3 : n3.c with
      | true =>
        exact ⟨[true, true, true, true, true, false, true, true], g_K_3_2_101 b s n1 n2 n3 g1 g2 H c1 c2 c3⟩
      | false =>
        exact ⟨[true, true, true, true, true, false, false, true], g_K_3_2_100 b s n1 n2 n3 g1 g2 H c1 c2 c3⟩
  | false =>
    cases c2 : n2.c with
    | true =>
      cases c3 : n3.c with
      | true =>
        exact ⟨[true, true, true, true, false, true, true, true], g_K_3_2_011 b s n1 n2 n3 g1 g2 H c1 c2 c3⟩
      | false =>
        exact ⟨[true, true, true, true, false, true, false, true], g_K_3_2_010 b s n1 n2 n3 g1 g2 H c1 c2 c3⟩
    | false =>
      cases c3 : n3.c with
      | true =>
        exact ⟨[true, true, true, true, false, false, true, true], g_K_3_2_001 b s n1 n2 n3 g1 g2 H c1 c2 c3⟩
      | false =>
        simp [c1, c2, c3] at hc

set_option maxRecDepth 100000 in
theorem rW_3_2 (b : BS) (s : SR) (n1 n2 n3 : ND) (g1 g2 : GV) (H : HB b) :
    (0 ≤ b.nx ∧ b.nx < 127 → ∃ orc, Holds (fitOA (head b.more (SR.ask SR.new) SR.new ([n1, n2, n3].map ND.off) ([g1, g2] ++ [gvOf b s])) none (runB b .w s [n1, n2, n3] [g1, g2] orc))) ∧
    (b.nx = 127 → ∃ orc, Holds (fitOA (head b.last (.d 200) SR.new ([n1, n2, n3].map ND.off) ([g1, g2] ++ [gvOf b s])) none (runB b .w s [n1, n2, n3] [g1, g2] orc))) :=
  ⟨fun h4 => ⟨[true, true, true, true, true, false], g_W_3_2_000 b s n1 n2 n3 g1 g2 H h4 (by simp; omega)⟩, fun h => ⟨[true, true, true, true, true, true], g_V_3_2_000 b s n1 n2 n3 g1 g2 H (by simp [h]) (by rw [h]; rfl)⟩⟩

set_option maxRecDepth 100000 in
theorem rS_3_3 (b : BS) (s : SR) (n1 n2 n3 : ND) (g1 g2 g3 : GV) (a1 a2 a3 a4 fb fu ft : Int) (H : HB b) (h : HS s fb fu) (hc : ∀ m ∈ ([n1, n2, n3] : List ND), m.c = false) (hx : (anyOk [n1, n2, n3] a1 a2 a3 a4 fb fu) = true → 3 < 3) :
    (HT (s.told (anyOk [n1, n2, n3] a1 a2 a3 a4 fb fu)) → ∃ orc, Holds (fitOA (head b.next (s.told (anyOk [n1, n2, n3] a1 a2 a3 a4 fb fu)).ask (s.told (anyOk [n1, n2, n3] a1 a2 a3 a4 fb fu)) (hearsL [n1, n2, n3] a1 a2 a3 a4 fb fu ft) [g1, g2, g3]) none (runB b (.s a1 a2 a3 a4 fb fu ft) s [n1, n2, n3] [g1, g2, g3] orc))) ∧
    ((anyOk [n1, n2, n3] a1 a2 a3 a4 fb fu) = true → (s.told true).f = true → ∃ orc, Holds (fitOA (head b.asked (.a b.nx) (s.told true) (hearsL [n1, n2, n3] a1 a2 a3 a4 fb fu ft) [g1, g2, g3]) none (runB b (.s a1 a2 a3 a4 fb fu ft) s [n1, n2, n3] [g1, g2, g3] orc))) ∧
    ((anyOk [n1, n2, n3] a1 a2 a3 a4 fb fu) = false → (s.told false).f = false → (s.told false).o = true → ∃ e orc, Holds (fitOA (head b.over (.d e) (s.told false) (hearsL [n1, n2, n3] a1 a2 a3 a4 fb fu ft) [g1, g2, g3]) none (runB b (.s a1 a2 a3 a4 fb fu ft) s [n1, n2, n3] [g1, g2, g3] orc))) := by
  have c1 : n1.c = false := hc _ (by simp)
  have c2 : n2.c = false := hc _ (by simp)
  have c3 : n3.c = false := hc _ (by simp)
  cases r1 : n1.ok a1 a2 a3 a4 fb fu with
  | true =>
    cases r2 : n2.ok a1 a2 a3 a4 fb fu with
    | true =>
      cases r3 : n3.ok a1 a2 a3 a4 fb fu with
      | true =>
        have ea : (anyOk [n1, n2, n3] a1 a2 a3 a4 fb fu) = true := by simp [anyOk, r1, r2, r3]
        exact absurd (hx ea) (by decide)
      | false =>
        have ea : (anyOk [n1, n2, n3] a1 a2 a3 a4 fb fu) = true := by simp [anyOk, r1, r2, r3]
        exact absurd (hx ea) (by decide)
    | false =>
      cases r3 : n3.ok a1 a2 a3 a4 fb fu with
      | true =>
        have ea : (anyOk [n1, n2, n3] a1 a2 a3 a4 fb fu) = true := by simp [anyOk, r1, r2, r3]
        exact absurd (hx ea) (by decide)
      | false =>
        have ea : (anyOk [n1, n2, n3] a1 a2 a3 a4 fb fu) = true := by simp [anyOk, r1, r2, r3]
        exact absurd (hx ea) (by decide)
  | false =>
    cases r2 : n2.ok a1 a2 a3 a4 fb fu with
    | true =>
      cases r3 : n3.ok a1 a2 a3 a4 fb fu with
      | true =>
        have ea : (anyOk [n1, n2, n3] a1 a2 a3 a4 fb fu) = true := by simp [anyOk, r1, r2, r3]
        exact absurd (hx ea) (by decide)
      | false =>
        have ea : (anyOk [n1, n2, n3] a1 a2 a3 a4 fb fu) = true := by simp [anyOk, r1, r2, r3]
        exact absurd (hx ea) (by decide)
    | false =>
      cases r3 : n3.ok a1 a2 a3 a4 fb fu with
      | true =>
        have ea : (anyOk [n1, n2, n3] a1 a2 a3 a4 fb fu) = true := by simp [anyOk, r1, r2, r3]
        exact absurd (hx ea) (by decide)
      | false =>
        have ea : (anyOk [n1, n2, n3] a1 a2 a3 a4 fb fu) = false := by simp [anyOk, r1, r2, r3]
        have eh : hearsL [n1, n2, n3] a1 a2 a3 a4 fb fu ft = [n1.hears false fb fu ft, n2.hears false fb fu ft, n3.hears false fb fu ft] := by simp [hearsL, r1, r2, r3]
        rw [ea, eh]
        refine ⟨fun t => ⟨[true, true, true, true, false, false, false, true, false, false, false, false], g_Sc_3_3_000 b s n1 n2 n3 g1 g2 g3 a1 a2 a3 a4 fb fu ft H h c1 r1 c2 r2 c3 r3 t⟩, (fun q => by cases q), fun _ tf to => ?_⟩
        cases h32 : (s.b == 32) with
        | true => exact ⟨0, [true, true, true, true, false, false, false, true, false, true, true, true], g_Sd_3_3_000 b s n1 n2 n3 g1 g2 g3 a1 a2 a3 a4 fb fu ft H h c1 r1 c2 r2 c3 r3 tf to h32⟩
        | false => exact ⟨5, [true, true, true, true, false, false, false, true, false, true, true, false, true], g_Se_3_3_000 b s n1 n2 n3 g1 g2 g3 a1 a2 a3 a4 fb fu ft H h c1 r1 c2 r2 c3 r3 tf to h32⟩

set_option maxRecDepth 100000 in
theorem rD_3_3 (b : BS) (s : SR) (n1 n2 n3 : ND) (g1 g2 g3 : GV) (e : Int) (H : b.kl = true) : ∃ orc, Holds (fitOA (fin b e s [g1, g2, g3]) (some 2) (runB b (.d e) s [n1, n2, n3] [g1, g2, g3] orc)) := ⟨[true, true, true, true], g_D_3_3 b s n1 n2 n3 g1 g2 g3 e H⟩

set_option maxRecDepth 100000 in
theorem rS (b : BS) (s : SR) (ns : List ND) (gs : List GV) (a1 a2 a3 a4 fb fu ft : Int) (H : HB b) (h : HS s fb fu) (hc : ∀ m ∈ ns, m.c = false) (hx : (anyOk ns a1 a2 a3 a4 fb fu) = true → gs.length < ns.length) (hn : ns.length ≤ 3) (hg : gs.length ≤ ns.length) :
    (HT (s.told (anyOk ns a1 a2 a3 a4 fb fu)) → ∃ orc, Holds (fitOA (head b.next (s.told (anyOk ns a1 a2 a3 a4 fb fu)).ask (s.told (anyOk ns a1 a2 a3 a4 fb fu)) (hearsL ns a1 a2 a3 a4 fb fu ft) gs) none (runB b (.s a1 a2 a3 a4 fb fu ft) s ns gs orc))) ∧
    ((anyOk ns a1 a2 a3 a4 fb fu) = true → (s.told true).f = true → ∃ orc, Holds (fitOA (head b.asked (.a b.nx) (s.told true) (hearsL ns a1 a2 a3 a4 fb fu ft) gs) none (runB b (.s a1 a2 a3 a4 fb fu ft) s ns gs orc))) ∧
    ((anyOk ns a1 a2 a3 a4 fb fu) = false → (s.told false).f = false → (s.told false).o = true → ∃ e orc, Holds (fitOA (head b.over (.d e) (s.told false) (hearsL ns a1 a2 a3 a4 fb fu ft) gs) none (runB b (.s a1 a2 a3 a4 fb fu ft) s ns gs orc))) := by
  rcases ns with _ | ⟨n1, _ | ⟨n2, _ | ⟨n3, _ | ⟨n4, l⟩⟩⟩⟩ <;> rcases gs with _ | ⟨g1, _ | ⟨g2, _ | ⟨g3, _ | ⟨g4, l⟩⟩⟩⟩
  · exact rS_0_0 b s  a1 a2 a3 a4 fb fu ft H h hc hx
  · exfalso; simp only [List.length_cons, List.length_nil] at hn hg; omega
  · exfalso; simp only [List.length_cons, List.length_nil] at hn hg; omega
  · exfalso; simp only [List.length_cons, List.length_nil] at hn hg; omega
  · exfalso; simp only [List.length_cons, List.length_nil] at hn hg; omega
  · exact rS_1_0 b s n1 a1 a2 a3 a4 fb fu ft H h hc hx
  · exact rS_1_1 b s n1 g1 a1 a2 a3 a4 fb fu ft H h hc hx
  · exfalso; simp only [List.length_cons, List.length_nil] at hn hg; omega
  · exfalso; simp only [List.length_cons, List.length_nil] at hn hg; omega
  · exfalso; simp only [List.length_cons, List.length_nil] at hn hg; omega
  · exact rS_2_0 b s n1 n2 a1 a2 a3 a4 fb fu ft H h hc hx
  · exact rS_2_1 b s n1 n2 g1 a1 a2 a3 a4 fb fu ft H h hc hx
  · exact rS_2_2 b s n1 n2 g1 g2 a1 a2 a3 a4 fb fu ft H h hc hx
  · exfalso; simp only [List.length_cons, List.length_nil] at hn hg; omega
  · exfalso; simp only [List.length_cons, List.length_nil] at hn hg; omega
  · exact rS_3_0 b s n1 n2 n3 a1 a2 a3 a4 fb fu ft H h hc hx
  · exact rS_3_1 b s n1 n2 n3 g1 a1 a2 a3 a4 fb fu ft H h hc hx
  · exact rS_3_2 b s n1 n2 n3 g1 g2 a1 a2 a3 a4 fb fu ft H h hc hx
  · exact rS_3_3 b s n1 n2 n3 g1 g2 g3 a1 a2 a3 a4 fb fu ft H h hc hx
  · exfalso; simp only [List.length_cons, List.length_nil] at hn hg; omega
  · exfalso; simp only [List.length_cons, List.length_nil] at hn hg; omega
  · exfalso; simp only [List.length_cons, List.length_nil] at hn hg; omega
  · exfalso; simp only [List.length_cons, List.length_nil] at hn hg; omega
  · exfalso; simp only [List.length_cons, List.length_nil] at hn hg; omega
  · exfalso; simp only [List.length_cons, List.length_nil] at hn hg; omega

set_option maxRecDepth 100000 in
theorem rD (b : BS) (s : SR) (ns : List ND) (gs : List GV) (e : Int) (H : b.kl = true) (hn : ns.length ≤ 3) (hg : gs.length ≤ ns.length) :
    ∃ orc, Holds (fitOA (fin b e s gs) (some 2) (runB b (.d e) s ns gs orc)) := by
  rcases ns with _ | ⟨n1, _ | ⟨n2, _ | ⟨n3, _ | ⟨n4, l⟩⟩⟩⟩ <;> rcases gs with _ | ⟨g1, _ | ⟨g2, _ | ⟨g3, _ | ⟨g4, l⟩⟩⟩⟩
  · exact rD_0_0 b s  e H
  · exfalso; simp only [List.length_cons, List.length_nil] at hn hg; omega
  · exfalso; simp only [List.length_cons, List.length_nil] at hn hg; omega
  · exfalso; simp only [List.length_cons, List.length_nil] at hn hg; omega
  · exfalso; simp only [List.length_cons, List.length_nil] at hn hg; omega
  · exact rD_1_0 b s n1 e H
  · exact rD_1_1 b s n1 g1 e H
  · exfalso; simp only [List.length_cons, List.length_nil] at hn hg; omega
  · exfalso; simp only [List.length_cons, List.length_nil] at hn hg; omega
  · exfalso; simp only [List.length_cons, List.length_nil] at hn hg; omega
  · exact rD_2_0 b s n1 n2 e H
  · exact rD_2_1 b s n1 n2 g1 e H
  · exact rD_2_2 b s n1 n2 g1 g2 e H
  · exfalso; simp only [List.length_cons, List.length_nil] at hn hg; omega
  · exfalso; simp only [List.length_cons, List.length_nil] at hn hg; omega
  · exact rD_3_0 b s n1 n2 n3 e H
  · exact rD_3_1 b s n1 n2 n3 g1 e H
  · exact rD_3_2 b s n1 n2 n3 g1 g2 e H
  · exact rD_3_3 b s n1 n2 n3 g1 g2 g3 e H
  · exfalso; simp only [List.length_cons, List.length_nil] at hn hg; omega
  · exfalso; simp only [List.length_cons, List.length_nil] at hn hg; omega
  · exfalso; simp only [List.length_cons, List.length_nil] at hn hg; omega
  · exfalso; simp only [List.length_cons, List.length_nil] at hn hg; omega
  · exfalso; simp only [List.length_cons, List.length_nil] at hn hg; omega
  · exfalso; simp only [List.length_cons, List.length_nil] at hn hg; omega

set_option maxRecDepth 100000 in
theorem rA (b : BS) (s : SR) (ns : List ND) (gs : List GV) (u : Int) (H : HB b) (h4 : 1 ≤ u) (h5 : u ≤ 127) (hc : ns.any (·.c) = true) (hn : ns.length ≤ 3) (hg : gs.length < ns.length) :
    ∃ orc, Holds (fitOA (head b.next .k s (setL ns u) gs) none (runB b (.a u) s ns gs orc)) := by
  rcases ns with _ | ⟨n1, _ | ⟨n2, _ | ⟨n3, _ | ⟨n4, l⟩⟩⟩⟩ <;> rcases gs with _ | ⟨g1, _ | ⟨g2, _ | ⟨g3, _ | ⟨g4, l⟩⟩⟩⟩
  · exfalso; simp only [List.length_cons, List.length_nil] at hn hg; omega
  · exfalso; simp only [List.length_cons, List.length_nil] at hn hg; omega
  · exfalso; simp only [List.length_cons, List.length_nil] at hn hg; omega
  · exfalso; simp only [List.length_cons, List.length_nil] at hn hg; omega
  · exfalso; simp only [List.length_cons, List.length_nil] at hn hg; omega
  · exact rA_1_0 b s n1 u H h4 h5 hc
  · exfalso; simp only [List.length_cons, List.length_nil] at hn hg; omega
  · exfalso; simp only [List.length_cons, List.length_nil] at hn hg; omega
  · exfalso; simp only [List.length_cons, List.length_nil] at hn hg; omega
  · exfalso; simp only [List.length_cons, List.length_nil] at hn hg; omega
  · exact rA_2_0 b s n1 n2 u H h4 h5 hc
  · exact rA_2_1 b s n1 n2 g1 u H h4 h5 hc
  · exfalso; simp only [List.length_cons, List.length_nil] at hn hg; omega
  · exfalso; simp only [List.length_cons, List.length_nil] at hn hg; omega
  · exfalso; simp only [List.length_cons, List.length_nil] at hn hg; omega
  · exact rA_3_0 b s n1 n2 n3 u H h4 h5 hc
  · exact rA_3_1 b s n1 n2 n3 g1 u H h4 h5 hc
  · exact rA_3_2 b s n1 n2 n3 g1 g2 u H h4 h5 hc
  · exfalso; simp only [List.length_cons, List.length_nil] at hn hg; omega
  · exfalso; simp only [List.length_cons, List.length_nil] at hn hg; omega
  · exfalso; simp only [List.length_cons, List.length_nil] at hn hg; omega
  · exfalso; simp only [List.length_cons, List.length_nil] at hn hg; omega
  · exfalso; simp only [List.length_cons, List.length_nil] at hn hg; omega
  · exfalso; simp only [List.length_cons, List.length_nil] at hn hg; omega
  · exfalso; simp only [List.length_cons, List.length_nil] at hn hg; omega

set_option maxRecDepth 100000 in
theorem rK (b : BS) (s : SR) (ns : List ND) (gs : List GV) (H : HB b) (hc : ns.any (·.c) = true) (hn : ns.length ≤ 3) (hg : gs.length < ns.length) :
    ∃ orc, Holds (fitOA (head b.kept .w s ns gs) none (runB b .k s ns gs orc)) := by
  rcases ns with _ | ⟨n1, _ | ⟨n2, _ | ⟨n3, _ | ⟨n4, l⟩⟩⟩⟩ <;> rcases gs with _ | ⟨g1, _ | ⟨g2, _ | ⟨g3, _ | ⟨g4, l⟩⟩⟩⟩
  · exfalso; simp only [List.length_cons, List.length_nil] at hn hg; omega
  · exfalso; simp only [List.length_cons, List.length_nil] at hn hg; omega
  · exfalso; simp only [List.length_cons, List.length_nil] at hn hg; omega
  · exfalso; simp only [List.length_cons, List.length_nil] at hn hg; omega
  · exfalso; simp only [List.length_cons, List.length_nil] at hn hg; omega
  · exact rK_1_0 b s n1 H hc
  · exfalso; simp only [List.length_cons, List.length_nil] at hn hg; omega
  · exfalso; simp only [List.length_cons, List.length_nil] at hn hg; omega
  · exfalso; simp only [List.length_cons, List.length_nil] at hn hg; omega
  · exfalso; simp only [List.length_cons, List.length_nil] at hn hg; omega
  · exact rK_2_0 b s n1 n2 H hc
  · exact rK_2_1 b s n1 n2 g1 H hc
  · exfalso; simp only [List.length_cons, List.length_nil] at hn hg; omega
  · exfalso; simp only [List.length_cons, List.length_nil] at hn hg; omega
  · exfalso; simp only [List.length_cons, List.length_nil] at hn hg; omega
  · exact rK_3_0 b s n1 n2 n3 H hc
  · exact rK_3_1 b s n1 n2 n3 g1 H hc
  · exact rK_3_2 b s n1 n2 n3 g1 g2 H hc
  · exfalso; simp only [List.length_cons, List.length_nil] at hn hg; omega
  · exfalso; simp only [List.length_cons, List.length_nil] at hn hg; omega
  · exfalso; simp only [List.length_cons, List.length_nil] at hn hg; omega
  · exfalso; simp only [List.length_cons, List.length_nil] at hn hg; omega
  · exfalso; simp only [List.length_cons, List.length_nil] at hn hg; omega
  · exfalso; simp only [List.length_cons, List.length_nil] at hn hg; omega
  · exfalso; simp only [List.length_cons, List.length_nil] at hn hg; omega

set_option maxRecDepth 100000 in
theorem rW (b : BS) (s : SR) (ns : List ND) (gs : List GV) (H : HB b) (hn : ns.length ≤ 3) (hg : gs.length < ns.length) :
    (0 ≤ b.nx ∧ b.nx < 127 → ∃ orc, Holds (fitOA (head b.more (SR.ask SR.new) SR.new (ns.map ND.off) (gs ++ [gvOf b s])) none (runB b .w s ns gs orc))) ∧
    (b.nx = 127 → ∃ orc, Holds (fitOA (head b.last (.d 200) SR.new (ns.map ND.off) (gs ++ [gvOf b s])) none (runB b .w s ns gs orc))) := by
  rcases ns with _ | ⟨n1, _ | ⟨n2, _ | ⟨n3, _ | ⟨n4, l⟩⟩⟩⟩ <;> rcases gs with _ | ⟨g1, _ | ⟨g2, _ | ⟨g3, _ | ⟨g4, l⟩⟩⟩⟩
  · exfalso; simp only [List.length_cons, List.length_nil] at hn hg; omega
  · exfalso; simp only [List.length_cons, List.length_nil] at hn hg; omega
  · exfalso; simp only [List.length_cons, List.length_nil] at hn hg; omega
  · exfalso; simp only [List.length_cons, List.length_nil] at hn hg; omega
  · exfalso; simp only [List.length_cons, List.length_nil] at hn hg; omega
  · exact rW_1_0 b s n1 H
  · exfalso; simp only [List.length_cons, List.length_nil] at hn hg; omega
  · exfalso; simp only [List.length_cons, List.length_nil] at hn hg; omega
  · exfalso; simp only [List.length_cons, List.length_nil] at hn hg; omega
  · exfalso; simp only [List.length_cons, List.length_nil] at hn hg; omega
  · exact rW_2_0 b s n1 n2 H
  · exact rW_2_1 b s n1 n2 g1 H
  · exfalso; simp only [List.length_cons, List.length_nil] at hn hg; omega
  · exfalso; simp only [List.length_cons, List.length_nil] at hn hg; omega
  · exfalso; simp only [List.length_cons, List.length_nil] at hn hg; omega
  · exact rW_3_0 b s n1 n2 n3 H
  · exact rW_3_1 b s n1 n2 n3 g1 H
  · exact rW_3_2 b s n1 n2 n3 g1 g2 H
  · exfalso; simp only [List.length_cons, List.length_nil] at hn hg; omega
  · exfalso; simp only [List.length_cons, List.length_nil] at hn hg; omega
  · exfalso; simp only [List.length_cons, List.length_nil] at hn hg; omega
  · exfalso; simp only [List.length_cons, List.length_nil] at hn hg; omega
  · exfalso; simp only [List.length_cons, List.length_nil] at hn hg; omega
  · exfalso; simp only [List.length_cons, List.length_nil] at hn hg; omega
  · exfalso; simp only [List.length_cons, List.length_nil] at hn hg; omega

end Go.Proofs.YtpdgklkcjegkfaaGreat
