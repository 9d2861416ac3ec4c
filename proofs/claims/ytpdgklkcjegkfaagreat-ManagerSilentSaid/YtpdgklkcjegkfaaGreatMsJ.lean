/-
  ManagerSilent: the walk.
-/
import Derived.Test.YtpdgklkcjegkfaaGreatMsF
import Derived.Test.YtpdgklkcjegkfaaGreatMsG
import Derived.Test.YtpdgklkcjegkfaaGreatMsH
import Derived.Test.YtpdgklkcjegkfaaGreatMsI
namespace Go.Proofs.YtpdgklkcjegkfaaGreat
open Go Go.Sx

set_option maxRecDepth 100000 in
theorem works_true (w : World) : Calls Tryz.prog 9 #[] w fun e w' => e = .returned (.bool true) ∧ Still w w' := by
  refine closed_true noK_ok mixed (n := 10000) (s0 := sE) ?_ w
  refine Eq.mpr ?_ (⟨trivial, rfl⟩ : True ∧ true = true)
  kernel_rfl

theorem hK : CallOK Tryz.prog fun g args s => (kW g args s).getD .fail := trueK_ok works_true

set_option maxRecDepth 100000 in
theorem gA (a : Int) (b : Bool) (p : Option Addr) (n q : Nat) (ha : 0 < a) (ha2 : a < 256) (hn : n ≤ 50) : holdsO (stA b a p n q) := by
  cases b
  · exact gA_false a p n q ha ha2 hn
  · exact gA_true a p n q ha ha2 hn

set_option maxRecDepth 100000 in
theorem gZ (a : Int) (b : Bool) (h c i : Int) (v : Value) (ha : 0 < a) (ha2 : a < 256) (hc : 1000 ≤ c) (hc2 : c ≤ 100000) : holdsO (stZ b a h c i v) := by
  cases b
  · exact gZ_false a h c i v ha ha2 hc hc2
  · exact gZ_true a h c i v ha ha2 hc hc2

theorem dA : pA.all (dOk 197) = true := by kernel_rfl
theorem dB : dOk 197 pB = true := by kernel_rfl
theorem dL0 : dOk 197 pL0 = true := by kernel_rfl
theorem dI0 : pI0.all (dOk 197) = true := by kernel_rfl
theorem dI2 : dOk 197 pI2 = true := by kernel_rfl
theorem dL9 : dOk 197 pL9 = true := by kernel_rfl
theorem dZ : dOk 197 pZ = true := by kernel_rfl
theorem dBd : dOk 197 bd = true := by kernel_rfl
theorem f3_body : Tryz.f3.body = some bd := by kernel_rfl
theorem f3_size : 3 + (Tryz.f3.ntmps - 3) = 197 := by kernel_rfl

def count (n : Nat) (act : Act) (_ : World) : Nat := match act.tmps.getD 14 undef with
  | .int _ i => n - i.toNat
  | _ => 0

set_option maxRecDepth 100000 in
set_option maxHeartbeats 2000000 in
theorem walk (a : Int) (b : Bool) (p : Option Addr) (n q : Nat) (W : World) (ha : 0 ≤ a) (ha2 : a < 256)
    (hcell : ∀ k, k < n → ∃ B off z, p = some ⟨B, off, none⟩ ∧ B < W.heap.size ∧ 0 ≤ z ∧ z < 256 ∧ W.cell? ⟨B, off + k, none⟩ = some (.int .u8 z)) :
    Calls Tryz.prog 3 #[.int .u8 a, .bool b, .slice p n q] W fun e W' => e = .returned (.bool true) ∧ Still W W' := by
  refine calls_of_wp Tryz.func3 f3_body ?_
  have hrel : relL (fun _ => none) [.sint .u8 a, .sbool b, .raw (.slice p n q)] [.int .u8 a, .bool b, .slice p n q] := by
    rw [relL_cons]; refine ⟨_, _, rfl, by simp, ?_⟩
    rw [relL_cons]; refine ⟨_, _, rfl, by simp, ?_⟩
    rw [relL_cons]; refine ⟨_, _, rfl, ?_, by simp⟩
    rw [rel_raw]; exact ⟨rfl, rfl⟩
  have hfr : FR (fun _ => none) 197 (frameOf Tryz.f3 [.sint .u8 a, .sbool b, .raw (.slice p n q)]) _ := f3_size ▸ frame_rel (fn := Tryz.f3) hrel
  have g0' : ∀ orc, Got W (fun _ => none) { sE with orc } W := fun orc => Got.init _ W
  by_cases ha0 : a = 0
  · subst ha0
    have hrel0 : relL (fun _ => none) [.int .u8 0, .sbool b, .raw (.slice p n q)] [.int .u8 0, .bool b, .slice p n q] := by
      rw [relL_cons]; refine ⟨_, _, rfl, by simp, ?_⟩
      rw [relL_cons]; refine ⟨_, _, rfl, by simp, ?_⟩
      rw [relL_cons]; refine ⟨_, _, rfl, ?_, by simp⟩
      rw [rel_raw]; exact ⟨rfl, rfl⟩
    have hfr0 : FR (fun _ => none) 197 (frameOf Tryz.f3 [.int .u8 0, .sbool b, .raw (.slice p n q)]) _ := f3_size ▸ frame_rel (fn := Tryz.f3) hrel0
    exact code_end hK mixed dBd (g0 b (.slice p n q)) (g0' []) hfr0
  by_cases hn : 50 < n
  · exact code_end hK mixed dBd (gN b a p n q (by omega) ha2 hn) (g0' oW) hfr
  rw [bd_split]
  refine chunk hK mixed dA (gA a b p n q (by omega) ha2 (by omega)) (g0' (oA b)) hfr fun ρ1 a1 w1 _ g1 f1 => ?_
  refine wp_seq (wp_seq ?_)
  refine code_fit hK mixed dB (gB b a 1000 1000 (.slice p n q)) g1.notes f1 fun ρ2 a2 w2 _ g2 f2 => ?_
  refine wp_block ?_
  refine wp_loop (fun act w => ∃ (ρ : Env) (h c : Int) (i : Nat), Got W ρ (st b a h c []) w ∧ FR ρ 197 (fr (fB a b (.slice p n q) c i)) act ∧ i ≤ n ∧ 1000 ≤ c ∧ c ≤ 1000 + 255 * i) (count n)
    ⟨ρ2, 1000, 1000, 0, g2.notes, f2, by omega, by omega, by omega⟩ ?_
  rintro act w ⟨ρ, h, c, i, g, hf, hi, hc, hc2⟩
  have hcount : ∀ {ρ : Env} {c : Int} {i : Nat} {act : Act} (w : World), FR ρ 197 (fr (fB a b (.slice p n q) c i)) act → count n act w = n - i := by
    intro ρ c i act w hf
    have := hf.tm 14 (.sint .i64 i) (by kernel_rfl)
    simp only [rel_sint] at this
    simp only [count, this, Int.toNat_natCast]
  rw [pL_split]
  refine wp_seq ?_
  by_cases hlt : i < n
  · refine code_fit hK mixed dL0 (gL0 b a h c i p n q (by omega)) g.notes hf fun ρ3 a3 w3 _ g3 f3 => ?_
    refine wp_seq (wp_block ?_)
    rw [pI_split]
    refine chunk hK mixed dI0 (gI0 b a h c i (.slice p n q) hc (by omega)) g3.notes f3 fun ρ4 a4 w4 _ g4 f4 => ?_
    obtain ⟨B, off, z, hp, hB, hz, hz2, hcl⟩ := hcell i hlt
    subst hp
    have hcl4 : w4.cell? ⟨B, off + i, none⟩ = some (.int .u8 z) := by
      rw [← hcl]
      have := g4.frame B hB
      simp only [World.cell?, this]
    refine wp_seq (r17 f4 hlt hcl4 ha0 fun a5 f5 => ?_)
    have hm1 : 0 ≤ z.tmod a := Int.tmod_nonneg _ hz
    have hm2 : z.tmod a < a := Int.tmod_lt_of_pos _ (by omega)
    rw [w64 (by omega) (by omega)] at f5
    refine code_fit hK mixed dI2 (gI2 b a c i (z.tmod a) (.slice (some ⟨B, off, none⟩) n q) (by omega) ha2 hc (by omega) hm1 hm2) g4.notes f5 fun ρ6 a6 w6 _ g6 f6 => ?_
    show pL9.wp _ _ _ _
    refine code_fit hK mixed dL9 (gL9 b a c (c + z.tmod a) i (.slice (some ⟨B, off, none⟩) n q) (by omega) (by omega)) g6.notes f6 fun ρ7 a7 w7 _ g7 f7 => ?_
    refine ⟨⟨ρ7, c, c + z.tmod a, i + 1, g7.notes, f7, by omega, by omega, by omega⟩, ?_⟩
    rw [hcount w hf, hcount (i := i + 1) w7 f7]
    omega
  · refine code_fit hK mixed dL0 (gX b a h c i p n q (by omega)) g.notes hf fun ρ3 a3 w3 _ g3 f3 => ?_
    show pZ.wp _ _ _ _
    exact code_end hK mixed dZ (gZ a b h c i (.slice p n q) (by omega) ha2 hc (by omega)) g3.notes f3
end Go.Proofs.YtpdgklkcjegkfaaGreat
