/-
  ManagerGives: the walk.
-/
import Derived.Test.YtpdgklkcjegkfaaGreatMgN
import Derived.Test.YtpdgklkcjegkfaaGreatMgP
import Derived.Test.YtpdgklkcjegkfaaGreatMgQ
import Derived.Test.YtpdgklkcjegkfaaGreatMgR
set_option linter.unusedSimpArgs false
set_option linter.unusedVariables false
namespace Go.Proofs.YtpdgklkcjegkfaaGreat
open Go Go.Sx

theorem ev1_eq (c : Code) (t : Tm) (orc : List Bool) : ev1 c t orc = (fast Tryz.prog kG 10000).1 (cC Tryz.prog c) ⟨mkF t.tms, []⟩ ⟨t.heap, pZ, orc, True⟩ := by kernel_rfl
theorem evN_eq (l : List Code) (t : Tm) (orc : List Bool) : evN l t orc = evLF Tryz.prog kG 10000 l ⟨mkF t.tms, []⟩ ⟨t.heap, pZ, orc, True⟩ := by kernel_rfl

theorem tN6 (f g i : Int) (p : Option Addr) (l q : Nat) (ns : List ND) (hl : i < l) (hn : ns.length ≤ 2) : ∃ orc, Holds (fitOA (crt f g (.slice p l q) ns i) none (ev1 n6 (crt f g (.slice p l q) ns i) orc)) := by
  match ns, hn with
  | [], _ => exact ⟨_, g_N6_0 f g i p l q  hl⟩
  | [n1], _ => exact ⟨_, g_N6_1 f g i p l q n1 hl⟩
  | [n1, n2], _ => exact ⟨_, g_N6_2 f g i p l q n1 n2 hl⟩
  | _ :: _ :: _ :: _, h => exfalso; simp only [List.length_cons] at h; omega

theorem tX6 (f g i : Int) (p : Option Addr) (l q : Nat) (ns : List ND) (hl : ¬ i < l) (hn : ns.length ≤ 3) : ∃ orc, Holds (fitOA (crt f g (.slice p l q) ns i) (some 0) (ev1 n6 (crt f g (.slice p l q) ns i) orc)) := by
  match ns, hn with
  | [], _ => exact ⟨_, g_X6_0 f g i p l q  hl⟩
  | [n1], _ => exact ⟨_, g_X6_1 f g i p l q n1 hl⟩
  | [n1, n2], _ => exact ⟨_, g_X6_2 f g i p l q n1 n2 hl⟩
  | [n1, n2, n3], _ => exact ⟨_, g_X6_3 f g i p l q n1 n2 n3 hl⟩
  | _ :: _ :: _ :: _ :: _, h => exfalso; simp only [List.length_cons] at h; omega

theorem tN9 (f g i : Int) (p : Option Addr) (l q : Nat) (ns : List ND) (m : ND) (hn : ns.length ≤ 2) : ∃ orc, Holds (fitOA (crt f g (.slice p l q) (ns ++ [m]) i) none (ev1 n9 (crtM f g (.slice p l q) ns m i) orc)) := by
  match ns, hn with
  | [], _ => exact ⟨_, g_N9_0 f g i p l q  m⟩
  | [n1], _ => exact ⟨_, g_N9_1 f g i p l q n1 m⟩
  | [n1, n2], _ => exact ⟨_, g_N9_2 f g i p l q n1 n2 m⟩
  | _ :: _ :: _ :: _, h => exfalso; simp only [List.length_cons] at h; omega

theorem tN7 (f g i : Int) (p : Option Addr) (l q : Nat) (ns : List ND) (hi : 0 ≤ i) (hi2 : i < 10) (hn : 1 ≤ ns.length ∧ ns.length ≤ 3) : ∃ orc, Holds (fitOA (crt f g (.slice p l q) ns (i + 1)) none (ev1 n7 (crt f g (.slice p l q) ns i) orc)) := by
  match ns, hn with
  | [n1], _ => exact ⟨_, g_N7_1 f g i p l q n1 hi hi2⟩
  | [n1, n2], _ => exact ⟨_, g_N7_2 f g i p l q n1 n2 hi hi2⟩
  | [n1, n2, n3], _ => exact ⟨_, g_N7_3 f g i p l q n1 n2 n3 hi hi2⟩
  | [], h => simp at h
  | _ :: _ :: _ :: _ :: _, h => exfalso; simp only [List.length_cons] at h; omega

theorem tC (f g i : Int) (p : Option Addr) (l q : Nat) (ns : List ND) (h1 : 1 ≤ f) (h2 : f ≤ 127) (hn : ns.length ≤ 3) : ∃ orc, Holds (fitOA (pre f g ns) none (evN qC (crt f g (.slice p l q) ns i) orc)) := by
  match ns, hn with
  | [], _ => exact ⟨_, g_C_0 f g i p l q  h1 h2⟩
  | [n1], _ => exact ⟨_, g_C_1 f g i p l q n1 h1 h2⟩
  | [n1, n2], _ => exact ⟨_, g_C_2 f g i p l q n1 n2 h1 h2⟩
  | [n1, n2, n3], _ => exact ⟨_, g_C_3 f g i p l q n1 n2 n3 h1 h2⟩
  | _ :: _ :: _ :: _ :: _, h => exfalso; simp only [List.length_cons] at h; omega

theorem tG (f g : Int) (ns : List ND) (hn : ns.length ≤ 3) : ∃ orc, Holds (fitOA (head (bs0 f g) (SR.ask SR.new) SR.new ns []) none (ev1 q16 (pre f g ns) orc)) := by
  match ns, hn with
  | [], _ => exact ⟨_, g_G_0 f g ⟩
  | [n1], _ => exact ⟨_, g_G_1 f g n1⟩
  | [n1, n2], _ => exact ⟨_, g_G_2 f g n1 n2⟩
  | [n1, n2, n3], _ => exact ⟨_, g_G_3 f g n1 n2 n3⟩
  | _ :: _ :: _ :: _ :: _, h => exfalso; simp only [List.length_cons] at h; omega

theorem tB0 (f g i : Int) (p : Option Addr) (l q : Nat) (ns : List ND) (h1 : f < 1) (hn : ns.length ≤ 3) : ∃ orc, Holds (endO Tryz.prog Tryz.f4 (ev1 (tailC 5 bd) (crt f g (.slice p l q) ns i) orc)) := by
  match ns, hn with
  | [], _ => exact ⟨_, g_B0_0 f g i p l q  h1⟩
  | [n1], _ => exact ⟨_, g_B0_1 f g i p l q n1 h1⟩
  | [n1, n2], _ => exact ⟨_, g_B0_2 f g i p l q n1 n2 h1⟩
  | [n1, n2, n3], _ => exact ⟨_, g_B0_3 f g i p l q n1 n2 n3 h1⟩
  | _ :: _ :: _ :: _ :: _, h => exfalso; simp only [List.length_cons] at h; omega

theorem tB1 (f g i : Int) (p : Option Addr) (l q : Nat) (ns : List ND) (h1 : 127 < f) (hn : ns.length ≤ 3) : ∃ orc, Holds (endO Tryz.prog Tryz.f4 (ev1 (tailC 5 bd) (crt f g (.slice p l q) ns i) orc)) := by
  match ns, hn with
  | [], _ => exact ⟨_, g_B1_0 f g i p l q  h1⟩
  | [n1], _ => exact ⟨_, g_B1_1 f g i p l q n1 h1⟩
  | [n1, n2], _ => exact ⟨_, g_B1_2 f g i p l q n1 n2 h1⟩
  | [n1, n2, n3], _ => exact ⟨_, g_B1_3 f g i p l q n1 n2 n3 h1⟩
  | _ :: _ :: _ :: _ :: _, h => exfalso; simp only [List.length_cons] at h; omega

theorem tE (b : BS) (s : SR) (e : Int) (gs : List GV) (n0 : 0 ≤ b.now) (n1 : b.now ≤ 30000) (f1 : 1 ≤ b.f) (f2 : b.f + gs.length ≤ 128) (hh : b.h = topH b.f gs.length) (gv : Gv b.f gs) (hn : gs.length ≤ 3) :
    ∃ orc, Holds (endO Tryz.prog Tryz.f4 (ev1 qE (fin b e s gs) orc)) := by
  match gs, hn with
  | [], _ =>
    have f2 : b.f + 0 ≤ 128 := by simpa using f2
    have hh : b.h = 0 := hh
    by_cases h1 : b.g < 1
    · exact ⟨_, g_E_0_lo b s e  n0 n1 f1 f2 hh  h1⟩
    by_cases h2 : 127 < b.g
    · exact ⟨_, g_E_0_hi b s e  n0 n1 f1 f2 hh  h2⟩
    exact ⟨_, g_E_0_ok b s e  n0 n1 f1 f2 hh  (by omega) (by omega) (by omega)⟩
  | [g1], _ =>
    have f2 : b.f + 1 ≤ 128 := f2
    have hh : b.h = b.f + 0 := by rw [hh]; simp only [topH, List.length_cons, List.length_nil]; omega
    have q1 := gv 0 g1 rfl
    by_cases h1 : b.g < 1
    · exact ⟨_, g_E_1_lo b s e g1 n0 n1 f1 f2 hh q1.1 q1.2 h1⟩
    by_cases h2 : 127 < b.g
    · exact ⟨_, g_E_1_hi b s e g1 n0 n1 f1 f2 hh q1.1 q1.2 h2⟩
    by_cases h3 : b.g ≤ b.h
    · exact ⟨_, g_E_1_tw b s e g1 n0 n1 f1 f2 hh q1.1 q1.2 (by omega) (by omega) h3⟩
    exact ⟨_, g_E_1_ok b s e g1 n0 n1 f1 f2 hh q1.1 q1.2 (by omega) (by omega) (by omega)⟩
  | [g1, g2], _ =>
    have f2 : b.f + 2 ≤ 128 := f2
    have hh : b.h = b.f + 1 := by rw [hh]; simp only [topH, List.length_cons, List.length_nil]; omega
    have q1 := gv 0 g1 rfl
    have q2 := gv 1 g2 rfl
    by_cases h1 : b.g < 1
    · exact ⟨_, g_E_2_lo b s e g1 g2 n0 n1 f1 f2 hh q1.1 q1.2 q2.1 q2.2 h1⟩
    by_cases h2 : 127 < b.g
    · exact ⟨_, g_E_2_hi b s e g1 g2 n0 n1 f1 f2 hh q1.1 q1.2 q2.1 q2.2 h2⟩
    by_cases h3 : b.g ≤ b.h
    · exact ⟨_, g_E_2_tw b s e g1 g2 n0 n1 f1 f2 hh q1.1 q1.2 q2.1 q2.2 (by omega) (by omega) h3⟩
    exact ⟨_, g_E_2_ok b s e g1 g2 n0 n1 f1 f2 hh q1.1 q1.2 q2.1 q2.2 (by omega) (by omega) (by omega)⟩
  | [g1, g2, g3], _ =>
    have f2 : b.f + 3 ≤ 128 := f2
    have hh : b.h = b.f + 2 := by rw [hh]; simp only [topH, List.length_cons, List.length_nil]; omega
    have q1 := gv 0 g1 rfl
    have q2 := gv 1 g2 rfl
    have q3 := gv 2 g3 rfl
    by_cases h1 : b.g < 1
    · exact ⟨_, g_E_3_lo b s e g1 g2 g3 n0 n1 f1 f2 hh q1.1 q1.2 q2.1 q2.2 q3.1 q3.2 h1⟩
    by_cases h2 : 127 < b.g
    · exact ⟨_, g_E_3_hi b s e g1 g2 g3 n0 n1 f1 f2 hh q1.1 q1.2 q2.1 q2.2 q3.1 q3.2 h2⟩
    by_cases h3 : b.g ≤ b.h
    · exact ⟨_, g_E_3_tw b s e g1 g2 g3 n0 n1 f1 f2 hh q1.1 q1.2 q2.1 q2.2 q3.1 q3.2 (by omega) (by omega) h3⟩
    exact ⟨_, g_E_3_ok b s e g1 g2 g3 n0 n1 f1 f2 hh q1.1 q1.2 q2.1 q2.2 q3.1 q3.2 (by omega) (by omega) (by omega)⟩
  | _ :: _ :: _ :: _ :: _, h => exfalso; simp only [List.length_cons] at h; omega

theorem dQA : qA.all (dOk 216) = true := by kernel_rfl
theorem dQ5 : dOk 216 qB5 = true := by kernel_rfl
theorem dN6 : dOk 216 n6 = true := by kernel_rfl
theorem dN9 : dOk 216 n9 = true := by kernel_rfl
theorem dN7 : dOk 216 n7 = true := by kernel_rfl
theorem dQC : qC.all (dOk 216) = true := by kernel_rfl
theorem dQ16 : dOk 216 q16 = true := by kernel_rfl
theorem dQE : dOk 216 qE = true := by kernel_rfl
theorem dT5 : dOk 216 (tailC 5 bd) = true := by kernel_rfl
theorem dBd : dOk 216 bd = true := by kernel_rfl
theorem f4_body : Tryz.f4.body = some bd := by kernel_rfl
theorem f4_size : 3 + (Tryz.f4.ntmps - 3) = 216 := by kernel_rfl
theorem tail_split : tailC 5 bd = joinC qC (.seq (.seq q16 (.block 2 (.loop mB))) qE) := by kernel_rfl

def countN (n : Nat) (act : Act) (_ : World) : Nat := match act.tmps.getD 10 undef with
  | .int _ i => n - i.toNat
  | _ => 0

theorem countN_eq {n : Nat} {ρ : Env} {f g : Int} {v : Value} {ns : List ND} {i : Nat} {act : Act} (w : World) (hf : FR ρ 216 ⟨mkF (crt f g v ns i).tms, []⟩ act) : countN n act w = n - i := by
  have := hf.tm 10 (.sint .i64 i) (by kernel_rfl)
  simp only [rel_sint] at this
  simp only [countN, this, Int.toNat_natCast]

set_option maxRecDepth 100000 in
theorem walkG (f g : Int) (p : Option Addr) (l q : Nat) (W : World)
    (hcell : ∀ k, k < l → ∃ B off z0 z1 z2 z3, p = some ⟨B, off, none⟩ ∧ B < W.heap.size ∧ W.cell? ⟨B, off + k * 4, none⟩ = some (.int .u32 z0) ∧ W.cell? ⟨B, off + k * 4 + 1, none⟩ = some (.int .u32 z1) ∧
      W.cell? ⟨B, off + k * 4 + 2, none⟩ = some (.int .u32 z2) ∧ W.cell? ⟨B, off + k * 4 + 3, none⟩ = some (.int .u32 z3)) :
    Calls Tryz.prog 4 #[.slice p l q, .int .u8 f, .int .u8 g] W fun e W' => e = .returned (.bool true) ∧ Still W W' := by
  refine calls_of_wp Tryz.func4 f4_body ?_
  have hrel : relL (fun _ => none) [.raw (.slice p l q), .sint .u8 f, .sint .u8 g] [.slice p l q, .int .u8 f, .int .u8 g] := by
    rw [relL_cons]; refine ⟨_, _, rfl, by rw [rel_raw]; exact ⟨rfl, rfl⟩, ?_⟩
    rw [relL_cons]; refine ⟨_, _, rfl, by simp, ?_⟩
    rw [relL_cons]; exact ⟨_, _, rfl, by simp, by simp⟩
  have hfr : FR (fun _ => none) 216 (frO f g (.slice p l q)) _ := f4_size ▸ frame_rel (fn := Tryz.f4) hrel
  have g0 : ∀ orc, Got W (fun _ => none) { sE with orc } W := fun orc => Got.init _ W
  by_cases hl : 3 < l
  · exact code_endA hK mixed dBd (g_IN f g p l q hl) (g0 _) hfr
  rw [bd_split]
  refine chunkA hK mixed dQA (g_IA f g p l q (by omega)) (g0 _) hfr fun ρ1 a1 w1 _ g1 f1 => ?_
  refine wp_seq (wp_seq ?_)
  refine code_fitH hK mixed (x := none) dQ5 ((g_I5 f g p l q).cast (congrArg (fitOA _ none) (ev1_eq _ _ _))) g1.notes f1 fun ρ2 a2 w2 _ g2 f2 => ?_
  refine wp_block ?_
  refine wp_loop (fun act w => ∃ (ρ : Env) (ns : List ND) (i : Nat), Got W ρ ⟨(crt f g (.slice p l q) ns i).heap, pZ, [], True⟩ w ∧ FR ρ 216 ⟨mkF (crt f g (.slice p l q) ns i).tms, []⟩ act ∧ ns.length = i ∧ i ≤ l ∧ (∀ m ∈ ns, m.c = false)) (countN l)
    ⟨ρ2, [], 0, g2.notes, f2, rfl, by omega, by simp⟩ ?_
  rintro act w ⟨ρ, ns, i, hg, hf, hni, hi, hnc⟩
  rw [nB_split]
  refine wp_seq ?_
  by_cases hlt : i < l
  · obtain ⟨o6, h6⟩ := tN6 f g i p l q ns (by omega) (by omega)
    refine code_fitH hK mixed (x := none) dN6 (h6.cast (congrArg (fitOA _ none) (ev1_eq _ _ _))) hg.notes hf fun ρ3 a3 w3 _ g3 f3 => ?_
    refine wp_seq (wp_block (wp_seq ?_))
    obtain ⟨B, off, z0, z1, z2, z3, hp, hB, c0, c1, c2, c3⟩ := hcell i hlt
    subst hp
    have hcl : ∀ k, w3.cell? ⟨B, k, none⟩ = W.cell? ⟨B, k, none⟩ := fun k => by
      have := g3.frame B hB
      simp only [World.cell?, this]
    refine r8 (hK := hK) g3 f3 hlt (by omega) (by rw [hcl]; exact c0) (by rw [hcl]; exact c1) (by rw [hcl]; exact c2) (by rw [hcl]; exact c3) fun ρ4 a4 w4 _ g4 f4 => ?_
    obtain ⟨o9, h9⟩ := tN9 f g i (some ⟨B, off, none⟩) l q ns (newN z0 z1 z2 z3) (by omega)
    refine code_fitH hK mixed (x := none) dN9 (h9.cast (congrArg (fitOA _ none) (ev1_eq _ _ _))) g4.notes f4 fun ρ5 a5 w5 _ g5 f5 => ?_
    show n7.wp _ _ _ _
    obtain ⟨o7, h7⟩ := tN7 f g i (some ⟨B, off, none⟩) l q (ns ++ [newN z0 z1 z2 z3]) (by omega) (by omega) (by simp; omega)
    refine code_fitH hK mixed (x := none) dN7 (h7.cast (congrArg (fitOA _ none) (ev1_eq _ _ _))) g5.notes f5 fun ρ6 a6 w6 _ g6 f6 => ?_
    refine ⟨⟨ρ6, ns ++ [newN z0 z1 z2 z3], i + 1, g6.notes, f6, by simp [hni], by omega, ?_⟩, ?_⟩
    · intro m hm
      simp only [List.mem_append, List.mem_singleton] at hm
      rcases hm with hm | rfl
      · exact hnc m hm
      · rfl
    · rw [countN_eq w hf, countN_eq (i := i + 1) w6 f6]
      omega
  · obtain ⟨o6, h6⟩ := tX6 f g i p l q ns (by omega) (by omega)
    refine code_fitH hK mixed (x := some 0) dN6 (h6.cast (congrArg (fitOA _ (some 0)) (ev1_eq _ _ _))) hg.notes hf fun ρ3 a3 w3 _ g3 f3 => ?_
    show (joinC qC (.seq (.seq q16 (.block 2 (.loop mB))) qE)).wp _ _ _ _
    by_cases h1 : f < 1
    · rw [← tail_split]
      obtain ⟨o, h⟩ := tB0 f g i p l q ns h1 (by omega)
      exact code_endA hK mixed dT5 (h.cast (congrArg (endO Tryz.prog Tryz.f4) (ev1_eq _ _ _))) g3.notes f3
    by_cases h2 : 127 < f
    · rw [← tail_split]
      obtain ⟨o, h⟩ := tB1 f g i p l q ns h2 (by omega)
      exact code_endA hK mixed dT5 (h.cast (congrArg (endO Tryz.prog Tryz.f4) (ev1_eq _ _ _))) g3.notes f3
    obtain ⟨oc, hc⟩ := tC f g i p l q ns (by omega) (by omega) (by omega)
    refine chunkA hK mixed dQC (hc.cast (congrArg (fitOA _ none) (evN_eq _ _ _))) g3.notes f3 fun ρ4 a4 w4 _ g4 f4 => ?_
    refine wp_seq (wp_seq ?_)
    obtain ⟨og, hgg⟩ := tG f g ns (by omega)
    refine code_fitH hK mixed (x := none) dQ16 (hgg.cast (congrArg (fitOA _ none) (ev1_eq _ _ _))) g4.notes f4 fun ρ5 a5 w5 _ g5 f5 => ?_
    refine wp_block ?_
    refine loop_ok (f0 := f) (g0 := g) (n := ns.length) (by omega) (b := bs0 f g) (ph := SR.ask SR.new) (s := SR.new) (ns := ns) (gs := []) g5.notes f5 ⟨rfl, rfl, rfl, Int.le_refl 0, rfl, fun i x hx => by simp at hx, by omega⟩ ?_ ?_
    · refine ⟨⟨rfl, rfl, ?_, ?_, rfl⟩, hnc, ⟨by decide, by decide, by decide, by decide, fun _ => rfl, rfl, rfl⟩, by simp, ?_⟩
      · show f = f + ((0 : Nat) : Int); omega
      · show f ≤ 127; omega
      · show (0 : Int) ≤ 136 * ((0 : Nat) : Int) + 33 * 0 + 32 - 32; omega
    · intro ρ' a' w' b e s gs g6 f6 ef eg hn0 hn1 hgv hgl hh hf128
      subst ef
      show qE.wp _ _ _ _
      obtain ⟨o, h⟩ := tE b s e gs hn0 hn1 (by omega) hf128 hh hgv hgl
      exact code_endA hK mixed dQE (h.cast (congrArg (endO Tryz.prog Tryz.f4) (ev1_eq _ _ _))) g6.notes f6
end Go.Proofs.YtpdgklkcjegkfaaGreat
