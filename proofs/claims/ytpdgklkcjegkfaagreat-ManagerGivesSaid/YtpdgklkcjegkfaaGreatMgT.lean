/-
  campanilelaw24.ManagerGives: called with any arguments that can be read, it returns true and changes nothing that was there. Conditions: none beyond the given statement's own.
-/
import Derived.Test.YtpdgklkcjegkfaaGreatMgS
import Derived.ProofKit
import Derived.Carry
import Derived.Deep.Slices
import Derived.Laws.IdiomArrays
set_option linter.unusedSimpArgs false
set_option linter.unusedVariables false
namespace Go.Proofs.YtpdgklkcjegkfaaGreat
open Go Go.Sx Go.ChangeShapes Go.WideShapes Go.ChangeAt Go.RowKit

theorem ownN : ownKnob Tryz.prog.godebug = none := by kernel_rfl
theorem laidN : laidOutB Tryz.prog = true := by kernel_rfl
theorem und4 : Tryz.prog.underlying 4 = some .bool := by kernel_rfl
theorem und5 : Tryz.prog.underlying 5 = some (.int .u8) := by kernel_rfl
theorem und29 : Tryz.prog.underlying 29 = some (.array 4 27) := by kernel_rfl
theorem undE : Tryz.prog.underlying 27 = some (.int .u32) := by kernel_rfl
theorem cellsE : Tryz.prog.cellsOf 27 = 1 := by kernel_rfl
theorem cells29 : Tryz.prog.cellsOf 29 = 4 := by kernel_rfl

theorem below_still {w w' : World} (h : Still w w') : Below w.heap.size w w' := ⟨h.2.2.1, h.2.2.2.1, h.2.2.2.2, h.1, h.2.1⟩

theorem list_four : ∀ l : List Value, l.length = 4 → ∃ a b c d, l = [a, b, c, d]
  | [a, b, c, d], _ => ⟨a, b, c, d, rfl⟩

theorem ids_in {H : Type} {enc : TypeId × Value → H} {W : World} {a0 : Option Addr} {len cap fuel : Nat} {d : DataW H} {ps : List MemPlace}
    (hf : DataW.trod enc Tryz.prog W 0 (fun _ => true) true fuel 51 [.slice a0 len cap] = some (d, ps)) (hlt : ∀ x ∈ ps, x.block < W.heap.size) :
    ∀ k, k < len → ∃ B off z0 z1 z2 z3, a0 = some ⟨B, off, none⟩ ∧ B < W.heap.size ∧ W.cell? ⟨B, off + k * 4, none⟩ = some (.int .u32 z0) ∧ W.cell? ⟨B, off + k * 4 + 1, none⟩ = some (.int .u32 z1) ∧
      W.cell? ⟨B, off + k * 4 + 2, none⟩ = some (.int .u32 z2) ∧ W.cell? ⟨B, off + k * 4 + 3, none⟩ = some (.int .u32 z3) := by
  intro k hk
  rcases Go.Deep.open_slice und51 hf with ⟨hcs, _⟩ | ⟨a, len', cap', m, n, D, Pl, hcs, _, hl, _, hm, hx, hel⟩
  · simp at hcs
    obtain ⟨_, rfl, _⟩ := hcs
    omega
  · simp at hcs
    obtain ⟨rfl, rfl, rfl⟩ := hcs
    simp only [if_true] at hm
    subst hm
    simp only [Prod.mk.injEq] at hx
    have hps := hx.2
    rw [hps] at hlt
    obtain ⟨cs, hcell, htr⟩ := hel k (by omega)
    rw [cells29] at hcell
    obtain ⟨_, hlen, hc⟩ := World.cells?_some hcell
    obtain ⟨c0, c1, c2, c3, rfl⟩ := list_four cs hlen
    obtain ⟨y0, y1, y2, y3, q, _, t0, t1, t2, t3⟩ := trod_array4 und29 cellsE htr
    obtain ⟨x0, e0, _, _⟩ := DataW.trod_int undE t0
    obtain ⟨x1, e1, _, _⟩ := DataW.trod_int undE t1
    obtain ⟨x2, e2, _, _⟩ := DataW.trod_int undE t2
    obtain ⟨x3, e3, _, _⟩ := DataW.trod_int undE t3
    simp at e0 e1 e2 e3
    subst e0 e1 e2 e3
    have h0 := hc 0 (by omega)
    have h1 := hc 1 (by omega)
    have h2 := hc 2 (by omega)
    have h3 := hc 3 (by omega)
    obtain ⟨b, off, spot⟩ := a
    have hspot : spot = none := by
      obtain ⟨cs0, hcell0, _⟩ := hel 0 (by omega)
      rw [cells29] at hcell0
      obtain ⟨_, hlen0, hc0⟩ := World.cells?_some hcell0
      obtain ⟨b0, b1, b2, b3, rfl⟩ := list_four cs0 hlen0
      have h00 := hc0 0 (by omega)
      simpa [Addr.add] using World.cell?_spot h00
    subst hspot
    simp only [addr_add] at h0 h1 h2 h3
    refine ⟨b, off, x0, x1, x2, x3, rfl, hlt (.cell b off) (List.mem_append.2 (.inl (MemPlace.mem_row.2 ⟨0, by rw [cells29]; omega, by simp⟩))), ?_, ?_, ?_, ?_⟩
    · simpa [cells29] using h0
    · simpa [cells29] using h1
    · simpa [cells29] using h2
    · simpa [cells29] using h3

set_option maxRecDepth 100000 in
theorem gives_lifted (os : Os) (started : os.Started) (H : Type) (enc : TypeId × Value → H) :
    ReturnsInHanded {} Tryz.checked os 4 .any (Rows.managerGivesSpec.pre6 enc Tryz.prog Tryz.f4 Rows.managerGivesRow.domain false) (Rows.managerGivesSpec.post enc Tryz.prog Tryz.f4 false true false false) := by
  refine returnsInHanded_of_change (C := Tryz.checked) ownN started (by kernel_rfl) Tryz.func4
    (ChangeSpec.witness6 (enc := enc) (C := Tryz.checked) false ⟨#[], #[.slice none 0 0, .int .u8 0, .int .u8 0], []⟩ 8 (by kernel_rfl) (by kernel_rfl) (by kernel_rfl) (by kernel_rfl)) ?_
  intro W base args ds gs before hval0 hW hcnd _
  have hval : ∀ (j : Nat) t v, Tryz.f4.params[j]? = some t → args[j]? = some v → Value.okWide Tryz.prog W .any base t v := hval0
  have hW' := hW
  obtain ⟨p, q, hA0, hV, rfl, hfz, hnd⟩ := hW
  have hA : DataW.TrodAll enc Tryz.prog W 0 (fun _ => true) true Tryz.f4.params.toList args.toList ds p := hA0
  rw [Tryz.params4] at hA hval
  obtain ⟨v0, v1, v2, d0, d1, d2, p0, p1, p2, rfl, rfl, rfl, h0, h1, h2⟩ := trodAll_three hA
  obtain ⟨rfl, rfl⟩ := trodVars_none hV
  obtain ⟨a0, len, cap, rfl⟩ := okWide_slice und51 (hval 0 51 v0 rfl rfl)
  obtain ⟨f, rfl, rfl, rfl, wf⟩ := open_int und5 (hval 1 5 v1 rfl rfl) h1
  obtain ⟨g, rfl, rfl, rfl, wg⟩ := open_int und5 (hval 2 5 v2 rfl rfl) h2
  have h0k := h0
  obtain ⟨fuel, hf⟩ := h0
  clear hA0 hval0
  simp only [List.append_nil, List.nil_append] at hW'
  have hlt : ∀ x ∈ p0, x.block < W.heap.size := fun x hx => by simpa using hW'.lt x (by simpa using hx)
  have hcell := ids_in hf hlt
  refine (walkG f g a0 len cap W hcell).mono fun e W' ⟨he, hs⟩ => ?_
  subst he
  have hb := below_still hs
  refine ⟨_, rfl, _, _, _, [], p0 ++ ([] ++ []), [], hW', trodAll_mk1 (shut_bool und4 true), ?_, rfl, hb.frame _, fun h => by cases h⟩
  exact trodAll_mk3 (Below.trod laidN (by kernel_rfl) (of_decide_eq_true (by kernel_rfl)) h0k hb hlt) (shut_int und5 wf) (shut_int und5 wg)

theorem gives_holds : Rows.ManagerGivesSaid :=
  OpenClaim.holds_of_wide 4 Tryz.f4 rfl rfl rfl rfl rfl rfl rfl ⟨rfl, rfl, rfl, rfl, rfl⟩ rfl rfl rfl rfl rfl (by kernel_rfl) Tryz.func4 (by kernel_rfl)
    (of_decide_eq_true (by kernel_rfl)) (by unfold Func.isWrapper; first | (rw [if_pos (by decide +kernel)]; kernel_rfl) | (rw [if_neg (by decide +kernel)]; exact ⟨rfl, rfl⟩))
    (fun os started H enc _ => gives_lifted os started H enc)
end Go.Proofs.YtpdgklkcjegkfaaGreat
