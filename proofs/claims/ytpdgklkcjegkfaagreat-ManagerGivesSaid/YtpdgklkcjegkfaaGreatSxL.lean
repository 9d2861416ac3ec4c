/-
  A symbolic executor for the model's code, part L: copy, of abstract memory.
-/
import Derived.Test.YtpdgklkcjegkfaaGreatSxK
namespace Go.Sx
open Go

section
variable {P : Program} {ρ : Env} {s : AS} {w : World}

theorem copy_run (hr : R ρ s w) {e dType ty : TypeId} {dst src v : AV} {s' : AS} {dv xv : Value} {argTypes : Array TypeId} (h : copyA P e dst src s = .v v s')
    (h0 : argTypes[0]? = some dType) (hs : P.underlying dType = some (.slice e)) (hb : rel ρ dst dv) (hxr : rel ρ src xv) :
    ∃ rv ρ' w', (Builtin.copy_ argTypes ty #[dv, xv]).run P w = .ok rv w' ∧ rel ρ' v rv ∧ Step ρ s w ρ' s' w' ∧ s'.cons = s.cons := by
  unfold copyA at h
  split at h
  · simp at h
  · rename_i size hsz
    split at h
    · split at h
      · rename_i q hel
        obtain ⟨n, new⟩ := q
        simp only [OR.v.injEq] at h
        obtain ⟨rfl, rfl⟩ := h
        simp at hb; subst hb
        obtain ⟨hlen, vs, hvs, hvr, hvl⟩ := elems_run (P := P) hr hel hxr
        refine ⟨.int .i64 0, ρ, w, ?_, by simp, Step.refl hr, rfl⟩
        have hf : ∃ c : Array Value, (Builtin.firstCells size 0 xv).run P w = .ok c w := by
          unfold elemsOf at hel
          split at hel
          · simp at hxr; subst hxr; exact ⟨_, by simp [Builtin.firstCells]; rfl⟩
          · rw [rel_slc] at hxr; obtain ⟨_, _, _, _, rfl, _⟩ := hxr
            exact ⟨#[], by simp [Builtin.firstCells, run_loadCells_zero]⟩
          · simp at hxr; subst hxr; exact ⟨_, by simp [Builtin.firstCells]; rfl⟩
          · simp at hel
        obtain ⟨c, hc⟩ := hf
        unfold Builtin.copy_
        simp only [h0, List.getElem?_toArray, List.getElem?_cons_zero, List.getElem?_cons_succ, Sem.run_bind, run_underlying hs, Result.andThen_ok, run_sz hsz, hlen, Nat.min_zero, hc, Sem.run_pure]
        simp [goInt]
      · simp at h
    · rename_i i o dl c
      split at h
      · simp at h
      · rename_i n l hel
        split at h
        · simp at h
        · rename_i cs hcs
          split at h
          · simp at h
          · rename_i l' hl'
            rw [cond_eq_ite] at h
            split at h
            · simp at h
            rename_i hone0
            have hone0 : oneAll l' = true := by simpa using hone0
            split at h
            · rename_i zs hzs
              simp only [OR.v.injEq] at h
              obtain ⟨rfl, rfl⟩ := h
              rw [rel_slc] at hb
              obtain ⟨ll, off, rc, hl, rfl, hle, hoff, hc⟩ := hb
              obtain ⟨hlen, _⟩ := elems_run (P := P) hr hel hxr
              -- the first of what is copied
              have hfirst : ∃ vs, (Builtin.firstCells size (min n dl) xv).run P w = .ok vs.toArray w ∧ relL ρ l' vs := by
                unfold elemsOf at hel
                split at hel
                · simp only [Option.some.injEq, Prod.mk.injEq] at hel
                  obtain ⟨rfl, rfl⟩ := hel
                  simp at hxr; subst hxr
                  simp [takeN] at hl'
                  subst hl'
                  exact ⟨[], by simp [Builtin.firstCells], by simp⟩
                · rename_i j q m c'
                  rw [rel_slc] at hxr
                  obtain ⟨l2, off2, rc2, hl2, rfl, hn2, hoff2, hc2⟩ := hxr
                  split at hel
                  · simp at hel
                  · rename_i cs2 hcs2
                    split at hel
                    · rename_i xs hxs
                      simp only [Option.some.injEq, Prod.mk.injEq] at hel
                      obtain ⟨rfl, rfl⟩ := hel
                      have hz : (min m dl) * size = 0 ∨ off2 = l2.base + q := by
                        rcases hoff2 with e | e
                        · left; have : m = 0 := by omega
                          subst this; simp
                        · exact .inr e
                      obtain ⟨C, E, fr, L, g1, g2, g3, g4, g5, g6⟩ := hr.lookup hcs2 hl2
                      have a1 := relL_slice g4 hxs
                      have a2 := relL_take _ a1.2 hl'
                      have hmin : (min m dl) * size ≤ m * size := Nat.mul_le_mul (Nat.min_le_left _ _) (Nat.le_refl _)
                      have htk : ((L.drop q).take (m * size)).take ((min m dl) * size) = (L.drop q).take ((min m dl) * size) := by
                        rw [List.take_take, Nat.min_eq_left hmin]
                      rw [htk] at a2
                      refine ⟨_, ?_, a2.2⟩
                      have hlenq : ((L.drop q).take ((min m dl) * size)).length = (min m dl) * size := by simp; omega
                      show (loadCells _ _).run P w = _
                      rcases hz with e | e
                      · rw [e, run_loadCells_zero]; simp
                      · subst e
                        have := run_loadCells_list (P := P) w ⟨l2.b, l2.base + q, none⟩ ((L.drop q).take ((min m dl) * size)) (fun j v hj => by
                          rw [addr_add, cell_at g1]
                          have hj' := (List.getElem?_eq_some_iff.1 hj).1
                          rw [hlenq] at hj'
                          have : C[l2.base + (q + j)]? = L[q + j]? := g6 (q + j) (by omega)
                          rw [Nat.add_assoc, this]
                          rw [List.getElem?_take_of_lt hj', List.getElem?_drop] at hj
                          exact hj)
                        rwa [hlenq] at this
                    · simp at hel
                · rename_i b
                  rw [cond_eq_ite] at hel
                  split at hel
                  · rename_i hs1
                    have hs1 := Nat.eq_of_beq_eq_true hs1
                    subst hs1
                    simp only [Option.some.injEq, Prod.mk.injEq] at hel
                    obtain ⟨rfl, rfl⟩ := hel
                    simp at hxr; subst hxr
                    have a2 := relL_take _ (bytes_rel (ρ := ρ) b.data.toList) hl'
                    refine ⟨_, ?_, a2.2⟩
                    simp only [Builtin.firstCells, Sem.run_pure, Nat.mul_one]
                    congr 1
                    apply Array.ext'
                    simp
                  · simp at hel
                · simp at hel
              obtain ⟨vs, hv1, hv2⟩ := hfirst
              have hvl : vs.length = (min n dl) * size := by
                rw [← relL_length hv2]
                clear hv1 hv2 hzs hone0
                have : ∀ (k : Nat) (a b : List AV), takeN k a = some b → b.length = k := by
                  intro k
                  induction k with
                  | zero => intro a b h; simp [takeN] at h; subst h; rfl
                  | succ k ih =>
                    intro a b h
                    cases a with
                    | nil => simp [takeN] at h
                    | cons x a =>
                      simp only [takeN] at h
                      split at h
                      · simp at h
                      · rename_i z hz; simp at h; subst h; simp [ih _ _ hz]
                exact this _ _ _ hl'
              have hfin : ∃ w', (storeCells ⟨ll.b, off, none⟩ vs).run P w = .ok () w' ∧ Step ρ s w ρ (s.put i (.cells zs)) w' := by
                rcases hoff with e | e
                · have hd0 : dl = 0 := by omega
                  subst hd0
                  have hv0 : vs = [] := by cases vs; rfl; simp at hvl
                  subst hv0
                  obtain ⟨w', g1, g2⟩ := store_over (P := P) hr hl hcs hv2 (by simp) hzs
                  simp [storeCells] at g1
                  subst g1
                  exact ⟨w, by simp [storeCells], g2⟩
                · subst e
                  exact store_over (P := P) hr hl hcs hv2 (oneAll_rel hone0 hv2) hzs
              obtain ⟨w', g1, g2⟩ := hfin
              refine ⟨.int .i64 (min n dl : Nat), ρ, w', ?_, by simp, g2, rfl⟩
              unfold Builtin.copy_
              simp only [h0, List.getElem?_toArray, List.getElem?_cons_zero, List.getElem?_cons_succ, Sem.run_bind, run_underlying hs, Result.andThen_ok, run_sz hsz, hlen, Sem.run_pure]
              have hv1' : (Builtin.firstCells size (Nat.min n dl) xv).run P w = .ok vs.toArray w := hv1
              simp only [hv1', Result.andThen_ok, g1]
              rfl
            · simp at h
    · simp at h
end
end Go.Sx
