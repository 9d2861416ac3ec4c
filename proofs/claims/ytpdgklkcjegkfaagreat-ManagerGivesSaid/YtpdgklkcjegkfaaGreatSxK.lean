/-
  A symbolic executor for the model's code, part K: append and copy, of abstract memory.
-/
import Derived.Test.YtpdgklkcjegkfaaGreatSxJ
namespace Go.Sx
open Go

section
variable {P : Program} {ρ : Env} {s : AS} {w : World}

theorem get_of_cellsAt {i : Pos} {cs : List AV} (hc : s.cellsAt i = some cs) : PT.get i s.heap = some (.cells cs) := by
  unfold AS.cellsAt at hc
  split at hc
  · rename_i cs' hg; simp at hc; subst hc; exact hg
  · simp at hc

/-- A block that is appended to where it has room: from now on another abstract block stands for it. -/
theorem step_regrow (h : R ρ s w) {i : Pos} {l : Loc} (hl : ρ i = some l) {cs0 cs : List AV} (hc : s.cellsAt i = some cs0) {L : List Value} (hr : relL ρ cs L) {o : Nat}
    {C : Array Value} {E : TypeId} {fr : Nat × Nat} (hfr : fr.2 ≤ fr.1 ∨ C.size ≤ fr.1) (hsz : C.size = l.size) (hC : l.base + o + L.length ≤ C.size)
    (hcells : ∀ k, k < L.length → C[l.base + o + k]? = L[k]?) {w' : World} (hw : w' = { w with heap := w.heap.setIfInBounds l.b (.cells C E fr) }) :
    Step ρ s w (ρ.put s.next ⟨l.b, l.base + o, l.size⟩) ((s.put i .dead).new (.cells cs)) w' := by
  subst hw
  have hg := get_of_cellsAt hc
  have hlb := (h.dom i l hl).2
  have hlive : Live ρ s l.b := ⟨i, _, l, hg, rfl, hl, rfl⟩
  have hnew : ρ s.next = none := by
    cases e : ρ s.next with
    | none => rfl
    | some l => have := (h.dom _ _ e).1; omega
  have hin : i ≠ s.next := by intro e; subst e; rw [hnew] at hl; cases hl
  have hsub : Sub ρ (ρ.put s.next ⟨l.b, l.base + o, l.size⟩) := fun j l' e => by
    unfold Env.put
    by_cases hj : j = s.next
    · subst hj; rw [hnew] at e; cases e
    · rw [if_neg hj]; exact e
  have key : ∀ j o, j ≠ s.next → PT.get j ((s.put i .dead).new (.cells cs)).heap = some o → (j = i ∧ o = .dead) ∨ (j ≠ i ∧ PT.get j s.heap = some o) := by
    intro j o hj e
    simp only [AS.new, AS.put, PT.get_set_other _ _ _ _ hj] at e
    by_cases hi : j = i
    · subst hi; rw [PT.get_set_same] at e; injection e with e; exact .inl ⟨rfl, e.symm⟩
    · rw [PT.get_set_other _ _ _ _ hi] at e; exact .inr ⟨hi, e⟩
  have knew : ∀ o, PT.get s.next ((s.put i .dead).new (.cells cs)).heap = some o → o = .cells cs := by
    intro o e
    have : (s.put i .dead).next = s.next := rfl
    simp only [AS.new, this, PT.get_set_same] at e
    injection e with e; exact e.symm
  refine ⟨⟨?_, ?_, ?_⟩, ?_, ?_, ?_, ?_, ?_, rfl, rfl, rfl⟩
  · intro j ob l' e hl'
    unfold Env.put at hl'
    by_cases hj : j = s.next
    · rw [if_pos hj] at hl'; injection hl' with hl'; subst hl'; subst hj
      rw [knew ob e]
      exact ⟨C, E, fr, L, by simp [hlb], hsz, hfr, relL.mono hsub _ _ hr, hC, hcells⟩
    · rw [if_neg hj] at hl'
      rcases key j ob hj e with ⟨_, rfl⟩ | ⟨hi, e'⟩
      · trivial
      · cases ob with
        | dead => trivial
        | cells c =>
          have hne : l.b ≠ l'.b := fun hb => hi (h.inj j i _ _ l' l e' rfl hg rfl hl' hl hb.symm)
          exact objRel_grow hsub (by simp [Array.getElem?_setIfInBounds_ne hne]) (h.ob j _ l' e' hl')
        | map c =>
          have hne : l.b ≠ l'.b := fun hb => hi (h.inj j i _ _ l' l e' rfl hg rfl hl' hl hb.symm)
          exact objRel_grow hsub (by simp [Array.getElem?_setIfInBounds_ne hne]) (h.ob j _ l' e' hl')
  · have own : ∀ j ob l', j ≠ s.next → PT.get j ((s.put i .dead).new (.cells cs)).heap = some ob → ob.live = true → ρ j = some l' → PT.get j s.heap = some ob ∧ l'.b ≠ l.b := by
      intro j ob l' hj e ho hl'
      rcases key j ob hj e with ⟨_, rfl⟩ | ⟨hi, e'⟩
      · cases ho
      · exact ⟨e', fun hb => hi (h.inj j i _ _ l' l e' ho hg rfl hl' hl hb)⟩
    intro j k ob ob' l1 l2 e ho e2 ho' hl1 hl2 hb
    unfold Env.put at hl1 hl2
    by_cases hj : j = s.next
    · by_cases hk : k = s.next
      · rw [hj, hk]
      · rw [if_pos hj] at hl1; rw [if_neg hk] at hl2
        injection hl1 with hl1; subst hl1
        exact absurd hb.symm (own k ob' l2 hk e2 ho' hl2).2
    · by_cases hk : k = s.next
      · rw [if_neg hj] at hl1; rw [if_pos hk] at hl2
        injection hl2 with hl2; subst hl2
        exact absurd hb (own j ob l1 hj e ho hl1).2
      · rw [if_neg hj] at hl1; rw [if_neg hk] at hl2
        exact h.inj j k ob ob' l1 l2 (own j ob l1 hj e ho hl1).1 ho (own k ob' l2 hk e2 ho' hl2).1 ho' hl1 hl2 hb
  · intro j l' hl'
    unfold Env.put at hl'
    by_cases hj : j = s.next
    · rw [if_pos hj] at hl'; injection hl' with hl'; subst hl'; subst hj
      simpa [AS.new, AS.put, Pos.nat_succ] using hlb
    · rw [if_neg hj] at hl'
      have := h.dom j l' hl'
      simp [AS.new, AS.put, Pos.nat_succ]; omega
  · intro j hj
    unfold Env.put
    rw [if_neg (fun e => by subst e; omega)]
  · simp [AS.new, AS.put, Pos.nat_succ]
  · rintro b ⟨j, ob, l', e, ho, hl', rfl⟩
    unfold Env.put at hl'
    by_cases hj : j = s.next
    · rw [if_pos hj] at hl'; injection hl' with hl'; subst hl'; exact .inr hlive
    · rw [if_neg hj] at hl'
      rcases key j ob hj e with ⟨_, rfl⟩ | ⟨hi, e'⟩
      · cases ho
      · exact .inr ⟨j, ob, l', e', ho, hl', rfl⟩
  · simp
  · intro b hb hnl
    have : l.b ≠ b := fun e => hnl (e ▸ hlive)
    simp [Array.getElem?_setIfInBounds_ne this]

theorem new_slc {C : Array Value} {n newCap size : Nat} (hC : C.size = newCap * size) (hn : n ≤ newCap) (next : Pos) (b : Nat) :
    rel (ρ.put next ⟨b, 0, C.size⟩) (.slc next 0 n (.toEnd size)) (.slice (some ⟨b, 0, none⟩) n newCap) := by
  rw [rel_slc]
  exact ⟨⟨b, 0, C.size⟩, 0, newCap, by simp [Env.put], rfl, hn, .inr rfl, .inr (by simp [hC])⟩

theorem append_run (hr : R ρ s w) {e sType xType ty : TypeId} {base x v : AV} {s' : AS} {bv xv : Value} {argTypes : Array TypeId} {d : TypeDesc} (h : appendA P e base x s = .v v s')
    (h0 : argTypes[0]? = some sType) (h1 : argTypes[1]? = some xType) (hs : P.underlying sType = some (.slice e)) (hx : P.underlying xType = some d) (hd : ∀ k, d ≠ .int k)
    (hb : rel ρ base bv) (hxr : rel ρ x xv) :
    ∃ rv ρ' w', (Builtin.append_ argTypes ty #[bv, xv]).run P w = .ok rv w' ∧ rel ρ' v rv ∧ Step ρ s w ρ' s' w' ∧ s'.cons = s.cons := by
  unfold appendA at h
  split at h
  · rename_i size bytes z hsz hby hz
    simp only [cond_eq_ite] at h
    split at h
    · simp at h
    · rename_i hcnd
      simp only [Bool.or_eq_true, not_or, Bool.not_eq_true', Bool.not_eq_true] at hcnd
      obtain ⟨⟨⟨c1, c2⟩, c3⟩, c4⟩ := hcnd
      have hb0 : bytes ≠ 0 := by intro e; subst e; simp at c3
      have hb1 : bytes < 1024 := by
        rcases Nat.lt_or_ge bytes 1024 with h | h
        · exact h
        · rw [Nat.ble_eq_true_of_le h] at c2; cases c2
      have hzl : z.cells.length = size := by
        cases hq : Nat.beq z.cells.length size with
        | true => exact Nat.eq_of_beq_eq_true hq
        | false => rw [hq] at c4; simp at c4
      split at h
      · simp at h
      · rename_i n new hel
        split at h
        · simp at h
        rename_i hone0
        have hone0 : oneAll new = true := by simpa using hone0
        obtain ⟨hlen, vs, hvs, hvr, hvl⟩ := elems_run (P := P) hr hel hxr
        obtain ⟨_, vs2, hvs2, hvr2, hvl2⟩ := elems_run (P := P) (hr.drawn (w.drawn + 1)) hel hxr
        split at h
        · rename_i hn
          have hn := Nat.eq_of_beq_eq_true hn
          subst hn
          have hnil : vs = [] := by cases vs; rfl; simp at hvl
          subst hnil
          split at h
          · simp only [OR.v.injEq] at h
            obtain ⟨rfl, rfl⟩ := h
            simp at hb; subst hb
            refine ⟨_, ρ, w, run_append_room (P := P) (w' := w) h0 h1 hs hx hd hsz hlen hvs (Nat.le_refl _) (by simp), by simp, Step.refl hr, rfl⟩
          · rename_i i o len c
            simp only [OR.v.injEq] at h
            obtain ⟨rfl, rfl⟩ := h
            have hb' := hb
            rw [rel_slc] at hb'
            obtain ⟨l, off, rc, hl, rfl, hle, hoff, hc⟩ := hb'
            refine ⟨_, ρ, w, run_append_room (P := P) (w' := w) h0 h1 hs hx hd hsz hlen hvs (by omega) (by simp [storeCells]), by simpa using hb, Step.refl hr, rfl⟩
          · simp at h
        · rename_i hn
          have hn0 : n ≠ 0 := by intro e; subst e; simp at hn
          split at h
          · split at h
            · rename_i hmax
              have hmax := Nat.le_of_ble_eq_true hmax
              simp only [OR.v.injEq] at h
              obtain ⟨rfl, rfl⟩ := h
              simp at hb; subst hb
              obtain ⟨nc, C, g1, g2, g3, g4⟩ := run_append_grow (P := P) (ty := ty) (os := []) (cap := 0) (len := 0) (a := none) h0 h1 hs hx hd hsz hby hb0 hb1 hz hzl hlen hvs2 (by simp [Builtin.firstCells]) (by simp) hvl2 (by omega) (by omega)
              simp only [List.nil_append, Nat.zero_add] at g1 g3 g4
              refine ⟨_, _, _, g4, new_slc (ρ := ρ) g2 g1 s.next w.heap.size, ?_, rfl⟩
              exact step_new hr hvr2 (.inl (Nat.le_refl _)) (by rw [hvl2, g2]; exact Nat.mul_le_mul g1 (Nat.le_refl _)) g3 _
            · simp at h
          · rename_i i o len c
            split at h
            · rename_i hmax
              have hmax := Nat.le_of_ble_eq_true hmax
              rw [rel_slc] at hb
              obtain ⟨l, off, rc, hl, rfl, hle, hoff, hc⟩ := hb
              split at h
              · simp at h
              · rename_i cs hcs
                split at h
                · rename_i c
                  simp only [capOk] at hc
                  subst hc
                  split at h
                  · rename_i hfit
                    have hfit := Nat.le_of_ble_eq_true hfit
                    split at h
                    · rename_i zs hzs
                      simp only [OR.v.injEq] at h
                      obtain ⟨rfl, rfl⟩ := h
                      have hoff' := hoff.resolve_left (by omega)
                      subst hoff'
                      have hone := oneAll_rel hone0 hvr
                      obtain ⟨w', hst, hstep⟩ := store_over (P := P) hr hl hcs hvr hone hzs
                      refine ⟨_, ρ, w', run_append_room (P := P) (w' := w') h0 h1 hs hx hd hsz hlen hvs hfit ?_, ?_, hstep, rfl⟩
                      · simp only [addr_add]
                        rw [Nat.add_assoc]
                        exact hst
                      · rw [rel_slc]; exact ⟨l, _, _, hl, rfl, hfit, .inr rfl, rfl⟩
                    · simp at h
                  · rename_i hfit
                    have hfit : ¬ len + n ≤ rc := fun e => hfit (Nat.ble_eq_true_of_le e)
                    split at h
                    · rename_i old hold
                      simp only [OR.v.injEq] at h
                      obtain ⟨rfl, rfl⟩ := h
                      have hz0 : len * size = 0 ∨ off = l.base + o := by
                        rcases hoff with e | e
                        · left; have : len = 0 := by omega
                          subst this; simp
                        · exact .inr e
                      obtain ⟨os, f1, f2, f3⟩ := loadN (P := P) (hr.drawn (w.drawn + 1)) hl hcs hold hz0
                      obtain ⟨nc, C, g1, g2, g3, g4⟩ := run_append_grow (P := P) (ty := ty) (os := os) (a := some ⟨l.b, off, none⟩) h0 h1 hs hx hd hsz hby hb0 hb1 hz hzl hlen hvs2 f1 f3 hvl2 hfit hmax
                      refine ⟨_, _, _, g4, new_slc (ρ := ρ) g2 g1 s.next w.heap.size, ?_, rfl⟩
                      refine step_new hr (relL_append f2 hvr2) (.inl (Nat.le_refl _)) ?_ g3 _
                      rw [List.length_append, f3, hvl2, g2, ← Nat.add_mul]; exact Nat.mul_le_mul g1 (Nat.le_refl _)
                    · simp at h
                · rename_i zz
                  simp only [capOk] at hc
                  split at h
                  · rename_i hzz
                    have hzz := Nat.eq_of_beq_eq_true hzz
                    subst hzz
                    split at h
                    · rename_i old hold
                      simp only [OR.v.injEq] at h
                      obtain ⟨rfl, rfl⟩ := h
                      have hz0 : len * zz = 0 ∨ off = l.base + o := by
                        rcases hoff with e | e
                        · left; have : len = 0 := by omega
                          subst this; simp
                        · exact .inr e
                      by_cases hfit : len + n ≤ rc
                      · have hrc : rc ≠ 0 := by omega
                        have hoff' := hoff.resolve_left hrc
                        have hend := hc.resolve_left hrc
                        subst hoff'
                        obtain ⟨C, E, fr, L, q1, q2, q3, q4, q5, q6⟩ := hr.lookup hcs hl
                        have hsl := relL_slice q4 hold
                        have hone := oneAll_rel hone0 hvr
                        have hroomC : (l.base + o + len * zz) + 0 + vs.length ≤ C.size := by
                          have : len * zz + n * zz ≤ rc * zz := by rw [← Nat.add_mul]; exact Nat.mul_le_mul hfit (Nat.le_refl _)
                          rw [hvl, q2]; omega
                        obtain ⟨C', hrun, hsz', hk⟩ := run_storeCells_free (P := P) l.b (l.base + o + len * zz) E fr vs 0 C w q1 q3 hroomC hone
                        have hlenO : ((L.drop o).take (len * zz)).length = len * zz := by simp; omega
                        refine ⟨_, ρ.put s.next ⟨l.b, l.base + o, l.size⟩, _, run_append_room (P := P) h0 h1 hs hx hd hsz hlen hvs hfit (by simp only [addr_add]; exact hrun), ?_, ?_, rfl⟩
                        · rw [rel_slc]
                          refine ⟨⟨l.b, l.base + o, l.size⟩, l.base + o, rc, by simp [Env.put], rfl, hfit, .inr (by simp), .inr ?_⟩
                          simpa using hend
                        · refine step_regrow hr hl hcs (relL_append hsl.2 hvr) (by rw [hsz']; exact q3) (by rw [hsz', q2]) ?_ ?_ rfl
                          · rw [List.length_append, hlenO, hsz']; omega
                          · intro k hk'
                            rw [List.length_append, hlenO] at hk'
                            rw [hk (l.base + o + k)]
                            by_cases a : k < len * zz
                            · rw [if_neg (by omega), List.getElem?_append_left (by rw [hlenO]; exact a), List.getElem?_take_of_lt a, List.getElem?_drop, Nat.add_assoc, q6 (o + k) (by omega)]
                            · rw [if_pos (by omega), List.getElem?_append_right (by rw [hlenO]; omega), hlenO]
                              congr 1
                              omega
                      · obtain ⟨os, f1, f2, f3⟩ := loadN (P := P) (hr.drawn (w.drawn + 1)) hl hcs hold hz0
                        obtain ⟨nc, C, g1, g2, g3, g4⟩ := run_append_grow (P := P) (ty := ty) (os := os) (a := some ⟨l.b, off, none⟩) h0 h1 hs hx hd hsz hby hb0 hb1 hz hzl hlen hvs2 f1 f3 hvl2 hfit hmax
                        refine ⟨_, _, _, g4, new_slc (ρ := ρ) g2 g1 s.next w.heap.size, ?_, rfl⟩
                        have hd1 := step_dead hr i
                        refine hd1.trans (step_new hd1.r (relL_append f2 hvr2) (.inl (Nat.le_refl _)) ?_ g3 _)
                        rw [List.length_append, f3, hvl2, g2, ← Nat.add_mul]; exact Nat.mul_le_mul g1 (Nat.le_refl _)
                    · simp at h
                  · simp at h
            · simp at h
          · simp at h
  · simp at h
end
end Go.Sx
