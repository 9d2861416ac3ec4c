/-
  A symbolic executor for the model's code, part E: what it says of one operation, holds of the model's own.
-/
import Derived.Test.YtpdgklkcjegkfaaGreatSxD
import Derived.Laws.Cells
import Derived.Laws.StructEq
import Derived.Lib.FrozenHead
import Derived.RegionTactic
namespace Go.Sx
open Go

theorem addr_add (b o n : Nat) : (⟨b, o, none⟩ : Addr).add n = ⟨b, o + n, none⟩ := by
  unfold Addr.add; split <;> simp_all

theorem oneV_eq (v : Value) : v.oneCell' = oneV v := by cases v <;> rfl

section
variable {P : Program} {ρ : Env} {s : AS} {w : World}

theorem run_sz {t : TypeId} {n : Nat} (h : sz P t = some n) (w : World) : (sizeOf t).run P w = .ok n w := by
  unfold sz at h
  cases hi : P.info? t with
  | none => simp [hi] at h
  | some i =>
    simp [hi] at h; subst h
    simp only [sizeOf, typeInfo, Sem.run_bind, run_program, Result.andThen_ok, hi, Sem.run_pure]

theorem run_info {t : TypeId} {i : TypeInfo} (h : P.info? t = some i) (w : World) : (typeInfo t).run P w = .ok i w := by
  simp only [typeInfo, Sem.run_bind, run_program, Result.andThen_ok, h, Sem.run_pure]

theorem run_byt {t : TypeId} {n : Nat} (h : byt P t = some n) (w : World) : ∃ i, (typeInfo t).run P w = .ok i w ∧ i.bytes = n := by
  unfold byt at h
  cases hi : P.info? t with
  | none => simp [hi] at h
  | some i => simp [hi] at h; exact ⟨i, run_info hi w, h⟩

theorem run_agg {t : TypeId} {b : Bool} (h : aggT P t = some b) (w : World) : (isAgg t).run P w = .ok b w := by
  unfold aggT at h
  cases hu : P.underlying t with
  | none => simp [hu] at h
  | some d =>
    simp only [hu, Option.map_some, Option.some.injEq] at h
    simp only [isAgg, Sem.run_bind, run_underlying hu, Result.andThen_ok]
    cases d <;> simp at h <;> subst h <;> rfl

theorem ofLeaf_rel {v : Value} {x : AV} (h : ofLeaf v = some x) (ρ : Env) : rel ρ x v := by
  unfold ofLeaf at h
  split at h
  case h_9 fn first captured =>
    rw [cond_eq_ite] at h
    split at h
    · rename_i hc
      simp only [Bool.and_eq_true, beq_iff_eq] at hc
      obtain ⟨h1, h2⟩ := hc
      simp only [Option.some.injEq] at h; subst h
      rw [rel_fn]
      refine ⟨[], [], by simp, by simp, ?_⟩
      have h1' : first = #[] := Array.eq_empty_of_size_eq_zero h1
      have h2' : captured = #[] := Array.eq_empty_of_size_eq_zero h2
      subst h1' h2'; rfl
    · simp at h
  all_goals first
    | (simp only [Option.some.injEq] at h; subst h; simp; done)
    | simp at h

theorem mapO_leaf : ∀ {vs : List Value} {xs : List AV}, mapO ofLeaf vs = some xs → ∀ ρ, relL ρ xs vs := by
  intro vs
  induction vs with
  | nil => intro xs h ρ; simp [mapO] at h; subst h; simp
  | cons v vs ih =>
    intro xs h ρ
    simp only [mapO] at h
    split at h
    · simp at h
    · rename_i y hy
      split at h
      · simp at h
      · rename_i ys hys
        simp at h; subst h
        rw [relL_cons]
        exact ⟨v, vs, rfl, ofLeaf_rel hy ρ, ih hys ρ⟩

theorem ofV_rel {v : Value} {x : AV} (h : ofV v = some x) (ρ : Env) : rel ρ x v := by
  unfold ofV at h
  split at h
  · rename_i cs
    split at h
    · rename_i l hl
      simp at h; subst h
      rw [rel_agg]; exact ⟨cs.toList, mapO_leaf hl ρ, by simp⟩
    · simp at h
  · rename_i cs
    split at h
    · rename_i l hl
      simp at h; subst h
      rw [rel_tup]; exact ⟨cs.toList, mapO_leaf hl ρ, by simp⟩
    · simp at h
  · exact ofLeaf_rel h ρ

theorem run_zero {t : TypeId} {z : AV} (h : zeroA P t = some z) (w : World) : ∃ v, (zeroValue t).run P w = .ok v w ∧ ∀ ρ, rel ρ z v := by
  unfold zeroA at h
  cases hi : P.info? t with
  | none => simp [hi] at h
  | some i =>
    simp only [hi, Option.bind_some] at h
    cases hz : i.zero with
    | none => simp [hz] at h
    | some v =>
      simp only [hz, Option.bind_some] at h
      refine ⟨v, ?_, fun ρ => ofV_rel h ρ⟩
      simp only [zeroValue, Sem.run_bind, run_info hi, Result.andThen_ok, hz, Sem.run_pure]

/-! ### Loads and stores -/

theorem cell_at {C : Array Value} {E : TypeId} {fr : Nat × Nat} {b o : Nat} (h : w.heap[b]? = some (.cells C E fr)) : w.cell? ⟨b, o, none⟩ = C[o]? := by
  simp [World.cell?, h]

theorem load_some {t : TypeId} {x v : AV} {xv : Value} (h : loadT P t x s = some v) (hr : R ρ s w) (hx : rel ρ x xv) :
    ∃ rv, (Instr.loadAt t xv).run P w = .ok rv w ∧ rel ρ v rv := by
  unfold loadT at h
  split at h
  · rename_i i o
    rw [rel_ptr] at hx
    obtain ⟨l, hl, rfl⟩ := hx
    split at h
    · simp at h
    · rename_i cs hcs
      obtain ⟨C, E, fr, L, h1, h2, h3, h4, h5, h6⟩ := hr.lookup hcs hl
      split at h
      · rename_i ha
        obtain ⟨u, hu, hv⟩ := relL_get o h4 h
        refine ⟨u, ?_, hv⟩
        have hlt : o < L.length := (List.getElem?_eq_some_iff.1 hu).1
        have hc : w.cell? ⟨l.b, l.base + o, none⟩ = some u := by rw [cell_at h1, h6 o hlt, hu]
        simp only [Instr.loadAt, Instr.sureAddr, loadVar, Sem.run_bind, Sem.run_pure, Result.andThen_ok, run_agg ha, Bool.false_eq_true, if_false, run_load, hc]
      · rename_i ha
        split at h
        · simp at h
        · rename_i n hn
          split at h
          · rename_i l' hl'
            simp at h; subst h
            have hs := relL_slice h4 hl'
            refine ⟨.agg ((L.drop o).take n).toArray, ?_, by rw [rel_agg]; exact ⟨_, hs.2, rfl⟩⟩
            have hlen : ((L.drop o).take n).length = n := by simp; omega
            have hld : (loadCells ⟨l.b, l.base + o, none⟩ n).run P w = .ok ((L.drop o).take n).toArray w := by
              have := run_loadCells_list (P := P) w ⟨l.b, l.base + o, none⟩ ((L.drop o).take n) (fun j v hj => by
                rw [addr_add, cell_at h1]
                have hj' := (List.getElem?_eq_some_iff.1 hj).1
                rw [hlen] at hj'
                have : C[l.base + (o + j)]? = L[o + j]? := h6 (o + j) (by omega)
                rw [Nat.add_assoc, this]
                rw [List.getElem?_take_of_lt hj', List.getElem?_drop] at hj
                exact hj)
              rwa [hlen] at this
            simp only [Instr.loadAt, Instr.sureAddr, loadVar, Sem.run_bind, Sem.run_pure, Result.andThen_ok, run_agg ha, if_true, run_sz hn, hld]
          · simp at h
      · simp at h
  · simp at h

theorem oneAll_rel {xs : List AV} {l : List Value} (h : oneAll xs = true) (hr : relL ρ xs l) : ∀ v ∈ l, v.oneCell' = true := by
  induction xs generalizing l with
  | nil => simp at hr; subst hr; simp
  | cons x xs ih =>
    rw [relL_cons] at hr
    obtain ⟨v, vs, rfl, h1, h2⟩ := hr
    simp only [oneAll, List.all_cons, Bool.and_eq_true] at h
    intro u hu
    simp at hu
    rcases hu with rfl | hu
    · rw [oneV_eq]; exact one_rel h.1 h1
    · exact ih h.2 h2 u hu

theorem run_storeCells_free (b o : Nat) (E : TypeId) (fr : Nat × Nat) : ∀ (vs : List Value) (i : Nat) (cur : Array Value) (w : World),
    w.heap[b]? = some (.cells cur E fr) → (fr.2 ≤ fr.1 ∨ cur.size ≤ fr.1) → o + i + vs.length ≤ cur.size → (∀ v ∈ vs, v.oneCell' = true) →
    ∃ C : Array Value, (storeCells ⟨b, o, none⟩ vs i).run P w = .ok () { w with heap := w.heap.setIfInBounds b (.cells C E fr) } ∧ C.size = cur.size ∧
      (∀ k, C[k]? = if o + i ≤ k ∧ k < o + i + vs.length then vs[k - (o + i)]? else cur[k]?) := by
  intro vs
  induction vs with
  | nil =>
    intro i cur w h _ _ _
    refine ⟨cur, ?_, rfl, fun k => by rw [if_neg (by simp)]⟩
    simp only [storeCells, Sem.run_pure]
    have : w.heap.setIfInBounds b (.cells cur E fr) = w.heap := by
      apply Array.ext_getElem?
      intro j
      rw [Array.getElem?_setIfInBounds]
      split
      · rename_i hj; subst hj
        have hlt := (Array.getElem?_eq_some_iff.1 h).1
        simp [hlt]
        exact (Array.getElem?_eq_some_iff.1 h).2.symm
      · rfl
    rw [this]
  | cons v vs ih =>
    intro i cur w h hf hb h1
    simp only [List.length_cons] at hb
    have hlt : o + i < cur.size := by omega
    have hcell : w.cell? ⟨b, o + i, none⟩ = some cur[o + i] := by rw [cell_at h]; simp [hlt]
    have hfro : w.frozen? ⟨b, o + i, none⟩ = false := by
      obtain ⟨lo, hi⟩ := fr
      simp only [World.frozen?, h, Bool.and_eq_false_iff, decide_eq_false_iff_not]
      simp only at hf
      omega
    have hset : w.setCell ⟨b, o + i, none⟩ v = { w with heap := w.heap.setIfInBounds b (.cells (cur.setIfInBounds (o + i) v) E fr) } := by
      unfold World.setCell
      congr 1
      apply Array.ext_getElem?
      intro j
      rw [Array.getElem?_modify, Array.getElem?_setIfInBounds]
      split
      · rename_i hj
        have hj' : b = j := hj
        subst hj'
        have hlt' := (Array.getElem?_eq_some_iff.1 h).1
        have hw := (Array.getElem?_eq_some_iff.1 h).2
        simp [hlt', hw]
      · rfl
    have hb' := (Array.getElem?_eq_some_iff.1 h).1
    have ⟨C, hrun, hsz, hk⟩ := ih (i + 1) (cur.setIfInBounds (o + i) v) { w with heap := w.heap.setIfInBounds b (.cells (cur.setIfInBounds (o + i) v) E fr) }
      (by simp [hb']) (by simpa using hf) (by simp; omega) (fun u hu => h1 u (by simp [hu]))
    refine ⟨C, ?_, by simpa using hsz, fun k => ?_⟩
    · simp only [storeCells, Sem.run_bind, addr_add, run_store P w _ v _ (h1 v (by simp)), hcell, hfro, Bool.false_eq_true, if_false, Result.andThen_ok, hset, hrun]
      congr 2
      simp
    · rw [hk k]
      simp only [List.length_cons]
      by_cases h1 : o + i = k
      · subst h1
        rw [if_neg (by omega), if_pos (by omega)]
        simp [hlt]
      · by_cases h2 : o + (i + 1) ≤ k ∧ k < o + (i + 1) + vs.length
        · rw [if_pos h2, if_pos (by omega)]
          rw [show k - (o + i) = (k - (o + (i + 1))) + 1 by omega, List.getElem?_cons_succ]
        · rw [if_neg h2, if_neg (by omega)]
          rw [Array.getElem?_setIfInBounds_ne h1]

/-- The cells of a block are written over from `o` on. -/
theorem store_over (hr : R ρ s w) {i : Pos} {l : Loc} (hl : ρ i = some l) {cs xs zs : List AV} (hcs : s.cellsAt i = some cs) {vs : List Value} (hx : relL ρ xs vs)
    (h1 : ∀ v ∈ vs, v.oneCell' = true) {o : Nat} (ho : over o cs xs = some zs) :
    ∃ w', (storeCells ⟨l.b, l.base + o, none⟩ vs).run P w = .ok () w' ∧ Step ρ s w ρ (s.put i (.cells zs)) w' := by
  obtain ⟨C, E, fr, L, g1, g2, g3, g4, g5, g6⟩ := hr.lookup hcs hl
  have hov := relL_over o g4 hx ho
  obtain ⟨C', hrun, hsz, hk⟩ := run_storeCells_free (P := P) l.b (l.base + o) E fr vs 0 C w g1 g3 (by omega) h1
  have hlen : (overV o L vs).length = L.length := by simp [overV]; omega
  refine ⟨_, hrun, step_put hr hl hcs hov.2 (by rw [hsz]; exact g3) (by rw [hsz, g2]) (by rw [hlen, hsz]; exact g5) ?_ rfl⟩
  intro k hk'
  rw [hlen] at hk'
  rw [hk (l.base + k)]
  unfold overV
  by_cases a : k < o
  · rw [if_neg (by omega), List.append_assoc, List.getElem?_append_left (by simp; omega), List.getElem?_take_of_lt a, g6 k hk']
  · by_cases b : k < o + vs.length
    · rw [if_pos (by omega), List.getElem?_append_left (by simp; omega), List.getElem?_append_right (by simp; omega)]
      congr 1
      simp
      omega
    · rw [if_neg (by omega), List.getElem?_append_right (by simp; omega), g6 k hk', List.getElem?_drop]
      congr 1
      simp
      omega

theorem store_some {t : TypeId} {a x : AV} {s' : AS} {av xv : Value} (h : storeT P t a x s = some s') (hr : R ρ s w) (ha : rel ρ a av) (hx : rel ρ x xv) :
    ∃ w', (Instr.storeAt t av xv).run P w = .ok () w' ∧ Step ρ s w ρ s' w' ∧ s'.cons = s.cons := by
  unfold storeT at h
  split at h
  · rename_i i o
    rw [rel_ptr] at ha
    obtain ⟨l, hl, rfl⟩ := ha
    split at h
    · simp at h
    · rename_i cs hcs
      split at h
      · simp at h
      · rename_i n hn
        simp only [cond_eq_ite] at h
        split at h
        · rename_i hc
          simp only [Bool.and_eq_true, beq_iff_eq] at hc
          split at h
          · rename_i zs hzs
            simp only [Option.some.injEq] at h; subst h
            obtain ⟨vs, hvs, hrel⟩ := cells_rel hx
            obtain ⟨w', hrun, hst⟩ := store_over (P := P) hr hl hcs hrel (oneAll_rel hc.2 hrel) hzs
            refine ⟨w', ?_, hst, rfl⟩
            have hlen : vs.length = n := by rw [← relL_length hrel]; exact hc.1
            simp only [Instr.storeAt, Instr.sureAddr, storeVar, Sem.run_bind, Sem.run_pure, Result.andThen_ok, run_sz hn, hvs, List.size_toArray, hlen]
            simp only [ne_eq, not_true_eq_false, if_false]
            exact hrun
          · simp at h
        · simp at h
  · simp at h
end
end Go.Sx
