/-
  A symbolic executor for the model's code, part M: conversions, what is built, what is made.
-/
import Derived.Test.YtpdgklkcjegkfaaGreatSxL
import Derived.Laws.BytesArg
namespace Go.Sx
open Go

section
variable {P : Program} {ρ : Env} {s : AS} {w : World}

theorem conv_int {src dst : TypeId} {k0 k : IntKind} (h1 : P.underlying src = some (.int k0)) (h2 : P.underlying dst = some (.int k)) (j : IntKind) (n : Int) :
    (convert src dst (.int j n)).run P w = .ok (.int k (k.wrap n)) w := by
  simp [convert, run_underlying h1, run_underlying h2, Conv.intToInt]

theorem run_mark (w : World) (C : Array Value) (e : TypeId) (d : Nat) :
    (markStringish ⟨w.heap.size, 0, none⟩).run P { w with heap := w.heap.push (.cells C e (0, 0)), drawn := d } = .ok () { w with heap := w.heap.push (.cells C e (C.size, C.size + 1)), drawn := d } := by
  simp only [markStringish, Sem.run_bind, run_shape, Result.andThen_ok, World.shape?, Array.getElem?_push_size, run_freeze]
  congr 1
  simp only [World.freeze]
  rw [if_neg (by omega)]
  congr 1
  apply Array.ext_getElem?
  intro j
  rw [Array.getElem?_modify]
  by_cases hj : w.heap.size = j
  · subst hj; simp
  · rw [if_neg hj]
    simp [Array.getElem?_push, show ¬ j = w.heap.size from fun e => hj e.symm]

theorem conv_run (hr : R ρ s w) {src dst : TypeId} {x v : AV} {s' : AS} {xv : Value} (h : convA P src dst x s = .v v s') (hx : rel ρ x xv) :
    ∃ rv ρ' w', (convert src dst xv).run P w = .ok rv w' ∧ rel ρ' v rv ∧ Step ρ s w ρ' s' w' ∧ s'.cons = s.cons := by
  unfold convA at h
  split at h
  · rename_i k0 k h1 h2
    split at h
    · simp only [OR.v.injEq] at h
      obtain ⟨rfl, rfl⟩ := h
      simp at hx; subst hx
      exact ⟨_, ρ, w, conv_int h1 h2 _ _, by simp, Step.refl hr, rfl⟩
    · simp only [OR.v.injEq] at h
      obtain ⟨rfl, rfl⟩ := h
      simp at hx; subst hx
      exact ⟨_, ρ, w, conv_int h1 h2 _ _, by simp, Step.refl hr, rfl⟩
    · simp at h
  · rename_i h1 h2
    split at h
    · simp only [OR.v.injEq] at h
      obtain ⟨rfl, rfl⟩ := h
      simp at hx; subst hx
      exact ⟨_, ρ, w, by simp [convert, run_underlying h1, run_underlying h2]; rfl, by simp, Step.refl hr, rfl⟩
    · simp at h
  · rename_i e h1 h2
    split at h
    · rename_i b h3
      simp only [OR.v.injEq] at h
      obtain ⟨rfl, rfl⟩ := h
      simp at hx; subst hx
      let cap : Nat := b.size + w.tape w.drawn (.appendCap b.size 0 e) % (2 ^ 63 - b.size)
      let C : Array Value := (b.data.map fun c => Value.int .u8 c.toNat) ++ Array.replicate (cap - b.size) (.int .u8 0)
      have hC : C.size = cap := by
        simp only [C, Array.size_append, Array.size_map, Array.size_replicate]
        have : b.data.size = b.size := rfl
        have : b.size ≤ cap := Nat.le_add_right _ _
        omega
      refine ⟨.slice (some ⟨w.heap.size, 0, none⟩) b.size cap, ρ.put s.next ⟨w.heap.size, 0, C.size⟩, { w with heap := w.heap.push (.cells C e (C.size, C.size + 1)), drawn := w.drawn + 1 }, ?_, ?_, ?_, rfl⟩
      · simp only [convert, Sem.run_bind, run_underlying h1, run_underlying h2, Result.andThen_ok, run_underlying h3, Conv.stringToBytes, run_choose, Question.forced, Bool.false_eq_true, if_false, Question.cut, newRow, run_newObj, Sem.run_pure]
        have hm := run_mark (P := P) w C e (w.drawn + 1)
        simp only [C, cap] at hm
        simp only [hm, Result.andThen_ok]
        rfl
      · rw [rel_slc]
        exact ⟨⟨w.heap.size, 0, C.size⟩, 0, cap, by simp [Env.put], rfl, Nat.le_add_right _ _, .inr rfl, .inr (by simp [hC])⟩
      · refine step_new hr (L := b.data.toList.map fun c => Value.int .u8 c.toNat) (bytes_rel _) (.inr (Nat.le_refl _)) ?_ ?_ _
        · rw [hC]; simp; exact Nat.le_add_right _ _
        · intro k hk
          have hk' : k < (b.data.map fun c => Value.int .u8 c.toNat).size := by simpa using hk
          simp only [C]
          rw [Array.getElem?_append_left hk']
          simp
    · simp at h
  · rename_i e h1 h2
    split at h
    · rename_i h3
      simp only [OR.v.injEq] at h
      obtain ⟨rfl, rfl⟩ := h
      simp at hx; subst hx
      exact ⟨_, ρ, w, run_convert_bytes_nil w src e h1 h3 0 0 dst h2, by simp, Step.refl hr, rfl⟩
    · rename_i i o n c h3
      split at h
      · simp at h
      · rename_i cs hcs
        split at h
        · simp at h
        · rename_i l hl
          split at h
          · rename_i bs hbs
            simp only [OR.v.injEq] at h
            obtain ⟨rfl, rfl⟩ := h
            rw [rel_slc] at hx
            obtain ⟨ll, off, rc, hll, rfl, hle, hoff, hc⟩ := hx
            obtain ⟨vs, g1, g2, g3⟩ := loadN (P := P) hr hll hcs hl (off := off) (by rcases hoff with e | e; left; omega; exact .inr e)
            have hbytes : ∀ {l : List AV} {bs : List UInt8} {vs : List Value}, bytesA l = some bs → relL ρ l vs → ∃ ns : List Int, vs = ns.map (Value.int .u8) ∧ bs = ns.map fun n => UInt8.ofNat n.toNat := by
              intro l
              induction l with
              | nil => intro bs vs h1 h2; simp [bytesA] at h1; simp at h2; subst h1 h2; exact ⟨[], rfl, rfl⟩
              | cons x l ih =>
                intro bs vs h1 h2
                rw [relL_cons] at h2
                obtain ⟨u, us, rfl, k1, k2⟩ := h2
                unfold bytesA at h1
                split at h1
                · rename_i heq; cases heq
                · rename_i n xs heq
                  injection heq with e1 e2
                  subst e1 e2
                  split at h1
                  · rename_i l' hl'
                    simp at h1; subst h1
                    obtain ⟨ns, e1, e2⟩ := ih hl' k2
                    simp at k1; subst k1
                    exact ⟨n :: ns, by simp [e1], by simp [e2]⟩
                  · simp at h1
                · simp at h1
            obtain ⟨ns, e1, e2⟩ := hbytes hbs g2
            subst e1 e2
            refine ⟨.string ⟨(ns.map fun n => UInt8.ofNat n.toNat).toArray⟩, ρ, w, ?_, by simp, Step.refl hr, rfl⟩
            rw [run_convert_bytes_string w src dst e _ n rc h1 h3 h2, run_bytesToString w _ n rc ns g1, foldl_push_bytes]
            simp [ByteArray.empty, ByteArray.emptyWithCapacity]
            rfl
          · simp at h
    · simp at h
  · simp at h

theorem bytes_str_run (hr : R ρ s w) {src dst e : TypeId} {x v : AV} {s' : AS} {xv : Value} (h1 : P.underlying src = some (.slice e)) (h2 : P.underlying dst = some .string) (h : convA P src dst x s = .v v s') (hx : rel ρ x xv) :
    s' = s ∧ ∃ rv, (convert src dst xv).run P w = .ok rv w ∧ rel ρ v rv := by
  unfold convA at h
  simp only [h1, h2] at h
  split at h
  · rename_i h3
    simp only [OR.v.injEq] at h
    obtain ⟨rfl, rfl⟩ := h
    simp at hx; subst hx
    exact ⟨rfl, _, run_convert_bytes_nil w src e h1 h3 0 0 dst h2, by simp⟩
  · rename_i i o n c h3
    split at h
    · simp at h
    · rename_i cs hcs
      split at h
      · simp at h
      · rename_i l hl
        split at h
        · rename_i bs hbs
          simp only [OR.v.injEq] at h
          obtain ⟨rfl, rfl⟩ := h
          rw [rel_slc] at hx
          obtain ⟨ll, off, rc, hll, rfl, hle, hoff, hc⟩ := hx
          obtain ⟨vs, g1, g2, g3⟩ := loadN (P := P) hr hll hcs hl (off := off) (by rcases hoff with e | e; left; omega; exact .inr e)
          have hbytes : ∀ {l : List AV} {bs : List UInt8} {vs : List Value}, bytesA l = some bs → relL ρ l vs → ∃ ns : List Int, vs = ns.map (Value.int .u8) ∧ bs = ns.map fun n => UInt8.ofNat n.toNat := by
            intro l
            induction l with
            | nil => intro bs vs h1 h2; simp [bytesA] at h1; simp at h2; subst h1 h2; exact ⟨[], rfl, rfl⟩
            | cons x l ih =>
              intro bs vs h1 h2
              rw [relL_cons] at h2
              obtain ⟨u, us, rfl, k1, k2⟩ := h2
              unfold bytesA at h1
              split at h1
              · rename_i heq; cases heq
              · rename_i n xs heq
                injection heq with e1 e2
                subst e1 e2
                split at h1
                · rename_i l' hl'
                  simp at h1; subst h1
                  obtain ⟨ns, e1, e2⟩ := ih hl' k2
                  simp at k1; subst k1
                  exact ⟨n :: ns, by simp [e1], by simp [e2]⟩
                · simp at h1
              · simp at h1
          obtain ⟨ns, e1, e2⟩ := hbytes hbs g2
          subst e1 e2
          refine ⟨rfl, .string ⟨(ns.map fun n => UInt8.ofNat n.toNat).toArray⟩, ?_, by simp⟩
          rw [run_convert_bytes_string w src dst e _ n rc h1 h3 h2, run_bytesToString w _ n rc ns g1, foldl_push_bytes]
          simp [ByteArray.empty, ByteArray.emptyWithCapacity]
          rfl
        · simp at h
  · simp at h

/-! ### What is built -/

theorem fold_over (off : Nat) : ∀ (xs : List Value) (k : Nat) (C : List Value), off + k + xs.length ≤ C.length →
    (xs.zipIdx k).foldl (fun (cs : Array Value) (p : Value × Nat) => cs.setIfInBounds (off + p.2) p.1) C.toArray = (overV (off + k) C xs).toArray := by
  intro xs
  induction xs with
  | nil => intro k C _; simp [overV]
  | cons x xs ih =>
    intro k C h
    simp only [List.length_cons] at h
    rw [List.zipIdx_cons, List.foldl_cons]
    simp only [List.setIfInBounds_toArray]
    rw [ih (k + 1) (C.set (off + k) x) (by simp; omega)]
    congr 1
    unfold overV
    apply List.ext_getElem?
    intro j
    simp only [List.append_assoc, List.length_cons]
    by_cases a : j < off + k
    · rw [List.getElem?_append_left (by simp; omega), List.getElem?_append_left (by simp; omega), List.getElem?_take_of_lt (by omega), List.getElem?_take_of_lt a, List.getElem?_set_ne (by omega)]
    · by_cases b : j = off + k
      · subst b
        rw [List.getElem?_append_left (by simp; omega), List.getElem?_append_right (by simp; omega), List.getElem?_take_of_lt (by omega), List.getElem?_set_self (by omega)]
        simp [Nat.min_eq_left (by omega : off + k ≤ C.length)]
      · have e1 : (List.take (off + (k + 1)) (C.set (off + k) x)).length = off + k + 1 := by simp; omega
        have e2 : (List.take (off + k) C).length = off + k := by simp; omega
        have r1 : ∀ X : List Value, (List.take (off + (k + 1)) (C.set (off + k) x) ++ X)[j]? = X[j - (off + k + 1)]? := fun X => by
          rw [List.getElem?_append_right (by rw [e1]; omega), e1]
        have r2 : ∀ X : List Value, (List.take (off + k) C ++ X)[j]? = X[j - (off + k)]? := fun X => by
          rw [List.getElem?_append_right (by rw [e2]; omega), e2]
        rw [r1, r2, List.cons_append, show j - (off + k) = (j - (off + k + 1)) + 1 by omega, List.getElem?_cons_succ]
        by_cases c : j - (off + k + 1) < xs.length
        · rw [List.getElem?_append_left c, List.getElem?_append_left c]
        · rw [List.getElem?_append_right (by omega), List.getElem?_append_right (by omega), List.getElem?_drop, List.getElem?_drop, List.getElem?_set_ne (by omega)]
          congr 1
          omega

/-- Parts, one by one. -/
def relPs (ρ : Env) : List (Nat × AV) → List (Nat × Value) → Prop
  | [], l => l = []
  | (i, x) :: xs, l => ∃ y ys, l = (i, y) :: ys ∧ rel ρ x y ∧ relPs ρ xs ys

theorem fill_run {place : Nat → Option (Nat × Nat)} {place' : Nat → Option (Nat × Nat)} (hp : ∀ i q, place i = some q → place' i = some q) :
    ∀ {ps : List (Nat × AV)} {qs : List (Nat × Value)} {cells out : List AV} {L : List Value}, fillA place cells ps = some out → relPs ρ ps qs → relL ρ cells L →
    ∃ M, Instr.fill place' L.toArray qs = some M.toArray ∧ relL ρ out M ∧ M.length = L.length := by
  intro ps
  induction ps with
  | nil => intro qs cells out L h hq hL; simp [fillA] at h; subst h; simp [relPs] at hq; subst hq; exact ⟨L, rfl, hL, rfl⟩
  | cons p ps ih =>
    intro qs cells out L h hq hL
    obtain ⟨i, x⟩ := p
    simp only [relPs] at hq
    obtain ⟨y, ys, rfl, h1, h2⟩ := hq
    simp only [fillA] at h
    split at h
    · simp at h
    · rename_i off size hpl
      rw [cond_eq_ite] at h
      split at h
      · rename_i hlen
        simp only [beq_iff_eq] at hlen
        split at h
        · rename_i cells' hov
          obtain ⟨l, hc, hr⟩ := cells_rel h1
          have ho := relL_over off hL hr hov
          obtain ⟨M, g1, g2, g3⟩ := ih h h2 ho.2
          have hll : l.length = size := by rw [← relL_length hr]; exact hlen
          refine ⟨M, ?_, g2, by rw [g3]; simp [overV]; omega⟩
          simp only [Instr.fill, hp _ _ hpl, hc, List.size_toArray, hll]
          rw [if_neg (by simp; omega)]
          rw [← g1]
          congr 1
          have := fold_over off l 0 L (by omega)
          simp only [Nat.add_zero] at this
          rw [← this]
          simp
        · simp at h
      · simp at h

/-- Operands and what they are. -/
def OpRel (ρ : Env) (ev : Operand → Option AV) (e : Operand → Value) : Prop := ∀ y x, ev y = some x → rel ρ x (e y)

theorem parts_rel {ev : Operand → Option AV} {e : Operand → Value} (he : OpRel ρ ev e) : ∀ {ps : List (Nat × Operand)} {qs : List (Nat × AV)},
    mapO (fun (p : Nat × Operand) => (ev p.2).map fun y => (p.1, y)) ps = some qs → relPs ρ qs (ps.map fun p => (p.1, e p.2)) := by
  intro ps
  induction ps with
  | nil => intro qs h; simp [mapO] at h; subst h; simp [relPs]
  | cons p ps ih =>
    intro qs h
    obtain ⟨i, x⟩ := p
    simp only [mapO] at h
    split at h
    · simp at h
    · rename_i y hy
      split at h
      · simp at h
      · rename_i ys hys
        simp at h; subst h
        cases hx : ev x with
        | none => simp [hx] at hy
        | some z =>
          simp [hx] at hy; subst hy
          simp only [relPs]
          exact ⟨_, _, rfl, he x z hx, ih hys⟩

theorem evs_rel {ev : Operand → Option AV} {e : Operand → Value} (he : OpRel ρ ev e) : ∀ {xs : List Operand} {ys : List AV},
    mapO ev xs = some ys → relL ρ ys (xs.map e) := by
  intro xs
  induction xs with
  | nil => intro ys h; simp [mapO] at h; subst h; simp
  | cons x xs ih =>
    intro ys h
    simp only [mapO] at h
    split at h
    · simp at h
    · rename_i y hy
      split at h
      · simp at h
      · rename_i zs hzs
        simp at h; subst h
        rw [List.map_cons, relL_cons]
        exact ⟨_, _, rfl, he x y hy, ih hzs⟩

theorem repl_rel {n : Nat} {l : List AV} {L : List Value} (h : relL ρ l L) : relL ρ (repl n l) (repl n L) := by
  induction n with
  | zero => simp [repl]
  | succ n ih => simp only [repl]; exact relL_append h ih

theorem repl_get (n : Nat) (L : List Value) : (Array.range (n * L.length)).map (fun i => L.toArray[i % L.toArray.size]!) = (repl n L).toArray := by
  apply Array.ext'
  simp only [Array.toList_map, Array.toList_range]
  have key : ∀ n, (List.range (n * L.length)).map (fun i => L.toArray[i % L.length]!) = repl n L := by
    intro n
    induction n with
    | zero => simp [repl]
    | succ n ih =>
      simp only [repl]
      rw [← ih, show (n + 1) * L.length = L.length + n * L.length by rw [Nat.add_mul]; omega, List.range_add, List.map_append]
      congr 1
      · apply List.ext_getElem?
        intro j
        by_cases hj : j < L.length
        · simp [hj, Nat.mod_eq_of_lt hj]
        · simp [hj]
      · simp
  simpa using key n

theorem repl_length (n : Nat) {α : Type} (L : List α) : (repl n L).length = n * L.length := by
  induction n with
  | zero => simp [repl]
  | succ n ih => simp only [repl, List.length_append, ih]; rw [Nat.add_mul]; omega
end
end Go.Sx
