/-
  A symbolic executor for the model's code, part H: operators, slices, conversions.
-/
import Derived.Test.YtpdgklkcjegkfaaGreatSxG
namespace Go.Sx
open Go

section
variable {P : Program} {ρ : Env} {s : AS} {w : World}

theorem binEq_run {t : TypeId} {lit : Bool} {a b : AV} {av bv : Value} {p sy : Bool} (h : eqV P t lit a b = some (p, sy)) (ha : rel ρ a av) (hb : rel ρ b bv) :
    (binOp .eql t av bv).run P w = .ok (.bool p) w ∧ (binOp .neq t av bv).run P w = .ok (.bool (!p)) w := by
  have hq := eqV_run (w := w) h ha hb
  have fin : ∀ (u v : Value), (Op.equal t u v).run P w = .ok p w → (∀ k n, u ≠ .int k n) → (∀ k n, u ≠ .float k n) → (∀ k n m, u ≠ .complex k n m) → (∀ s, u ≠ .string s) →
      (binOp .eql t u v).run P w = .ok (.bool p) w ∧ (binOp .neq t u v).run P w = .ok (.bool (!p)) w := by
    intro u v hq h1 h2 h3 h4
    constructor <;> unfold binOp <;> split <;> simp_all
  unfold eqV at h
  split at h
  all_goals first | (split at h) | (simp at h; done)
  all_goals try (simp at h; done)
  all_goals try (
    (first
        | (simp at ha; subst ha; (refine fin _ _ hq ?_ ?_ ?_ ?_ <;> simp); done)
        | (rw [rel_ptr] at ha; obtain ⟨_, _, rfl⟩ := ha; (refine fin _ _ hq ?_ ?_ ?_ ?_ <;> simp); done)
        | (rw [rel_slc] at ha; obtain ⟨_, _, _, _, rfl, _⟩ := ha; (refine fin _ _ hq ?_ ?_ ?_ ?_ <;> simp); done)
        | (rw [rel_map] at ha; obtain ⟨_, _, rfl⟩ := ha; (refine fin _ _ hq ?_ ?_ ?_ ?_ <;> simp); done)
        | (rw [rel_fn] at ha; obtain ⟨_, _, _, _, rfl⟩ := ha; (refine fin _ _ hq ?_ ?_ ?_ ?_ <;> simp); done)
        | (rw [rel_ifc] at ha; obtain ⟨_, _, rfl⟩ := ha; (refine fin _ _ hq ?_ ?_ ?_ ?_ <;> simp); done)
        | (rw [rel_agg] at ha; obtain ⟨_, _, rfl⟩ := ha; (refine fin _ _ hq ?_ ?_ ?_ ?_ <;> simp); done)); done)
  · simp at h ha hb
    obtain ⟨rfl, rfl⟩ := h
    subst ha hb
    simp [binOp, Op.stringOp]

theorem bin_run {op : BinOp} {t : TypeId} {x y : Operand} {a b v : AV} {av bv : Value} (h : binA P op t (isLit x || isLit y) a b = some v) (ha : rel ρ a av) (hb : rel ρ b bv) :
    ∃ rv, (do eqGuard op t x y av bv; binOp op t av bv : Sem Value).run P w = .ok rv w ∧ rel ρ v rv := by
  unfold binA at h
  split at h
  · rename_i k n s1 k' m s2 h1 h2
    rw [kindOf_rel h1 ha, kindOf_rel h2 hb]
    obtain ⟨rv, hrv, hv⟩ := intOp_run (w := w) h t
    exact ⟨rv, by rw [Sem.run_bind, run_eqGuard_int]; exact hrv, hv⟩
  · split at h
    · split at h
      · rename_i p sy he
        simp only [Option.some.injEq] at h; subst h
        exact ⟨.bool p, by rw [Sem.run_bind, guard_run (w := w) (.inl rfl) he ha hb, Result.andThen_ok]; exact (binEq_run he ha hb).1, mkBool_rel⟩
      · simp at h
    · split at h
      · rename_i p sy he
        simp only [Option.some.injEq] at h; subst h
        exact ⟨.bool (!p), by rw [Sem.run_bind, guard_run (w := w) (.inr rfl) he ha hb, Result.andThen_ok]; exact (binEq_run he ha hb).2, mkBool_rel⟩
      · simp at h
    · split at h
      · rename_i p q _
        rw [cond_eq_ite] at h
        split at h
        · rename_i hsz
          simp only [Option.some.injEq] at h; subst h
          simp at ha hb; subst ha hb
          have hle : p.size + q.size ≤ 1000000 := Nat.le_of_ble_eq_true hsz
          have : ¬ (((p.size + q.size : Nat) : Int) > IntKind.i64.max) := by
            have e : IntKind.i64.max = 9223372036854775807 := by decide
            rw [e]; omega
          refine ⟨.string (p ++ q), ?_, by simp⟩
          simp only [eqGuard, binOp, Op.stringOp, Sem.run_bind]
          rw [if_neg this]
          simp
        · simp at h
      · simp at h
    · simp at h

theorem un_run {op : UnOp} {a v : AV} {av : Value} (h : unA op a = some v) (ha : rel ρ a av) : ∃ rv, (Op.unary op av).run P w = .ok rv w ∧ rel ρ v rv := by
  unfold unA at h
  split at h <;> simp at h
  all_goals
    subst h
    simp at ha
    subst ha
    refine ⟨_, ?_, by first | exact rel_bool.2 rfl | exact rel_sbool.2 rfl | exact rel_int.2 rfl | exact rel_sint.2 rfl⟩
    simp [Op.unary, Op.intArith, Op.intBits]

theorem len_run {t e : TypeId} (ht : P.underlying t = some (.slice e)) {a v : AV} {av : Value} {args : Array TypeId} (hargs : args[0]? = some t) (hv : lenA a = some v) (ha : rel ρ a av) (ty : TypeId) :
    ∃ rv, (Builtin.len_ args ty #[av]).run P w = .ok rv w ∧ rel ρ v rv := by
  unfold lenA at hv
  split at hv <;> simp at hv
  · subst hv
    simp at ha; subst ha
    exact ⟨_, by simp [Builtin.len_, hargs, run_underlying ht]; rfl, by simp [goInt]⟩
  · subst hv
    rw [rel_slc] at ha; obtain ⟨_, _, _, _, rfl, _⟩ := ha
    exact ⟨_, by simp [Builtin.len_, hargs, run_underlying ht]; rfl, by simp [goInt]⟩
  · subst hv
    rw [rel_raw] at ha; obtain ⟨rfl, _⟩ := ha
    exact ⟨_, by simp [Builtin.len_, hargs, run_underlying ht]; rfl, by simp [goInt]⟩

theorem min_run {lt : Bool} {x y v : AV} {xv yv : Value} (h : minA lt x y = some v) (hx : rel ρ x xv) (hy : rel ρ y yv) :
    ∃ rv, ((if lt then Builtin.min2 xv yv else Builtin.max2 xv yv) : Sem Value).run P w = .ok rv w ∧ rel ρ v rv := by
  unfold minA at h
  split at h
  · rename_i k a s1 k' b s2 h1 h2
    simp only [Option.some.injEq] at h; subst h
    rw [kindOf_rel h1 hx, kindOf_rel h2 hy]
    refine ⟨_, ?_, mkInt_rel⟩
    cases lt
    · simp [Builtin.max2, mm]
    · simp [Builtin.min2, mm]
  · simp at h

theorem fold_run {lt : Bool} : ∀ {xs : List AV} {x v : AV} {xv : Value} {vs : List Value}, foldO (minA lt) x xs = some v → rel ρ x xv → relL ρ xs vs →
    ∃ rv, (vs.foldlM (m := Sem) (fun a b => if lt then Builtin.min2 a b else Builtin.max2 a b) xv).run P w = .ok rv w ∧ rel ρ v rv := by
  intro xs
  induction xs with
  | nil => intro x v xv vs h hx hv; simp [foldO] at h; subst h; simp at hv; subst hv; exact ⟨xv, by simp, hx⟩
  | cons y xs ih =>
    intro x v xv vs h hx hv
    rw [relL_cons] at hv
    obtain ⟨u, us, rfl, r1, r2⟩ := hv
    simp only [foldO] at h
    split at h
    · simp at h
    · rename_i z hz
      obtain ⟨rv, g1, g2⟩ := min_run (P := P) (w := w) hz hx r1
      obtain ⟨rv2, g3, g4⟩ := ih h g2 r2
      exact ⟨rv2, by rw [List.foldlM_cons, Sem.run_bind, g1]; exact g3, g4⟩
end
end Go.Sx
