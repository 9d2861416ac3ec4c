/-
  A symbolic executor for the model's code, part G: operators on values, slices, conversions, appends.
-/
import Derived.Test.YtpdgklkcjegkfaaGreatSxF
namespace Go.Sx
open Go

section
variable {P : Program} {ρ : Env} {s : AS} {w : World}

theorem eqV_runIn {t : TypeId} {lit : Bool} {x y : AV} {b sy : Bool} {xv yv : Value} (h : eqV P t lit x y = some (b, sy)) (hx : rel ρ x xv) (hy : rel ρ y yv) (D : Nat) (hD : 12 ≤ D) :
    (Op.equalIn (D + 1) t xv yv).run P w = .ok b w := by
  unfold eqV at h
  split at h
  · rename_i hu
    split at h <;> simp at h hx hy <;> obtain ⟨rfl, rfl⟩ := h <;> subst hx hy <;> simp [Op.equalIn, run_underlying hu]
  · rename_i hu
    split at h <;> simp at h hx hy
    obtain ⟨rfl, rfl⟩ := h; subst hx hy; simp [Op.equalIn, run_underlying hu, beq_toListBytes]
  · rename_i e hu
    split at h
    · simp at h hx hy; obtain ⟨rfl, rfl⟩ := h; subst hx hy; simp [Op.equalIn, run_underlying hu]
    · simp at h hx; obtain ⟨rfl, rfl⟩ := h; subst hx; rw [rel_ptr] at hy; obtain ⟨l, _, rfl⟩ := hy; simp [Op.equalIn, run_underlying hu]
    · simp at h hy; obtain ⟨rfl, rfl⟩ := h; subst hy; rw [rel_ptr] at hx; obtain ⟨l, _, rfl⟩ := hx; simp [Op.equalIn, run_underlying hu]
    · rename_i i o j q
      split at h
      · rename_i n hn
        rw [cond_eq_ite] at h
        split at h
        · rename_i hc
          simp only [Bool.and_eq_true, Bool.not_eq_true'] at hc
          simp only [Option.some.injEq, Prod.mk.injEq] at h; obtain ⟨rfl, rfl⟩ := h
          obtain ⟨h1, h2⟩ := hc
          rw [Pos.eqb_iff] at h1; subst h1
          rw [rel_ptr] at hx hy
          obtain ⟨l, hl, rfl⟩ := hx
          obtain ⟨l', hl', rfl⟩ := hy
          rw [hl] at hl'; injection hl' with hl'; subst hl'
          have hn0 : n ≠ 0 := by intro e; subst e; simp at h2
          simp only [Op.equalIn, Sem.run_bind, run_underlying hu, Result.andThen_ok, run_sz hn]
          rw [if_pos hn0]
          simp only [sameAddr, BEq.rfl, if_true, Sem.run_pure]
          congr 1
          by_cases e : o = q
          · subst e; simp
          · have : Nat.beq o q = false := by
              cases hb : Nat.beq o q with
              | false => rfl
              | true => exact absurd (Nat.eq_of_beq_eq_true hb) e
            rw [this]
            simp; omega
        · simp at h
      · simp at h
    · simp at h
  · rename_i e hu
    split at h
    · simp at h hx hy; obtain ⟨rfl, rfl⟩ := h; subst hx hy; simp [Op.equalIn, run_underlying hu]
    · simp at h hx; obtain ⟨rfl, rfl⟩ := h; subst hx; rw [rel_slc] at hy; obtain ⟨l, off, rc, _, rfl, _⟩ := hy; simp [Op.equalIn, run_underlying hu]
    · simp at h hy; obtain ⟨rfl, rfl⟩ := h; subst hy; rw [rel_slc] at hx; obtain ⟨l, off, rc, _, rfl, _⟩ := hx; simp [Op.equalIn, run_underlying hu]
    · simp at h
  · rename_i k e hu
    split at h
    · simp at h hx hy; obtain ⟨rfl, rfl⟩ := h; subst hx hy; simp [Op.equalIn, run_underlying hu]
    · simp at h hx; obtain ⟨rfl, rfl⟩ := h; subst hx; rw [rel_map] at hy; obtain ⟨l, _, rfl⟩ := hy; simp [Op.equalIn, run_underlying hu]
    · simp at h hy; obtain ⟨rfl, rfl⟩ := h; subst hy; rw [rel_map] at hx; obtain ⟨l, _, rfl⟩ := hx; simp [Op.equalIn, run_underlying hu]
    · simp at h
  · rename_i k e b' hu
    split at h
    · simp at h hx hy; obtain ⟨rfl, rfl⟩ := h; subst hx hy; simp [Op.equalIn, run_underlying hu]
    · simp at h hx; obtain ⟨rfl, rfl⟩ := h; subst hx; rw [rel_fn] at hy; obtain ⟨_, _, _, _, rfl⟩ := hy; simp [Op.equalIn, run_underlying hu]
    · simp at h hy; obtain ⟨rfl, rfl⟩ := h; subst hy; rw [rel_fn] at hx; obtain ⟨_, _, _, _, rfl⟩ := hx; simp [Op.equalIn, run_underlying hu]
    · simp at h
  · rename_i ms hu
    split at h
    · rw [cond_eq_ite] at h
      split at h
      · simp at h hx hy; obtain ⟨rfl, rfl⟩ := h; subst hx hy; simp [Op.equalIn, run_underlying hu]
      · simp at h
    · simp at h hx; obtain ⟨rfl, rfl⟩ := h; subst hx; rw [rel_ifc] at hy; obtain ⟨_, _, rfl⟩ := hy; simp [Op.equalIn, run_underlying hu]
    · simp at h hy; obtain ⟨rfl, rfl⟩ := h; subst hy; rw [rel_ifc] at hx; obtain ⟨_, _, rfl⟩ := hx; simp [Op.equalIn, run_underlying hu]
    · simp at h
  · split at h
    · rw [cond_eq_ite] at h
      split at h
      · simp at h
      · exact eqT_run 12 (D + 1) (by omega) t _ _ b sy xv yv h hx hy
    · simp at h
  · split at h
    · rw [cond_eq_ite] at h
      split at h
      · simp at h
      · exact eqT_run 12 (D + 1) (by omega) t _ _ b sy xv yv h hx hy
    · simp at h
  · simp at h

theorem eqV_run {t : TypeId} {lit : Bool} {x y : AV} {b sy : Bool} {xv yv : Value} (h : eqV P t lit x y = some (b, sy)) (hx : rel ρ x xv) (hy : rel ρ y yv) :
    (Op.equal t xv yv).run P w = .ok b w := eqV_runIn h hx hy 9999 (by omega)

/-- What is not a whole number of the model's. -/
theorem kindOf_none {x : AV} {v : Value} (h : kindOf x = none) (hraw : ∀ u, x ≠ .raw u) (hr : rel ρ x v) : ∀ k n, v ≠ .int k n := by
  intro k n e
  subst e
  cases x
  case int => simp [kindOf] at h
  case sint => simp [kindOf] at h
  case raw => exact hraw _ rfl
  case ptr => rw [rel_ptr] at hr; obtain ⟨_, _, h⟩ := hr; cases h
  case slc => rw [rel_slc] at hr; obtain ⟨_, _, _, _, h, _⟩ := hr; cases h
  case map => rw [rel_map] at hr; obtain ⟨_, _, h⟩ := hr; cases h
  case fn => rw [rel_fn] at hr; obtain ⟨_, _, _, _, h⟩ := hr; cases h
  case ifc => rw [rel_ifc] at hr; obtain ⟨_, _, h⟩ := hr; cases h
  case agg => rw [rel_agg] at hr; obtain ⟨_, _, h⟩ := hr; cases h
  case tup => rw [rel_tup] at hr; obtain ⟨_, _, h⟩ := hr; cases h
  all_goals (simp at hr)

/-- Values of which `==` is asked only where the guard lets it by. -/
theorem guard_run {op : BinOp} (hop : op = .eql ∨ op = .neq) {t : TypeId} {x y : Operand} {a b : AV} {av bv : Value} {p sy : Bool}
    (h : eqV P t (isLit x || isLit y) a b = some (p, sy)) (ha : rel ρ a av) (hb : rel ρ b bv) : (eqGuard op t x y av bv).run P w = .ok () w := by
  have key : ∀ (u v : Value), (∀ c d, ¬ (u = .agg c ∧ v = .agg d)) → ¬ (u = .nilIface ∧ v = .nilIface) → (eqGuard op t x y u v).run P w = .ok () w := by
    intro u v h1 h2
    rcases hop with rfl | rfl <;> cases u <;> cases v <;> first
      | (simp [eqGuard]; done)
      | exact absurd ⟨rfl, rfl⟩ (h1 _ _)
      | exact absurd ⟨rfl, rfl⟩ h2
  unfold eqV at h
  have hagg : ∀ xs ys, P.eqGuardType P.depth t = false → a = .agg xs → b = .agg ys → (eqGuard op t x y av bv).run P w = .ok () w := by
    intro xs ys hm e1 e2
    subst e1 e2
    rw [rel_agg] at ha hb
    obtain ⟨L, _, rfl⟩ := ha
    obtain ⟨M, _, rfl⟩ := hb
    exact run_eqGuard_agg w op t x y _ _ hm
  have hnil : (isLit x || isLit y) = true → a = .nili → b = .nili → (eqGuard op t x y av bv).run P w = .ok () w := by
    intro hl e1 e2
    subst e1 e2
    simp at ha hb; subst ha hb
    clear h hagg key
    rcases hop with rfl | rfl <;> cases x <;> cases y <;> simp [isLit] at hl <;> simp [eqGuard]
  split at h
  all_goals first | (split at h) | (simp at h; done)
  all_goals try (simp at h; done)
  all_goals try (
    refine key _ _ ?_ ?_ <;>
      (first
        | (simp at ha hb; subst ha hb; simp; done)
        | (rw [rel_ptr] at ha; obtain ⟨_, _, rfl⟩ := ha; simp; done)
        | (rw [rel_ptr] at hb; obtain ⟨_, _, rfl⟩ := hb; simp; done)
        | (rw [rel_slc] at ha; obtain ⟨_, _, _, _, rfl, _⟩ := ha; simp; done)
        | (rw [rel_slc] at hb; obtain ⟨_, _, _, _, rfl, _⟩ := hb; simp; done)
        | (rw [rel_map] at ha; obtain ⟨_, _, rfl⟩ := ha; simp; done)
        | (rw [rel_map] at hb; obtain ⟨_, _, rfl⟩ := hb; simp; done)
        | (rw [rel_fn] at ha; obtain ⟨_, _, _, _, rfl⟩ := ha; simp; done)
        | (rw [rel_fn] at hb; obtain ⟨_, _, _, _, rfl⟩ := hb; simp; done)
        | (rw [rel_ifc] at ha; obtain ⟨_, _, rfl⟩ := ha; simp; done)
        | (rw [rel_ifc] at hb; obtain ⟨_, _, rfl⟩ := hb; simp; done)); done)
  · rw [cond_eq_ite] at h
    split at h
    · rename_i hl; exact hnil hl rfl rfl
    · simp at h
  all_goals
    rw [cond_eq_ite] at h
    split at h
    · simp at h
    · rename_i hm; exact hagg _ _ (by simpa using hm) rfl rfl
end
end Go.Sx
