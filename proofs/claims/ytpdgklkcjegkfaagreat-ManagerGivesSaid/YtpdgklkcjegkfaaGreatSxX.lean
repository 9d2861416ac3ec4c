/-
  A symbolic executor for the model's code, part X: frames at entry, results, code.
-/
import Derived.Test.YtpdgklkcjegkfaaGreatSxW
namespace Go.Sx
open Go

/-! ### Frames at entry -/

theorem argsT_get : ∀ (l : List AV) (n : Nat) (t : PT AV) (d : Nat),
    PT.get (Pos.slot d) (argsT l n t) = (if n ≤ d ∧ d < n + l.length then l[d - n]? else PT.get (Pos.slot d) t) := by
  intro l
  induction l with
  | nil => intro n t d; simp [argsT]; omega
  | cons v l ih =>
    intro n t d
    simp only [argsT]
    rw [ih]
    by_cases hd : d = n
    · subst hd
      rw [if_neg (by omega), PT.get_set_same, if_pos (by simp)]
      simp
    · rw [PT.get_set_other _ _ _ _ (fun e => hd (Pos.slot_inj e))]
      by_cases h1 : n + 1 ≤ d ∧ d < n + 1 + l.length
      · rw [if_pos h1, if_pos (by simp; omega)]
        have : d - n = (d - (n + 1)) + 1 := by omega
        rw [this]; simp
      · rw [if_neg h1, if_neg (by simp; omega)]

theorem relL_at {ρ : Env} : ∀ {l : List AV} {r : List Value}, relL ρ l r → l.length = r.length ∧ ∀ (i : Nat) (v : AV), l[i]? = some v → ∃ u, r[i]? = some u ∧ rel ρ v u := by
  intro l
  induction l with
  | nil => intro r h; have : r = [] := by simpa using h
           subst this; exact ⟨rfl, fun i v h => by simp at h⟩
  | cons x l ih =>
    intro r h
    rw [relL_cons] at h
    obtain ⟨u, us, rfl, h1, h2⟩ := h
    obtain ⟨i1, i2⟩ := ih h2
    refine ⟨by simp [i1], fun i v hi => ?_⟩
    cases i with
    | zero => simp at hi; subst hi; exact ⟨u, rfl, h1⟩
    | succ i => simpa using i2 i v (by simpa using hi)

theorem frame_rel {ρ : Env} {fn : Func} {args : List AV} {rargs : List Value} (h : relL ρ args rargs) :
    FR ρ (args.length + (fn.ntmps - args.length)) (frameOf fn args) { tmps := rargs.toArray ++ Array.replicate (fn.ntmps - rargs.toArray.size) undef, defers := [] } := by
  obtain ⟨h1, h2⟩ := relL_at h
  have hget : ∀ d v, PT.get (Pos.slot d) (frameOf fn args).tm = some v →
      d < args.length + (fn.ntmps - args.length) ∧ rel ρ v ((rargs.toArray ++ Array.replicate (fn.ntmps - rargs.toArray.size) undef).getD d undef) := by
    intro d v hv
    simp only [frameOf] at hv
    rw [argsT_get] at hv
    split at hv
    · rename_i hd
      simp only [Nat.zero_le, Nat.zero_add, true_and] at hd
      obtain ⟨u, hu, hr⟩ := h2 _ _ hv
      refine ⟨by omega, ?_⟩
      rw [Array.getD_eq_getD_getElem?, Array.getElem?_append_left (by simp; omega)]
      simp only [List.getElem?_toArray]
      simp only [Nat.sub_zero] at hu
      rw [hu]; exact hr
    · simp at hv
  exact ⟨by simp [h1], fun d v hv => (hget d v hv).1, fun d v hv => (hget d v hv).2, rfl⟩

theorem dOk_mono {n m : Nat} (hnm : n ≤ m) : ∀ {c : Code}, dOk n c = true → dOk m c = true := by
  intro c
  induction c with
  | region id ops draw =>
    intro h
    simp only [dOk, List.all_eq_true] at h ⊢
    intro o ho
    have := h o ho
    cases hd : o.dst with
    | none => rfl
    | some d =>
      rw [hd] at this
      exact Nat.ble_eq_true_of_le (Nat.le_trans (Nat.le_of_ble_eq_true this) hnm)
  | seq a b iha ihb => intro h; simp only [dOk, Bool.and_eq_true] at h ⊢; exact ⟨iha h.1, ihb h.2⟩
  | cond x a b iha ihb => intro h; simp only [dOk, Bool.and_eq_true] at h ⊢; exact ⟨iha h.1, ihb h.2⟩
  | block i c ih => intro h; simp only [dOk] at h ⊢; exact ih h
  | loop c ih => intro h; simp only [dOk] at h ⊢; exact ih h
  | scope c ih => intro h; simp only [dOk] at h ⊢; exact ih h
  | _ => intro h; simp [dOk]

theorem dOk_region {n id : Nat} {ops : Array Oper} {d : Bool} (h : dOk n (.region id ops d) = true) : ops.toList.all (dstOk n) = true := by
  simp only [dOk] at h
  exact h

section
variable {P : Program}

theorem choose1_sound {x : AV} {s s' : AS} {b : Bool} (h : choose1 x s = some (b, s')) : (s'.cons → s.cons) ∧ Same s s' ∧ (s'.cons → ∀ ρ v, rel ρ x v → v = .bool b) := by
  unfold choose1 at h
  split at h
  · simp only [Option.some.injEq, Prod.mk.injEq] at h; obtain ⟨rfl, rfl⟩ := h
    exact ⟨id, Same.refl _, fun _ ρ v hv => by simpa using hv⟩
  · split at h
    · simp only [Option.some.injEq, Prod.mk.injEq] at h; obtain ⟨rfl, rfl⟩ := h
      exact ⟨fun hc => hc.1, ⟨rfl, rfl⟩, fun hc ρ v hv => by simp at hv; rw [hv, hc.2]⟩
    · simp at h
  · simp at h

theorem result_sound {fn : Func} {f : Fr} {s : AS} {v : AV} (h : resultA P fn f s = some v) {ρ : Env} {w : World} {N : Nat} {a : Act} (hr : R ρ s w) (hf : FR ρ N f a) :
    ∃ rv, (results fn a.tmps).run P w = .ok rv w ∧ rel ρ v rv := by
  have key : ∀ (l : List ResultVar) (vs : List AV), mapO (fun (r : ResultVar) => match r with
    | .tmp t => PT.get (Pos.slot t) f.tm
    | .cell a t => match PT.get (Pos.slot a) f.tm with
      | some x => loadT P t x s
      | none => none) l = some vs → ∃ rs, (l.mapM fun (r : ResultVar) => match r with
        | .tmp t => (pure (a.tmps.getD t undef) : Sem Value)
        | .cell c t => do loadVar t (← asAddr (a.tmps.getD c undef))).run P w = .ok rs w ∧ relL ρ vs rs := by
    intro l
    induction l with
    | nil => intro vs h; simp [mapO] at h; subst h; exact ⟨[], by simp, by simp⟩
    | cons r l ih =>
      intro vs h
      simp only [mapO] at h
      split at h
      · simp at h
      · rename_i y hy
        split at h
        · simp at h
        · rename_i ys hys
          simp only [Option.some.injEq] at h; subst h
          obtain ⟨rs, h1, h2⟩ := ih ys hys
          have hd : ∃ rv, (match r with
            | .tmp t => (pure (a.tmps.getD t undef) : Sem Value)
            | .cell c t => do loadVar t (← asAddr (a.tmps.getD c undef))).run P w = .ok rv w ∧ rel ρ y rv := by
            cases r with
            | tmp t => exact ⟨_, by simp, hf.tm t y hy⟩
            | cell c t =>
              simp only at hy
              split at hy
              · rename_i x hx
                have hx2 := hf.tm c x hx
                obtain ⟨rv, g1, g2⟩ := load_some hy hr hx2
                refine ⟨rv, ?_, g2⟩
                have hp : ∃ i o, x = .ptr i o := by
                  unfold loadT at hy
                  split at hy
                  · exact ⟨_, _, rfl⟩
                  · simp at hy
                obtain ⟨i, o, rfl⟩ := hp
                rw [rel_ptr] at hx2
                obtain ⟨l, _, hx2⟩ := hx2
                simp only [Instr.loadAt, hx2, Instr.sureAddr, Sem.run_bind, Sem.run_pure, Result.andThen_ok] at g1
                simp only [hx2, asAddr, Sem.run_bind, Sem.run_pure, Result.andThen_ok]
                exact g1
              · simp at hy
          obtain ⟨rv, g1, g2⟩ := hd
          refine ⟨rv :: rs, ?_, by rw [relL_cons]; exact ⟨rv, rs, rfl, g2, h2⟩⟩
          simp only [List.mapM_cons, Sem.run_bind, g1, Result.andThen_ok, h1, Sem.run_pure]
  unfold resultA at h
  split at h
  · rename_i v' hm
    simp only [Option.some.injEq] at h; subst h
    obtain ⟨rs, h1, h2⟩ := key _ _ hm
    rw [relL_cons] at h2
    obtain ⟨u, us, rfl, g1, g2⟩ := h2
    simp at g2; subst g2
    refine ⟨u, ?_, g1⟩
    unfold results
    rw [Array.mapM_eq_mapM_toList]
    simp only [Sem.run_bind, Sem.run_map, Sem.run_pure]
    refine Eq.trans (congrArg (fun r => Result.andThen (Result.andThen r _) _) h1) ?_
    rfl
  · rename_i l hne hm
    simp only [Option.some.injEq] at h; subst h
    obtain ⟨rs, h1, h2⟩ := key _ _ hm
    refine ⟨.tuple rs.toArray, ?_, by rw [rel_tup]; exact ⟨rs, h2, rfl⟩⟩
    have hl : rs.toArray.size ≠ 1 := by
      intro hs
      have := (relL_at h2).1
      rw [List.size_toArray] at hs
      rw [hs] at this
      match l, this with
      | [x], _ => exact hne x rfl
    unfold results
    rw [Array.mapM_eq_mapM_toList]
    simp only [Sem.run_bind, Sem.run_map, Sem.run_pure]
    refine Eq.trans (congrArg (fun r => Result.andThen (Result.andThen r _) _) h1) ?_
    simp only [List.size_toArray] at hl
    simp [hl]
  · simp at h
end
end Go.Sx
