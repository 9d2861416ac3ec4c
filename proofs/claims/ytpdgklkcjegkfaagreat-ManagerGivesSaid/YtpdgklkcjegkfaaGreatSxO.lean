/-
  A symbolic executor for the model's code, part O: calls, defers; what is noted is kept.
-/
import Derived.Test.YtpdgklkcjegkfaaGreatSxN
namespace Go.Sx
open Go

section
variable {P : Program} {ρ : Env} {s s' : AS} {w : World}

theorem appendA_cons {e : TypeId} {base x v : AV} (h : appendA P e base x s = .v v s') : s'.cons = s.cons := by
  unfold appendA at h
  simp only [cond_eq_ite] at h
  repeat' (split at h)
  all_goals first | (simp at h; done) | (simp only [OR.v.injEq] at h; obtain ⟨_, rfl⟩ := h; rfl)

theorem copyA_cons {e : TypeId} {base x v : AV} (h : copyA P e base x s = .v v s') : s'.cons = s.cons := by
  unfold copyA at h
  simp only [cond_eq_ite] at h
  repeat' (split at h)
  all_goals first | (simp at h; done) | (simp only [OR.v.injEq] at h; obtain ⟨_, rfl⟩ := h; rfl)

theorem convA_cons {a b : TypeId} {x v : AV} (h : convA P a b x s = .v v s') : s'.cons = s.cons := by
  unfold convA at h
  repeat' (split at h)
  all_goals first | (simp at h; done) | (simp only [OR.v.injEq] at h; obtain ⟨_, rfl⟩ := h; rfl)

theorem storeT_cons {t : TypeId} {a x : AV} (h : storeT P t a x s = some s') : s'.cons = s.cons := by
  unfold storeT at h
  simp only [cond_eq_ite] at h
  repeat' (split at h)
  all_goals first | (simp at h; done) | (simp only [Option.some.injEq] at h; subst h; rfl)

theorem updA_cons {t : TypeId} {a k x : AV} (h : updA P t a k x s = some s') : s'.cons = s.cons := by
  unfold updA at h
  simp only [cond_eq_ite] at h
  repeat' (split at h)
  all_goals first | (simp at h; done) | (simp only [Option.some.injEq] at h; subst h; rfl)

theorem stepOp_cons {o : Oper} {ev : Operand → Option AV} {x : AV} (h : stepOp P o ev s = .v x s') : s'.cons = s.cons := by
  obtain ⟨dst, op, type, pos, after, guard⟩ := o
  cases op <;> simp only [stepOp, cond_eq_ite] at h
  case convert =>
    split at h
    · exact convA_cons h
    · simp at h
  case store =>
    split at h
    · split at h
      · rename_i hs
        simp only [OR.v.injEq] at h; obtain ⟨_, rfl⟩ := h
        exact storeT_cons hs
      · simp at h
    · simp at h
  case mapUpdate =>
    split at h
    · split at h
      · rename_i hs
        simp only [OR.v.injEq] at h; obtain ⟨_, rfl⟩ := h
        exact updA_cons hs
      · simp at h
    · simp at h
  case insert =>
    split at h
    · split at h
      · rename_i hs
        simp only [OR.v.injEq] at h; obtain ⟨_, rfl⟩ := h
        exact updA_cons hs
      · simp at h
    · simp at h
  case call c =>
    split at h
    · simp at h
    · split at h
      · split at h
        · unfold callA at h
          split at h
          · rw [cond_eq_ite] at h; split at h <;> simp at h
          · simp at h
        · simp at h
      · split at h
        · split at h
          · exact appendA_cons h
          · exact appendA_cons h
          · simp at h
        · split at h
          · exact copyA_cons h
          · simp at h
        all_goals
          repeat' (split at h)
          all_goals first | (simp at h; done) | (simp only [OR.v.injEq] at h; obtain ⟨_, rfl⟩ := h; rfl)
      · simp at h
  all_goals
    repeat' (split at h)
    all_goals first | (simp at h; done) | (simp only [OR.v.injEq] at h; obtain ⟨_, rfl⟩ := h; rfl)

theorem step_call {o : Oper} {ev : Operand → Option AV} {g : FuncId} {xs : List AV} (h : stepOp P o ev s = .call g xs s') :
    s' = s ∧ ∀ ρ (e : Operand → Value), OpRel ρ ev e → ∃ rargs, relL ρ xs rargs ∧ ∀ w, (execOp e o).run P w = .ok (.enter g rargs.toArray) w := by
  obtain ⟨dst, op, type, pos, after, guard⟩ := o
  cases op <;> simp only [stepOp, cond_eq_ite] at h
  case convert =>
    split at h
    · rcases convA_v h with ⟨_, _, e⟩ | e <;> simp at e
    · simp at h
  case call c =>
    split at h
    · simp at h
    · rename_i args hargs
      split at h
      · rename_i f hcallee
        split at h
        · rename_i fv hf
          have h0 := h
          unfold callA at h0
          have hs : s' = s := by
            split at h0
            · rw [cond_eq_ite] at h0; split at h0
              · simp only [OR.call.injEq] at h0; exact h0.2.2.symm
              · simp at h0
            · simp at h0
          refine ⟨hs, fun ρ e he => ?_⟩
          obtain ⟨_, rargs, g1, g2⟩ := call_run (ρ := ρ) h (he _ _ hf) (evs_rel he hargs)
          refine ⟨rargs, g1, fun w => ?_⟩
          have := g2 w
          simp only [execOp, resolve, hcallee, Sem.run_bind, arr_map] at this ⊢
          exact this
        · simp at h
      · split at h
        · split at h
          · rcases appendA_v h with ⟨_, _, e⟩ | e <;> simp at e
          · rcases appendA_v h with ⟨_, _, e⟩ | e <;> simp at e
          · simp at h
        · split at h
          · rcases copyA_v h with ⟨_, _, e⟩ | e <;> simp at e
          · simp at h
        all_goals
          repeat' (split at h)
          all_goals (simp at h)
      · simp at h
  all_goals
    repeat' (split at h)
    all_goals (simp at h)

theorem step_dfr {o : Oper} {ev : Operand → Option AV} {g : FuncId} {xs : List AV} (h : stepOp P o ev s = .dfr g xs s') :
    s' = s ∧ hasBody P g = true ∧ ∀ ρ (e : Operand → Value), OpRel ρ ev e → ∃ a c, relL ρ xs (a ++ c) ∧ ∀ w, (execOp e o).run P w = .ok (.defer { target := .fn (.func g) c.toArray, args := a.toArray }) w := by
  obtain ⟨dst, op, type, pos, after, guard⟩ := o
  cases op <;> simp only [stepOp, cond_eq_ite] at h
  case convert =>
    split at h
    · rcases convA_v h with ⟨_, _, e⟩ | e <;> simp at e
    · simp at h
  case call c =>
    split at h
    · simp at h
    · split at h
      · split at h
        · unfold callA at h
          split at h
          · rw [cond_eq_ite] at h; split at h <;> simp at h
          · simp at h
        · simp at h
      · split at h
        · split at h
          · rcases appendA_v h with ⟨_, _, e⟩ | e <;> simp at e
          · rcases appendA_v h with ⟨_, _, e⟩ | e <;> simp at e
          · simp at h
        · split at h
          · rcases copyA_v h with ⟨_, _, e⟩ | e <;> simp at e
          · simp at h
        all_goals
          repeat' (split at h)
          all_goals (simp at h)
      · simp at h
  case defer c =>
    split at h
    · rename_i args f hargs hcallee
      split at h
      · rename_i g' first captured hf
        split at h
        · rename_i hb
          simp only [OR.dfr.injEq] at h
          obtain ⟨rfl, rfl, rfl⟩ := h
          refine ⟨rfl, hb, fun ρ e he => ?_⟩
          have hfr := he _ _ hf
          rw [rel_fn] at hfr
          obtain ⟨a', c', h1, h2, e2⟩ := hfr
          refine ⟨a' ++ c.args.toList.map e, c', ?_, fun w => ?_⟩
          · rw [List.append_assoc]; rw [List.append_assoc]; exact relL_append h1 (relL_append (evs_rel he hargs) h2)
          · simp only [execOp, resolve, hcallee, Sem.run_bind, e2, Deferred.ofValue, Sem.run_pure, Result.andThen_ok, arr_map]
            simp
        · simp at h
      · simp at h
    · simp at h
  all_goals
    repeat' (split at h)
    all_goals (simp at h)

/-- What an operation left, in the model; the notes apart. -/
def DidO (P : Program) (ρ : Env) (s : AS) (w : World) (S : Sem Next) (x : AV) (s' : AS) : Prop :=
  ∃ n rv ρ' w', S.run P w = .ok n w' ∧ (n = .value rv ∨ n = .skip ∧ rv = undef) ∧ rel ρ' x rv ∧ Step ρ s w ρ' s' w'

theorem shiftA_some {op : BinOp} {x y : Option AV} {v : AV} {q : Prop} (h : shiftA op x y = some (v, q)) :
    ∃ xa ya k a k' b s1, x = some xa ∧ y = some ya ∧ kindOf xa = some (k, a, s1) ∧ kindOf ya = some (k', b, true) ∧ (q → intOp op k a k' b true false = some v) := by
  unfold shiftA at h
  split at h
  · split at h
    · simp only [Option.some.injEq, Prod.mk.injEq] at h
      obtain ⟨rfl, rfl⟩ := h
      refine ⟨_, _, _, _, _, _, _, rfl, rfl, rfl, rfl, fun hq => ?_⟩
      simp [intOp, Int.not_lt.2 hq, mkInt]
    · simp only [Option.some.injEq, Prod.mk.injEq] at h
      obtain ⟨rfl, rfl⟩ := h
      refine ⟨_, _, _, _, _, _, _, rfl, rfl, rfl, rfl, fun hq => ?_⟩
      simp [intOp, Int.not_lt.2 hq, mkInt]
    · simp at h
  · split at h
    · simp only [Option.some.injEq, Prod.mk.injEq] at h
      obtain ⟨rfl, rfl⟩ := h
      refine ⟨_, _, _, _, _, _, _, rfl, rfl, rfl, rfl, fun hq => ?_⟩
      simp [intOp, Int.not_lt.2 hq, mkInt]
    · simp only [Option.some.injEq, Prod.mk.injEq] at h
      obtain ⟨rfl, rfl⟩ := h
      refine ⟨_, _, _, _, _, _, _, rfl, rfl, rfl, rfl, fun hq => ?_⟩
      simp [intOp, Int.not_lt.2 hq, mkInt]
    · simp at h
  · simp at h

theorem stepOr_v {o : Oper} {ev : Operand → Option AV} {x : AV} (h : stepOr P o ev s = .v x s') :
    (s'.cons → s.cons) ∧ (s'.cons → ∀ ρ w (e : Operand → Value), R ρ s w → OpRel ρ ev e → DidO P ρ s w (execOp e o) x s') := by
  have plain : stepOp P o ev s = .v x s' → (s'.cons → s.cons) ∧ (s'.cons → ∀ ρ w (e : Operand → Value), R ρ s w → OpRel ρ ev e → DidO P ρ s w (execOp e o) x s') := by
    intro h
    refine ⟨fun hc => by rwa [← stepOp_cons h], fun _ ρ w e hr he => ?_⟩
    obtain ⟨n, rv, ρ', w', h1, h2, h3, h4, _⟩ := step_v hr he h
    exact ⟨n, rv, ρ', w', h1, h2, h3, h4⟩
  obtain ⟨dst, op, type, pos, after, guard⟩ := o
  cases op
  case pick c a b =>
    simp only [stepOr] at h
    split at h
    · rename_i y hy
      split at h
      · rename_i d r hr0
        split at h
        · rename_i v hv
          simp only [OR.v.injEq] at h
          obtain ⟨rfl, rfl⟩ := h
          refine ⟨fun hc => hc.1, fun hc ρ w e hr he => ?_⟩
          have hyd : y = d := hc.2
          have hce := he _ _ hy
          simp at hce
          refine ⟨.value (if d then e a else e b), (if d then e a else e b), ρ, w, ?_, .inl rfl, ?_, Step.notes hr _ rfl rfl⟩
          · simp [execOp, hce, asBool, hyd]
          · cases d
            · exact he _ _ hv
            · exact he _ _ hv
        · simp at h
      · simp at h
    · exact plain h
  case binOp bo t y z t' =>
    simp only [stepOr] at h
    split at h
    · rename_i v q hq
      simp only [OR.v.injEq] at h
      obtain ⟨rfl, rfl⟩ := h
      obtain ⟨xa, ya, k, a, k', b, s1, hx, hy, h1, h2, h3⟩ := shiftA_some hq
      refine ⟨fun hc => hc.1, fun hc ρ w e hr he => ?_⟩
      obtain ⟨rv, hrv, hrel⟩ := intOp_run (P := P) (ρ := ρ) (w := w) (h3 hc.2) t
      have r1 := kindOf_rel h1 (he _ _ hx)
      have r2 := kindOf_rel h2 (he _ _ hy)
      refine ⟨.value rv, rv, ρ, w, ?_, .inl rfl, hrel, Step.notes hr _ rfl rfl⟩
      simp only [execOp, r1, r2, Sem.run_bind, run_eqGuard_int, Result.andThen_ok, hrv, Sem.run_pure]
    · exact plain h
  all_goals exact plain h

theorem stepOr_call {o : Oper} {ev : Operand → Option AV} {g : FuncId} {xs : List AV} (h : stepOr P o ev s = .call g xs s') :
    s' = s ∧ ∀ ρ (e : Operand → Value), OpRel ρ ev e → ∃ rargs, relL ρ xs rargs ∧ ∀ w, (execOp e o).run P w = .ok (.enter g rargs.toArray) w := by
  unfold stepOr at h
  repeat' (split at h)
  all_goals first | (simp at h; done) | exact step_call h

theorem stepOr_dfr {o : Oper} {ev : Operand → Option AV} {g : FuncId} {xs : List AV} (h : stepOr P o ev s = .dfr g xs s') :
    s' = s ∧ hasBody P g = true ∧ ∀ ρ (e : Operand → Value), OpRel ρ ev e → ∃ a c, relL ρ xs (a ++ c) ∧ ∀ w, (execOp e o).run P w = .ok (.defer { target := .fn (.func g) c.toArray, args := a.toArray }) w := by
  unfold stepOr at h
  repeat' (split at h)
  all_goals first | (simp at h; done) | exact step_dfr h
end
end Go.Sx
