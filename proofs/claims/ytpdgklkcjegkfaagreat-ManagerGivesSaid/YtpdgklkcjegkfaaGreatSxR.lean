/-
  A symbolic executor for the model's code, part R: a region that draws its order: what its trace says.
-/
import Derived.Test.YtpdgklkcjegkfaaGreatSxQ
namespace Go.Sx
open Go

theorem mapO_congr {α β : Type} {f g : α → Option β} : ∀ {l : List α}, (∀ x ∈ l, f x = g x) → mapO f l = mapO g l := by
  intro l
  induction l with
  | nil => intro _; rfl
  | cons x l ih =>
    intro h
    simp only [mapO]
    rw [h x (by simp), ih (fun y hy => h y (by simp [hy]))]

section
variable {P : Program}

theorem evs_congr {ev ev' : Operand → Option AV} {xs : Array Operand} (h : ∀ y ∈ xs, ev y = ev' y) : evs ev xs = evs ev' xs := by
  unfold evs
  exact mapO_congr fun x hx => h x (by simpa using hx)

theorem stepOp_congr {o : Oper} {ev ev' : Operand → Option AV} (h : ∀ y ∈ o.op.operands, ev y = ev' y) (s : AS) : stepOp P o ev s = stepOp P o ev' s := by
  obtain ⟨dst, op, type, pos, after, guard⟩ := o
  cases op
  case build t ps =>
    have hm : mapO (fun (x : Nat × Operand) => (ev x.2).map fun y => (x.1, y)) ps.toList = mapO (fun (x : Nat × Operand) => (ev' x.2).map fun y => (x.1, y)) ps.toList :=
      mapO_congr fun x hx => by rw [h x.2 (by simp [Op.operands]; exact ⟨x.1, by simpa using hx⟩)]
    simp only [stepOp]
    rw [hm]
  case buildSlice t n ps =>
    have hm : mapO (fun (x : Nat × Operand) => (ev x.2).map fun y => (x.1, y)) ps.toList = mapO (fun (x : Nat × Operand) => (ev' x.2).map fun y => (x.1, y)) ps.toList :=
      mapO_congr fun x hx => by rw [h x.2 (by simp [Op.operands]; exact ⟨x.1, by simpa using hx⟩)]
    simp only [stepOp]
    rw [hm]
  case makeFunc fn a b =>
    simp only [stepOp]
    rw [evs_congr (xs := a) (fun y hy => h y (by simp [Op.operands, hy])), evs_congr (xs := b) (fun y hy => h y (by simp [Op.operands, hy]))]
  case call c =>
    obtain ⟨callee, args, tys⟩ := c
    simp only [stepOp]
    rw [evs_congr (xs := args) (fun y hy => h y (by simp [Op.operands, Call.operands, hy]))]
    cases callee with
    | value f =>
      have hf := h f (by simp [Op.operands, Call.operands])
      simp only [hf]
    | builtin b => rfl
    | invoke r m => rfl
  case defer c =>
    obtain ⟨callee, args, tys⟩ := c
    simp only [stepOp]
    rw [evs_congr (xs := args) (fun y hy => h y (by simp [Op.operands, Call.operands, hy]))]
    cases evs ev' args with
    | none => rfl
    | some as =>
      cases callee with
      | value f =>
        have hf := h f (by simp [Op.operands, Call.operands])
        simp only [hf]
      | builtin b => rfl
      | invoke r m => rfl
  case slice t x lo hi mx =>
    simp only [stepOp]
    have h1 : ∀ (z : Option Operand), (∀ y, z = some y → ev y = ev' y) → evO ev z = evO ev' z := by
      intro z hz
      cases z with
      | none => rfl
      | some y => simp only [evO, hz y rfl]
    rw [h x (by simp [Op.operands]), h1 lo (fun y hy => h y (by subst hy; simp [Op.operands])), h1 hi (fun y hy => h y (by subst hy; simp [Op.operands])), h1 mx (fun y hy => h y (by subst hy; simp [Op.operands]))]
  case makeMap t r =>
    simp only [stepOp]
    have h1 : evO ev r = evO ev' r := by
      cases r with
      | none => rfl
      | some y => simp only [evO, h y (by simp [Op.operands])]
    rw [h1]
  all_goals first
    | rfl
    | (simp [Op.operands] at h; simp [stepOp, h])

theorem stepOr_congr {o : Oper} {ev ev' : Operand → Option AV} (h : ∀ y ∈ o.op.operands, ev y = ev' y) (s : AS) : stepOr P o ev s = stepOr P o ev' s := by
  have hs := stepOp_congr (P := P) h s
  obtain ⟨dst, op, type, pos, after, guard⟩ := o
  cases op
  case pick c a b =>
    simp only [stepOr]
    rw [hs, h c (by simp [Op.operands]), h a (by simp [Op.operands]), h b (by simp [Op.operands])]
  case binOp bo t a b t' =>
    simp only [stepOr]
    rw [hs, h a (by simp [Op.operands]), h b (by simp [Op.operands])]
  all_goals exact hs

open Classical in
/-- Operands that an operation does not have tell nothing. -/
noncomputable def restr (o : Oper) (ev : Operand → Option AV) : Operand → Option AV := fun y => if y ∈ o.op.operands then ev y else none

theorem restr_eq (o : Oper) (ev : Operand → Option AV) : ∀ y ∈ o.op.operands, restr o ev y = ev y := fun y hy => by simp [restr, hy]

theorem restr_rel {ρ : Env} {o : Oper} {ev : Operand → Option AV} {e : Operand → Value} (h : ∀ y ∈ o.op.operands, ∀ x, ev y = some x → rel ρ x (e y)) : OpRel ρ (restr o ev) e := by
  intro y x hx
  unfold restr at hx
  split at hx
  · rename_i hy; exact h y hy x hx
  · simp at hx

theorem stepOp_idle {o : Oper} {ev : Operand → Option AV} {x : AV} {s s' : AS} (hc : cls P o = .pur ∨ cls P o = .read) (h : stepOp P o ev s = .v x s') : s' = s := by
  obtain ⟨dst, op, type, pos, after, guard⟩ := o
  cases op <;> simp only [stepOp, cond_eq_ite] at h
  case convert src dst a =>
    simp only [cls] at hc
    split at h
    · unfold convA at h
      repeat' (split at h)
      all_goals first
        | (simp at h; done)
        | (simp only [OR.v.injEq] at h; exact h.2.symm)
        | (rename_i h1 h2 _ _ _; simp [h1, h2] at hc; done)
        | (rename_i h1 h2 _ _ _ _; simp [h1, h2] at hc; done)
        | (simp_all; done)
    · simp at h
  case call c =>
    split at h
    · simp at h
    · split at h
      · rename_i hcal; simp [cls, hcal] at hc
      · rename_i b hcal
        split at h
        · simp [cls, hcal] at hc
        · simp [cls, hcal] at hc
        all_goals
          repeat' (split at h)
          all_goals first | (simp at h; done) | (simp only [OR.v.injEq] at h; exact h.2.symm)
      · simp at h
  all_goals first
    | (simp [cls] at hc; done)
    | (repeat' (split at h)
       all_goals first | (simp at h; done) | (simp only [OR.v.injEq] at h; exact h.2.symm))

/-- Two states with one memory. -/
def Same (s s' : AS) : Prop := s'.heap = s.heap ∧ s'.next = s.next

theorem stepOr_idle {o : Oper} {ev : Operand → Option AV} {x : AV} {s s' : AS} (hc : cls P o = .pur ∨ cls P o = .read) (h : stepOr P o ev s = .v x s') : Same s s' := by
  unfold stepOr at h
  repeat' (split at h)
  all_goals first
    | (simp at h; done)
    | (simp only [OR.v.injEq] at h; obtain ⟨_, rfl⟩ := h; exact ⟨rfl, rfl⟩)
    | (have := stepOp_idle hc h; subst this; exact ⟨rfl, rfl⟩)

theorem Same.refl (s : AS) : Same s s := ⟨rfl, rfl⟩
theorem Same.trans {a b c : AS} (h : Same a b) (k : Same b c) : Same a c := ⟨k.1.trans h.1, k.2.trans h.2⟩

theorem Live.of_same {ρ : Env} {s s' : AS} (h : Same s s') {b : Nat} (k : Live ρ s' b) : Live ρ s b := by
  obtain ⟨i, o, l, e, r⟩ := k
  exact ⟨i, o, l, h.1 ▸ e, r⟩

theorem Same.symm {a b : AS} (h : Same a b) : Same b a := ⟨h.1.symm, h.2.symm⟩

theorem R.of_same {ρ : Env} {s s' : AS} {w : World} (h : Same s s') (hr : R ρ s w) : R ρ s' w := hr.notes s' h.1 h.2

/-- A step from and to states with the same memories. -/
theorem Step.of_same {ρ ρ' : Env} {s t s' t' : AS} {w w' : World} (h : Same s t) (h' : Same s' t') (k : Step ρ s w ρ' s' w') : Step ρ t w ρ' t' w' where
  r := k.r.of_same h'
  same i hi := k.same i (by rw [← h.2]; exact hi)
  next := by rw [h.2, h'.2]; exact k.next
  lv b hb := by
    rcases k.lv b (hb.of_same h') with h1 | h1
    · exact .inl h1
    · exact .inr (h1.of_same h.symm)
  size := k.size
  frame b hb hn := k.frame b hb fun hl => hn (hl.of_same h.symm)
  os := k.os
  tape := k.tape
  output := k.output
end
end Go.Sx
