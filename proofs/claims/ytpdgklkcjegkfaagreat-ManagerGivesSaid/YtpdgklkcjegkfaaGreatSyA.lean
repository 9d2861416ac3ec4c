/-
  Behind the symbolic executor: states that one comes back to; pieces of code.
-/
import Derived.Test.YtpdgklkcjegkfaaGreatSxZ
namespace Go.Sx
open Go

/-! ### What a world is, seen from the start -/

structure Got (w0 : World) (ρ : Env) (s : AS) (w : World) : Prop where
  r : R ρ s w
  lv : ∀ b, Live ρ s b → w0.heap.size ≤ b
  size : w0.heap.size ≤ w.heap.size
  frame : ∀ b, b < w0.heap.size → w.heap[b]? = w0.heap[b]?
  os : w.os = w0.os
  tape : w.tape = w0.tape
  output : w.output = w0.output

theorem Got.step {w0 : World} {ρ ρ' : Env} {s s' : AS} {w w' : World} (h : Got w0 ρ s w) (k : Step ρ s w ρ' s' w') : Got w0 ρ' s' w' where
  r := k.r
  lv b hb := by
    rcases k.lv b hb with h1 | h1
    · exact Nat.le_trans h.size h1
    · exact h.lv b h1
  size := Nat.le_trans h.size k.size
  frame b hb := by
    rw [k.frame b (Nat.lt_of_lt_of_le hb h.size) (fun hl => Nat.lt_irrefl _ (Nat.lt_of_lt_of_le hb (h.lv b hl)))]
    exact h.frame b hb
  os := k.os.trans h.os
  tape := k.tape.trans h.tape
  output := k.output.trans h.output

theorem R.none (s : AS) (w : World) : R (fun _ => .none) s w := ⟨fun _ _ _ _ h => (by cases h), fun _ _ _ _ _ _ _ _ _ _ h => (by cases h), fun _ _ h => (by cases h)⟩

theorem Got.init (s : AS) (w : World) : Got w (fun _ => .none) s w :=
  ⟨R.none s w, fun _ ⟨_, _, _, _, _, h, _⟩ => (by cases h), Nat.le_refl _, fun _ _ => rfl, rfl, rfl, rfl⟩

/-! ### Templates -/

/-- The ids below a bound. -/
def cut (ρ : Env) (N : Nat) : Env := fun i => if i.nat < N then ρ i else none

theorem cut_sub (ρ : Env) (N : Nat) : Sub (cut ρ N) ρ := fun i l h => by
  unfold cut at h
  split at h
  · exact h
  · cases h

theorem cut_get {ρ : Env} {N : Nat} {i : Pos} {l : Loc} (h : i.nat < N) (e : ρ i = some l) : cut ρ N i = some l := by simp [cut, h, e]

mutual
def below (N : Nat) : AV → Bool
  | .ptr i _ => Nat.blt i.nat N
  | .slc i _ _ _ => Nat.blt i.nat N
  | .map i => Nat.blt i.nat N
  | .fn _ a c => belowL N a && belowL N c
  | .ifc _ x => below N x
  | .agg cs => belowL N cs
  | .tup cs => belowL N cs
  | _ => true
def belowL (N : Nat) : List AV → Bool
  | [] => true
  | x :: xs => below N x && belowL N xs
end

theorem blt_lt {a b : Nat} (h : Nat.blt a b = true) : a < b := Nat.le_of_ble_eq_true h

mutual
theorem below_rel {ρ : Env} {N : Nat} : ∀ (x : AV) (v : Value), below N x = true → rel ρ x v → rel (cut ρ N) x v
  | .int _ _, _, _, r | .sint _ _, _, _, r | .bool _, _, _, r | .sbool _, _, _, r | .str _, _, _, r | .nilp, _, _, r | .nils, _, _, r | .nilm, _, _, r | .nilf, _, _, r | .nili, _, _, r | .raw _, _, _, r => by
    simp only [rel] at r ⊢; exact r
  | .ptr i o, v, b, r => by
    simp only [rel, below] at r b ⊢; obtain ⟨l, hl, e⟩ := r; exact ⟨l, cut_get (blt_lt b) hl, e⟩
  | .map i, v, b, r => by
    simp only [rel, below] at r b ⊢; obtain ⟨l, hl, e⟩ := r; exact ⟨l, cut_get (blt_lt b) hl, e⟩
  | .slc i o n c, v, b, r => by
    simp only [rel, below] at r b ⊢; obtain ⟨l, off, rc, hl, e⟩ := r; exact ⟨l, off, rc, cut_get (blt_lt b) hl, e⟩
  | .fn f a c, v, b, r => by
    simp only [rel, below, Bool.and_eq_true] at r b ⊢; obtain ⟨a', c', h1, h2, e⟩ := r; exact ⟨a', c', belowL_rel a a' b.1 h1, belowL_rel c c' b.2 h2, e⟩
  | .ifc t x, v, b, r => by simp only [rel, below] at r b ⊢; obtain ⟨y, h1, e⟩ := r; exact ⟨y, below_rel x y b h1, e⟩
  | .agg cs, v, b, r => by simp only [rel, below] at r b ⊢; obtain ⟨l, h1, e⟩ := r; exact ⟨l, belowL_rel cs l b h1, e⟩
  | .tup cs, v, b, r => by simp only [rel, below] at r b ⊢; obtain ⟨l, h1, e⟩ := r; exact ⟨l, belowL_rel cs l b h1, e⟩
theorem belowL_rel {ρ : Env} {N : Nat} : ∀ (x : List AV) (v : List Value), belowL N x = true → relL ρ x v → relL (cut ρ N) x v
  | [], _, _, r => by simp only [relL] at r ⊢; exact r
  | x :: xs, l, b, r => by
    simp only [relL, belowL, Bool.and_eq_true] at r b ⊢; obtain ⟨y, ys, e, h1, h2⟩ := r; exact ⟨y, ys, e, below_rel x y b.1 h1, belowL_rel xs ys b.2 h2⟩
end

mutual
/-- The first says less than the second, or as much. -/
def leV : AV → AV → Option (List Prop)
  | .sint k n, .int k' m => bif decide (k = k') then some [n = m] else none
  | .sbool b, .bool c => some [b = c]
  | .fn f a c, .fn g b d => bif decide (f = g) then match leVs a b with
      | some l => match leVs c d with
        | some m => some (l ++ m)
        | none => none
      | none => none
    else none
  | .ifc t v, .ifc u w => bif Nat.beq t u then leV v w else none
  | .agg a, .agg b => leVs a b
  | .tup a, .tup b => leVs a b
  | t, v => eqC t v
def leVs : List AV → List AV → Option (List Prop)
  | [], [] => some []
  | x :: xs, y :: ys => match leV x y with
    | some l => match leVs xs ys with
      | some m => some (l ++ m)
      | none => none
    | none => none
  | _, _ => none
end

mutual
theorem leV_sound {ρ : Env} : ∀ (t v : AV) (x : Value) (ps : List Prop), leV t v = some ps → (∀ p ∈ ps, p) → rel ρ v x → rel ρ t x := by
  intro t v x ps h hp r
  have plain : eqC t v = some ps → rel ρ t x := fun h => by rw [eqC_sound t v ps h hp]; exact r
  cases t with
  | sint k n =>
    cases v with
    | int k' m =>
      simp only [leV, cond_eq_ite] at h
      split at h
      · rename_i hk
        have hk := of_decide_eq_true hk
        simp at h; subst h; subst hk
        have : n = m := hp _ (List.Mem.head _)
        subst this
        simpa using r
      · simp at h
    | _ => exact plain (by simpa only [leV] using h)
  | sbool b =>
    cases v with
    | bool c =>
      simp only [leV, Option.some.injEq] at h
      subst h
      have : b = c := hp _ (List.Mem.head _)
      subst this
      simpa using r
    | _ => exact plain (by simpa only [leV] using h)
  | fn f a c =>
    cases v with
    | fn g b d =>
      simp only [leV, cond_eq_ite] at h
      split at h
      · rename_i hf
        have hf := of_decide_eq_true hf
        split at h
        · rename_i l hl
          split at h
          · rename_i m hm
            simp at h; subst h
            rw [rel_fn] at r ⊢
            obtain ⟨a', c', h1, h2, e⟩ := r
            exact ⟨a', c', leVs_sound a b a' l hl (fun p hq => hp p (by simp [hq])) h1, leVs_sound c d c' m hm (fun p hq => hp p (by simp [hq])) h2, by rw [hf]; exact e⟩
          · simp at h
        · simp at h
      · simp at h
    | _ => exact plain (by simpa only [leV] using h)
  | ifc t y =>
    cases v with
    | ifc u z =>
      simp only [leV, cond_eq_ite] at h
      split at h
      · rename_i ht
        have ht := Nat.eq_of_beq_eq_true ht
        rw [rel_ifc] at r ⊢
        obtain ⟨q, h1, e⟩ := r
        exact ⟨q, leV_sound y z q ps h hp h1, by rw [ht]; exact e⟩
      · simp at h
    | _ => exact plain (by simpa only [leV] using h)
  | agg a =>
    cases v with
    | agg b =>
      simp only [leV] at h
      rw [rel_agg] at r ⊢
      obtain ⟨l, h1, e⟩ := r
      exact ⟨l, leVs_sound a b l ps h hp h1, e⟩
    | _ => exact plain (by simpa only [leV] using h)
  | tup a =>
    cases v with
    | tup b =>
      simp only [leV] at h
      rw [rel_tup] at r ⊢
      obtain ⟨l, h1, e⟩ := r
      exact ⟨l, leVs_sound a b l ps h hp h1, e⟩
    | _ => exact plain (by simpa only [leV] using h)
  | _ => exact plain (by simpa only [leV] using h)
termination_by t => SizeOf.sizeOf t
theorem leVs_sound {ρ : Env} : ∀ (t v : List AV) (x : List Value) (ps : List Prop), leVs t v = some ps → (∀ p ∈ ps, p) → relL ρ v x → relL ρ t x := by
  intro t v x ps h hp r
  cases t with
  | nil =>
    cases v with
    | nil => exact r
    | cons y ys => simp [leVs] at h
  | cons a as =>
    cases v with
    | nil => simp [leVs] at h
    | cons y ys =>
      simp only [leVs] at h
      split at h
      · rename_i l hl
        split at h
        · rename_i m hm
          simp at h; subst h
          rw [relL_cons] at r ⊢
          obtain ⟨u, us, e, h1, h2⟩ := r
          exact ⟨u, us, e, leV_sound a y u l hl (fun p hq => hp p (by simp [hq])) h1, leVs_sound as ys us m hm (fun p hq => hp p (by simp [hq])) h2⟩
        · simp at h
      · simp at h
termination_by t => SizeOf.sizeOf t
end

def mkH : List (Pos × List AV) → PT AObj
  | [] => .e
  | (i, cs) :: l => PT.set (.cells cs) i (mkH l)

def mkF : List (Nat × AV) → PT AV
  | [] => .e
  | (t, v) :: l => PT.set v (Pos.slot t) (mkF l)

theorem mkH_get : ∀ {l : List (Pos × List AV)} {i : Pos} {o : AObj}, PT.get i (mkH l) = some o → ∃ cs, o = .cells cs ∧ (i, cs) ∈ l := by
  intro l
  induction l with
  | nil => intro i o h; simp [mkH] at h
  | cons p l ih =>
    obtain ⟨j, cs⟩ := p
    intro i o h
    simp only [mkH] at h
    by_cases e : i = j
    · subst e
      rw [PT.get_set_same] at h; injection h with h
      exact ⟨cs, h.symm, by simp⟩
    · rw [PT.get_set_other _ _ _ _ e] at h
      obtain ⟨cs', h1, h2⟩ := ih h
      exact ⟨cs', h1, by simp [h2]⟩

theorem mkF_get : ∀ {l : List (Nat × AV)} {t : Nat} {v : AV}, PT.get (Pos.slot t) (mkF l) = some v → (t, v) ∈ l := by
  intro l
  induction l with
  | nil => intro t v h; simp [mkF] at h
  | cons p l ih =>
    obtain ⟨j, u⟩ := p
    intro t v h
    simp only [mkF] at h
    by_cases e : t = j
    · subst e
      rw [PT.get_set_same] at h; injection h with h
      simp [h]
    · rw [PT.get_set_other _ _ _ _ (fun h => e (Pos.slot_inj h))] at h
      simp [ih h]

def fitH (N : Nat) (h : PT AObj) : List (Pos × List AV) → Option (List Prop)
  | [] => some []
  | (i, cs) :: l => bif Nat.blt i.nat N && belowL N cs then match PT.get i h with
      | some (.cells ds) => match leVs cs ds with
        | some ps => match fitH N h l with
          | some qs => some (ps ++ qs)
          | none => none
        | none => none
      | _ => none
    else none

def fitF (N : Nat) (h : PT AV) : List (Nat × AV) → Option (List Prop)
  | [] => some []
  | (t, v) :: l => bif below N v then match PT.get (Pos.slot t) h with
      | some u => match leV v u with
        | some ps => match fitF N h l with
          | some qs => some (ps ++ qs)
          | none => none
        | none => none
      | _ => none
    else none

theorem fitH_mem {N : Nat} {h : PT AObj} : ∀ {l : List (Pos × List AV)} {ps : List Prop}, fitH N h l = some ps → (∀ p ∈ ps, p) → ∀ i cs, (i, cs) ∈ l →
    i.nat < N ∧ belowL N cs = true ∧ ∃ ds qs, PT.get i h = some (.cells ds) ∧ leVs cs ds = some qs ∧ ∀ p ∈ qs, p := by
  intro l
  induction l with
  | nil => intro ps _ _ i cs hm; simp at hm
  | cons p l ih =>
    obtain ⟨j, ds⟩ := p
    intro ps hf hp i cs hm
    simp only [fitH, cond_eq_ite] at hf
    split at hf
    · rename_i hb
      simp only [Bool.and_eq_true] at hb
      split at hf
      · rename_i es hg
        split at hf
        · rename_i qs hq
          split at hf
          · rename_i rs hr
            simp at hf; subst hf
            simp only [List.mem_cons, Prod.mk.injEq] at hm
            rcases hm with ⟨rfl, rfl⟩ | hm
            · exact ⟨blt_lt hb.1, hb.2, es, qs, hg, hq, fun p h => hp p (by simp [h])⟩
            · exact ih hr (fun p h => hp p (by simp [h])) i cs hm
          · simp at hf
        · simp at hf
      · simp at hf
    · simp at hf

theorem fitF_mem {N : Nat} {h : PT AV} : ∀ {l : List (Nat × AV)} {ps : List Prop}, fitF N h l = some ps → (∀ p ∈ ps, p) → ∀ t v, (t, v) ∈ l →
    below N v = true ∧ ∃ u qs, PT.get (Pos.slot t) h = some u ∧ leV v u = some qs ∧ ∀ p ∈ qs, p := by
  intro l
  induction l with
  | nil => intro ps _ _ i cs hm; simp at hm
  | cons p l ih =>
    obtain ⟨j, ds⟩ := p
    intro ps hf hp i cs hm
    simp only [fitF, cond_eq_ite] at hf
    split at hf
    · rename_i hb
      split at hf
      · rename_i es hg
        split at hf
        · rename_i qs hq
          split at hf
          · rename_i rs hr
            simp at hf; subst hf
            simp only [List.mem_cons, Prod.mk.injEq] at hm
            rcases hm with ⟨rfl, rfl⟩ | hm
            · exact ⟨hb, es, qs, hg, hq, fun p h => hp p (by simp [h])⟩
            · exact ih hr (fun p h => hp p (by simp [h])) i cs hm
          · simp at hf
        · simp at hf
      · simp at hf
    · simp at hf

/-- One comes back to a template. -/
theorem fit_sound {w0 w : World} {ρ : Env} {f : Fr} {s : AS} {M : Nat} {a : Act} {next : Pos} {hs : List (Pos × List AV)} {fs : List (Nat × AV)} {ps qs : List Prop}
    (h1 : fitH next.nat s.heap hs = some ps) (h2 : fitF next.nat f.tm fs = some qs) (hp : ∀ p ∈ ps, p) (hq : ∀ q ∈ qs, q) (hd : f.ds = []) (orc : List Bool) (cons : Prop)
    (g : Got w0 ρ s w) (hf : FR ρ M f a) : Got w0 (cut ρ next.nat) ⟨mkH hs, next, orc, cons⟩ w ∧ FR (cut ρ next.nat) M ⟨mkF fs, []⟩ a := by
  have key : ∀ i o, PT.get i (mkH hs) = some o → ∃ cs ds qs, o = .cells cs ∧ i.nat < next.nat ∧ belowL next.nat cs = true ∧ PT.get i s.heap = some (.cells ds) ∧ leVs cs ds = some qs ∧ ∀ p ∈ qs, p := by
    intro i o ho
    obtain ⟨cs, rfl, hm⟩ := mkH_get ho
    obtain ⟨a1, a2, ds, qs, a3, a4, a5⟩ := fitH_mem h1 hp i cs hm
    exact ⟨cs, ds, qs, rfl, a1, a2, a3, a4, a5⟩
  refine ⟨⟨⟨?_, ?_, ?_⟩, ?_, g.size, g.frame, g.os, g.tape, g.output⟩, hf.size, ?_, ?_, ?_⟩
  · intro i o l ho hl
    obtain ⟨cs, ds, qs, rfl, a1, a2, a3, a4, a5⟩ := key i o ho
    obtain ⟨C, E, fr, L, b1, b2, b3, b4, b5, b6⟩ := g.r.ob i _ l a3 (cut_sub _ _ _ _ hl)
    exact ⟨C, E, fr, L, b1, b2, b3, belowL_rel _ _ a2 (leVs_sound cs ds L qs a4 a5 b4), b5, b6⟩
  · intro i j o o' l l' ho hlo hj hlj hi hj' hb
    obtain ⟨cs, ds, qs, rfl, a1, a2, a3, a4, a5⟩ := key i o ho
    obtain ⟨cs', ds', qs', rfl, c1, c2, c3, c4, c5⟩ := key j o' hj
    exact g.r.inj i j _ _ l l' a3 rfl c3 rfl (cut_sub _ _ _ _ hi) (cut_sub _ _ _ _ hj') hb
  · intro i l hl
    have h1 := (g.r.dom i l (cut_sub _ _ _ _ hl)).2
    refine ⟨?_, h1⟩
    unfold cut at hl
    split at hl
    · assumption
    · cases hl
  · rintro b ⟨i, o, l, ho, hlo, hl, rfl⟩
    obtain ⟨cs, ds, qs, rfl, a1, a2, a3, a4, a5⟩ := key i o ho
    exact g.lv l.b ⟨i, _, l, a3, rfl, cut_sub _ _ _ _ hl, rfl⟩
  · intro d v hv
    obtain ⟨_, u, qs, b1, _, _⟩ := fitF_mem h2 hq d v (mkF_get hv)
    exact hf.dom d u b1
  · intro d v hv
    obtain ⟨b0, u, qs, b1, b2, b3⟩ := fitF_mem h2 hq d v (mkF_get hv)
    exact below_rel _ _ b0 (leV_sound v u _ qs b2 b3 (hf.tm d u b1))
  · have := hf.ds
    rw [hd] at this
    exact this
end Go.Sx
