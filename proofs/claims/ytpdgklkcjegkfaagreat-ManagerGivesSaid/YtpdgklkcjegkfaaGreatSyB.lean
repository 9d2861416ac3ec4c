/-
  Behind the symbolic executor: code in pieces, each from a template to a template.
-/
import Derived.Test.YtpdgklkcjegkfaaGreatSyA
namespace Go.Sx
open Go

def holdsO : Option Prop → Prop
  | some p => p
  | none => False

def joinC : List Code → Code → Code
  | [], c => c
  | x :: l, c => .seq x (joinC l c)

def isX : Option Nat → AX → Bool
  | none, .normal => true
  | some i, .exit j => Nat.beq i j
  | _, _ => false

/-- The first pieces; the code behind them. -/
def splitC : Nat → Code → List Code × Code
  | 0, c => ([], c)
  | k + 1, .seq a b => (a :: (splitC k b).1, (splitC k b).2)
  | _ + 1, c => ([], c)

theorem join_split : ∀ (k : Nat) (c : Code), joinC (splitC k c).1 (splitC k c).2 = c := by
  intro k
  induction k with
  | zero => intro c; rfl
  | succ k ih =>
    intro c
    cases c <;> simp only [splitC, joinC]
    rw [ih]

section
variable (P : Program)

def evL (K : FuncId → List AV → AS → Option CR) (n : Nat) : List Code → Fr → AS → ER
  | [], f, s => .at .normal f s
  | c :: l, f, s => match ev P K n c f s with
    | .at .normal f s => evL K n l f s
    | e => e

def fitO (next : Pos) (hs : List (Pos × List AV)) (fs : List (Nat × AV)) (x : Option Nat) : ER → Option Prop
  | .at y f s => bif isX x y then
    match fitH next.nat s.heap hs with
    | some ps => match fitF next.nat f.tm fs with
      | some qs => match f.ds with
        | [] => some (allP ps (allP qs s.cons))
        | _ => none
      | none => none
    | none => none
    else none
  | _ => none

def endO (fn : Func) : ER → Option Prop
  | .at .ret f s => match resultA P fn f s with
    | some (.bool b) => match f.ds with
      | [] => some (s.cons ∧ b = true)
      | _ => none
    | some (.sbool b) => match f.ds with
      | [] => some (s.cons ∧ b = true)
      | _ => none
    | _ => none
  | _ => none
end

section
variable {P : Program} {K : FuncId → List AV → AS → Option CR}

theorem evL_sound (hK : CallOK P fun g args s => (K g args s).getD .fail) (hm : P.follows .mixedOrders = true) (n M : Nat) : ∀ (l : List Code), (l.all (dOk M) = true) → ∀ f s f' s' x,
    evL P K n l f s = .at x f' s' → (s'.cons → s.cons) ∧ (s'.cons → ∀ ρ w a (Q : Exit → Act → World → Prop) (c : Code), R ρ s w → FR ρ M f a →
      (∀ e ρ' a' w', XR ρ' x e → FR ρ' M f' a' → Step ρ s w ρ' s' w' → Exit.then (c.wp P Q) Q e a' w') → (joinC l c).wp P Q a w) := by
  intro l
  induction l with
  | nil =>
    intro _ f s f' s' x h
    simp only [evL, ER.at.injEq] at h
    obtain ⟨rfl, rfl, rfl⟩ := h
    exact ⟨id, fun _ ρ w a Q c hr hf hq => hq .normal ρ a w rfl hf (Step.refl hr)⟩
  | cons c0 l ih =>
    intro hd f s f' s' x h
    simp only [List.all_cons, Bool.and_eq_true] at hd
    have h0 := (sx_sound hK hm n).1 c0 M f s hd.1
    simp only [evL] at h
    split at h
    · rename_i f1 s1 hr
      rw [hr] at h0
      obtain ⟨i1, i2⟩ := ih hd.2 _ _ _ _ _ h
      refine ⟨fun hc => h0.1 (i1 hc), fun hc ρ w a Q c hr hf hq => ?_⟩
      refine wp_seq (h0.2 (i1 hc) ρ w a _ hr hf fun e ρ' a' w' k1 k2 k3 => ?_)
      have k1 : e = .normal := k1
      subst k1
      exact i2 hc ρ' w' a' Q c k3.r k2 fun e ρ2 a2 w2 q1 q2 q3 => hq e ρ2 a2 w2 q1 q2 (k3.trans q3)
    · rename_i hne
      rw [h] at h0
      refine ⟨h0.1, fun hc ρ w a Q c hr hf hq => wp_seq (h0.2 hc ρ w a _ hr hf fun e ρ' a' w' k1 k2 k3 => ?_)⟩
      have := hq e ρ' a' w' k1 k2 k3
      cases x with
      | normal => exact absurd h (hne f' s')
      | exit i => have k1 : e = .exit i := k1; subst k1; exact this
      | ret => have k1 : e = .ret := k1; subst k1; exact this
      | pan v => obtain ⟨rv, _, rfl⟩ := k1; exact this

/-- From a state to a template. -/
theorem chunk (hK : CallOK P fun g args s => (K g args s).getD .fail) (hm : P.follows .mixedOrders = true) {n M : Nat} {l : List Code} (hd : l.all (dOk M) = true) {f : Fr} {s : AS} {next : Pos} {hs : List (Pos × List AV)} {fs : List (Nat × AV)}
    (hh : holdsO (fitO next hs fs none (evL P K n l f s))) {w0 w : World} {ρ : Env} {a : Act} (g : Got w0 ρ s w) (hf : FR ρ M f a) {Q : Exit → Act → World → Prop} {c : Code}
    (k : ∀ ρ' a' w' orc, Got w0 ρ' ⟨mkH hs, next, orc, True⟩ w' → FR ρ' M ⟨mkF fs, []⟩ a' → c.wp P Q a' w') : (joinC l c).wp P Q a w := by
  cases hr : evL P K n l f s with
  | fail => rw [hr] at hh; exact hh.elim
  | «at» x f' s' =>
    rw [hr] at hh
    simp only [fitO, cond_eq_ite] at hh
    split at hh
    · rename_i hx
      split at hh
      · rename_i ps hps
        split at hh
        · rename_i qs hqs
          split at hh
          · rename_i hds
            have hx : x = .normal := by
              cases x <;> first | rfl | simp [isX] at hx
            subst hx
            have hh : allP ps (allP qs s'.cons) := hh
            obtain ⟨h1, h2⟩ := allP_out hh
            obtain ⟨h3, h4⟩ := allP_out h1
            refine (evL_sound hK hm n M l hd _ _ _ _ _ hr).2 h3 ρ w a Q c g.r hf fun e ρ' a' w' k1 k2 k3 => ?_
            have k1 : e = .normal := k1
            subst k1
            obtain ⟨g1, g2⟩ := fit_sound hps hqs h2 h4 hds [] True (g.step k3) k2
            exact k _ a' w' [] g1 g2
          · exact hh.elim
        · exact hh.elim
      · exact hh.elim
    · exact hh.elim

/-- The same, where a loop is left. -/
theorem chunk_exit (hK : CallOK P fun g args s => (K g args s).getD .fail) (hm : P.follows .mixedOrders = true) {n M i : Nat} {l : List Code} (hd : l.all (dOk M) = true) {f : Fr} {s : AS} {next : Pos} {hs : List (Pos × List AV)} {fs : List (Nat × AV)}
    (hh : holdsO (fitO next hs fs (some i) (evL P K n l f s))) {w0 w : World} {ρ : Env} {a : Act} (g : Got w0 ρ s w) (hf : FR ρ M f a) {Q : Exit → Act → World → Prop} {c : Code}
    (k : ∀ ρ' a' w' orc, Got w0 ρ' ⟨mkH hs, next, orc, True⟩ w' → FR ρ' M ⟨mkF fs, []⟩ a' → Q (.exit i) a' w') : (joinC l c).wp P Q a w := by
  cases hr : evL P K n l f s with
  | fail => rw [hr] at hh; exact hh.elim
  | «at» x f' s' =>
    rw [hr] at hh
    simp only [fitO, cond_eq_ite] at hh
    split at hh
    · rename_i hx
      split at hh
      · rename_i ps hps
        split at hh
        · rename_i qs hqs
          split at hh
          · rename_i hds
            have hx : x = .exit i := by
              cases x with
              | exit j => simp only [isX] at hx; rw [Nat.eq_of_beq_eq_true hx]
              | _ => simp [isX] at hx
            subst hx
            have hh : allP ps (allP qs s'.cons) := hh
            obtain ⟨h1, h2⟩ := allP_out hh
            obtain ⟨h3, h4⟩ := allP_out h1
            refine (evL_sound hK hm n M l hd _ _ _ _ _ hr).2 h3 ρ w a Q c g.r hf fun e ρ' a' w' k1 k2 k3 => ?_
            have k1 : e = .exit i := k1
            subst k1
            obtain ⟨g1, g2⟩ := fit_sound hps hqs h2 h4 hds [] True (g.step k3) k2
            exact k _ a' w' [] g1 g2
          · exact hh.elim
        · exact hh.elim
      · exact hh.elim
    · exact hh.elim

/-- What a call that answers true leaves of the world. -/
def Still (w0 w : World) : Prop := w0.heap.size ≤ w.heap.size ∧ (∀ b, b < w0.heap.size → w.heap[b]? = w0.heap[b]?) ∧ w.os = w0.os ∧ w.tape = w0.tape ∧ w.output = w0.output

theorem Got.still {w0 w : World} {ρ : Env} {s : AS} (h : Got w0 ρ s w) : Still w0 w := ⟨h.size, h.frame, h.os, h.tape, h.output⟩

/-- To the end. -/
theorem chunk_end (hK : CallOK P fun g args s => (K g args s).getD .fail) (hm : P.follows .mixedOrders = true) {n M : Nat} {fn : Func} {l : List Code} (hd : l.all (dOk M) = true) {f : Fr} {s : AS}
    (hh : holdsO (endO P fn (evL P K n l f s))) {w0 w : World} {ρ : Env} {a : Act} (g : Got w0 ρ s w) (hf : FR ρ M f a) {c : Code} :
    (joinC l c).wp P (bodyPost P fn fun e w' => e = .returned (.bool true) ∧ Still w0 w') a w := by
  cases hr : evL P K n l f s with
  | fail => rw [hr] at hh; exact hh.elim
  | «at» x f' s' =>
    rw [hr] at hh
    have key : x = .ret ∧ f'.ds = [] ∧ s'.cons ∧ (resultA P fn f' s' = some (.bool true) ∨ resultA P fn f' s' = some (.sbool true)) := by
      cases x with
      | ret =>
        simp only [endO] at hh
        split at hh
        · rename_i b hb
          split at hh
          · rename_i hds
            obtain ⟨h1, h2⟩ : s'.cons ∧ b = true := hh
            exact ⟨rfl, hds, h1, .inl (by rw [hb, h2])⟩
          · exact hh.elim
        · rename_i b hb
          split at hh
          · rename_i hds
            obtain ⟨h1, h2⟩ : s'.cons ∧ b = true := hh
            exact ⟨rfl, hds, h1, .inr (by rw [hb, h2])⟩
          · exact hh.elim
        · exact hh.elim
      | _ => exact hh.elim
    obtain ⟨rfl, hds, hc, hres⟩ := key
    refine (evL_sound hK hm n M l hd _ _ _ _ _ hr).2 hc ρ w a _ c g.r hf fun e ρ' a' w' k1 k2 k3 => ?_
    have k1 : e = .ret := k1
    subst k1
    have g' := g.step k3
    have hdef : a'.defers = [] := by have := k2.ds; rw [hds] at this; exact this
    refine ⟨hdef, .bool true, ?_, rfl, g'.still⟩
    rcases hres with hres | hres
    · obtain ⟨rv, h1, h2⟩ := result_sound hres g'.r k2
      simp at h2; subst h2; exact h1
    · obtain ⟨rv, h1, h2⟩ := result_sound hres g'.r k2
      simp at h2; subst h2; exact h1

/-- One piece of code, from a state to a template. -/
theorem code_fit (hK : CallOK P fun g args s => (K g args s).getD .fail) (hm : P.follows .mixedOrders = true) {n M : Nat} {c : Code} (hd : dOk M c = true) {x : Option Nat} {f : Fr} {s : AS} {next : Pos} {hs : List (Pos × List AV)} {fs : List (Nat × AV)}
    (hh : holdsO (fitO next hs fs x (ev P K n c f s))) {w0 w : World} {ρ : Env} {a : Act} (g : Got w0 ρ s w) (hf : FR ρ M f a) {Q : Exit → Act → World → Prop}
    (k : ∀ ρ' a' w' orc, Got w0 ρ' ⟨mkH hs, next, orc, True⟩ w' → FR ρ' M ⟨mkF fs, []⟩ a' → Q (match x with | none => .normal | some i => .exit i) a' w') : c.wp P Q a w := by
  cases hr : ev P K n c f s with
  | fail => rw [hr] at hh; exact hh.elim
  | «at» y f' s' =>
    rw [hr] at hh
    simp only [fitO, cond_eq_ite] at hh
    split at hh
    · rename_i hx
      split at hh
      · rename_i ps hps
        split at hh
        · rename_i qs hqs
          split at hh
          · rename_i hds
            have hh : allP ps (allP qs s'.cons) := hh
            obtain ⟨h1, h2⟩ := allP_out hh
            obtain ⟨h3, h4⟩ := allP_out h1
            have h0 := (sx_sound hK hm n).1 c M f s hd
            rw [hr] at h0
            refine h0.2 h3 ρ w a Q g.r hf fun e ρ' a' w' k1 k2 k3 => ?_
            obtain ⟨g1, g2⟩ := fit_sound hps hqs h2 h4 hds [] True (g.step k3) k2
            have := k _ a' w' [] g1 g2
            cases x with
            | none =>
              have hx : y = .normal := by cases y <;> first | rfl | simp [isX] at hx
              subst hx
              have k1 : e = .normal := k1
              subst k1
              exact this
            | some i =>
              have hx : y = .exit i := by
                cases y with
                | exit j => simp only [isX] at hx; rw [Nat.eq_of_beq_eq_true hx]
                | _ => simp [isX] at hx
              subst hx
              have k1 : e = .exit i := k1
              subst k1
              exact this
          · exact hh.elim
        · exact hh.elim
      · exact hh.elim
    · exact hh.elim

/-- One piece of code, to the end. -/
theorem code_end (hK : CallOK P fun g args s => (K g args s).getD .fail) (hm : P.follows .mixedOrders = true) {n M : Nat} {fn : Func} {c : Code} (hd : dOk M c = true) {f : Fr} {s : AS}
    (hh : holdsO (endO P fn (ev P K n c f s))) {w0 w : World} {ρ : Env} {a : Act} (g : Got w0 ρ s w) (hf : FR ρ M f a) :
    c.wp P (bodyPost P fn fun e w' => e = .returned (.bool true) ∧ Still w0 w') a w := by
  cases hr : ev P K n c f s with
  | fail => rw [hr] at hh; exact hh.elim
  | «at» x f' s' =>
    rw [hr] at hh
    have key : x = .ret ∧ f'.ds = [] ∧ s'.cons ∧ (resultA P fn f' s' = some (.bool true) ∨ resultA P fn f' s' = some (.sbool true)) := by
      cases x with
      | ret =>
        simp only [endO] at hh
        split at hh
        · rename_i b hb
          split at hh
          · rename_i hds
            obtain ⟨h1, h2⟩ : s'.cons ∧ b = true := hh
            exact ⟨rfl, hds, h1, .inl (by rw [hb, h2])⟩
          · exact hh.elim
        · rename_i b hb
          split at hh
          · rename_i hds
            obtain ⟨h1, h2⟩ : s'.cons ∧ b = true := hh
            exact ⟨rfl, hds, h1, .inr (by rw [hb, h2])⟩
          · exact hh.elim
        · exact hh.elim
      | _ => exact hh.elim
    obtain ⟨rfl, hds, hc, hres⟩ := key
    have h0 := (sx_sound hK hm n).1 c M f s hd
    rw [hr] at h0
    refine h0.2 hc ρ w a _ g.r hf fun e ρ' a' w' k1 k2 k3 => ?_
    have k1 : e = .ret := k1
    subst k1
    have g' := g.step k3
    have hdef : a'.defers = [] := by have := k2.ds; rw [hds] at this; exact this
    refine ⟨hdef, .bool true, ?_, rfl, g'.still⟩
    rcases hres with hres | hres
    · obtain ⟨rv, h1, h2⟩ := result_sound hres g'.r k2
      simp at h2; subst h2; exact h1
    · obtain ⟨rv, h1, h2⟩ := result_sound hres g'.r k2
      simp at h2; subst h2; exact h1

/-- What is noted says nothing of the memory. -/
theorem Got.notes {w0 w : World} {ρ : Env} {h : PT AObj} {n : Pos} {o o' : List Bool} {c c' : Prop} (g : Got w0 ρ ⟨h, n, o, c⟩ w) : Got w0 ρ ⟨h, n, o', c'⟩ w :=
  ⟨g.r.notes _ rfl rfl, fun b hb => g.lv b (by obtain ⟨i, o, l, h1, h2⟩ := hb; exact ⟨i, o, l, h1, h2⟩), g.size, g.frame, g.os, g.tape, g.output⟩

/-- A world that has grown tells the same of what was. -/
theorem R.still {ρ : Env} {s : AS} {w w' : World} (h : R ρ s w) (k : Still w w') : R ρ s w' := by
  refine ⟨fun i o l ho hl => ?_, h.inj, fun i l hl => ⟨(h.dom i l hl).1, Nat.lt_of_lt_of_le (h.dom i l hl).2 k.1⟩⟩
  have := h.ob i o l ho hl
  have hb := (h.dom i l hl).2
  exact objRel_grow (Sub.refl ρ) (k.2.1 l.b hb) this

theorem Step.still {ρ : Env} {s : AS} {w w' : World} (h : R ρ s w) (k : Still w w') : Step ρ s w ρ s w' :=
  ⟨h.still k, fun _ _ => rfl, Nat.le_refl _, fun _ hl => .inr hl, k.1, fun b hb _ => k.2.1 b hb, k.2.2.1, k.2.2.2.1, k.2.2.2.2⟩

/-- A closed call that answers true, as a contract. -/
def trueK (g0 : FuncId) : FuncId → List AV → AS → Option CR := fun g args s => bif Nat.beq g g0 then match args with
  | [] => some (.ret (.bool true) s)
  | _ => none else none

theorem trueK_ok {g0 : FuncId} (h : ∀ w, Calls P g0 #[] w fun e w' => e = .returned (.bool true) ∧ Still w w') : CallOK P fun g args s => (trueK g0 g args s).getD .fail := by
  intro g args s
  have key : ∀ r, (trueK g0 g args s).getD .fail = r → (g = g0 ∧ args = [] ∧ r = .ret (.bool true) s) ∨ r = .fail := by
    intro r hr
    unfold trueK at hr
    rw [cond_eq_ite] at hr
    split at hr
    · rename_i hg
      split at hr
      · exact .inl ⟨Nat.eq_of_beq_eq_true hg, rfl, hr.symm⟩
      · exact .inr hr.symm
    · exact .inr hr.symm
  refine ⟨fun v s' hr => ?_, fun v s' hr => ?_⟩
  · rcases key _ hr with ⟨rfl, rfl, h2⟩ | h2
    · injection h2 with h2 h3
      subst h2 h3
      refine ⟨id, fun _ ρ w rargs hR hrel => ?_⟩
      have : rargs = [] := by simpa using hrel
      subst this
      refine (h w).mono ?_
      rintro e w' ⟨rfl, hs⟩
      exact ⟨ρ, .bool true, rfl, by simp, Step.still hR hs⟩
    · cases h2
  · rcases key _ hr with ⟨_, _, h2⟩ | h2 <;> cases h2

/-- A closed call, run. -/
theorem closed_true (hK : CallOK P fun g args s => (K g args s).getD .fail) (hm : P.follows .mixedOrders = true) {n : Nat} {g : FuncId} {s0 : AS}
    (h : holdsO (match callAt P K n g [] s0 with
      | .ret (.bool b) s => some (s.cons ∧ b = true)
      | _ => none)) (w : World) : Calls P g #[] w fun e w' => e = .returned (.bool true) ∧ Still w w' := by
  split at h
  · rename_i b s' hr
    obtain ⟨h1, h2⟩ : s'.cons ∧ b = true := h
    subst h2
    have := ((callAt_sound hK hm n g [] s0).1 _ _ hr).2 h1 (fun _ => none) w [] (R.none s0 w) (by simp)
    refine this.mono ?_
    rintro e w' ⟨ρ', rv, rfl, q1, q2⟩
    simp at q1; subst q1
    exact ⟨rfl, ((Got.init s0 w).step q2).still⟩
  · exact h.elim
end
end Go.Sx
