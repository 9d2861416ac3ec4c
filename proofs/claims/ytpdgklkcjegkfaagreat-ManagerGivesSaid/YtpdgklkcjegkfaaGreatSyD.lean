/-
  Behind the symbolic executor: templates whose objects may lie elsewhere; objects that are carried along.
-/
import Derived.Test.YtpdgklkcjegkfaaGreatSyC
namespace Go.Sx
open Go

/-- Where an object of the template lies. -/
def renP : List (Pos × Pos) → Pos → Pos
  | [], i => i
  | (a, b) :: l, i => bif Pos.eqb a i then b else renP l i

mutual
def ren (σ : List (Pos × Pos)) : AV → AV
  | .ptr i o => .ptr (renP σ i) o
  | .slc i o n c => .slc (renP σ i) o n c
  | .map i => .map (renP σ i)
  | .fn f a c => .fn f (renL σ a) (renL σ c)
  | .ifc t x => .ifc t (ren σ x)
  | .agg cs => .agg (renL σ cs)
  | .tup cs => .tup (renL σ cs)
  | .int k n => .int k n
  | .sint k n => .sint k n
  | .bool b => .bool b
  | .sbool b => .sbool b
  | .str s => .str s
  | .nilp => .nilp
  | .nils => .nils
  | .nilm => .nilm
  | .nilf => .nilf
  | .nili => .nili
  | .raw v => .raw v
def renL (σ : List (Pos × Pos)) : List AV → List AV
  | [] => []
  | x :: xs => ren σ x :: renL σ xs
end

/-- The ids below a bound, lying elsewhere. -/
def cutR (ρ : Env) (σ : List (Pos × Pos)) (N : Nat) : Env := fun i => if i.nat < N then ρ (renP σ i) else none

theorem cutR_get {ρ : Env} {σ : List (Pos × Pos)} {N : Nat} {i : Pos} (h : i.nat < N) : cutR ρ σ N i = ρ (renP σ i) := by simp [cutR, h]

theorem cutR_some {ρ : Env} {σ : List (Pos × Pos)} {N : Nat} {i : Pos} {l : Loc} (h : cutR ρ σ N i = some l) : i.nat < N ∧ ρ (renP σ i) = some l := by
  unfold cutR at h
  split at h
  · rename_i hi; exact ⟨hi, h⟩
  · cases h

mutual
theorem ren_rel {ρ : Env} {σ : List (Pos × Pos)} {N : Nat} : ∀ (x : AV) (v : Value), below N x = true → rel ρ (ren σ x) v → rel (cutR ρ σ N) x v
  | .int _ _, _, _, r | .sint _ _, _, _, r | .bool _, _, _, r | .sbool _, _, _, r | .str _, _, _, r | .nilp, _, _, r | .nils, _, _, r | .nilm, _, _, r | .nilf, _, _, r | .nili, _, _, r | .raw _, _, _, r => by
    simp only [rel, ren] at r ⊢; exact r
  | .ptr i o, v, b, r => by
    simp only [rel, ren, below] at r b ⊢; rw [cutR_get (blt_lt b)]; exact r
  | .map i, v, b, r => by
    simp only [rel, ren, below] at r b ⊢; rw [cutR_get (blt_lt b)]; exact r
  | .slc i o n c, v, b, r => by
    simp only [rel, ren, below] at r b ⊢; rw [cutR_get (blt_lt b)]; exact r
  | .fn f a c, v, b, r => by
    simp only [rel, ren, below, Bool.and_eq_true] at r b ⊢; obtain ⟨a', c', h1, h2, e⟩ := r; exact ⟨a', c', renL_rel a a' b.1 h1, renL_rel c c' b.2 h2, e⟩
  | .ifc t x, v, b, r => by simp only [rel, ren, below] at r b ⊢; obtain ⟨y, h1, e⟩ := r; exact ⟨y, ren_rel x y b h1, e⟩
  | .agg cs, v, b, r => by simp only [rel, ren, below] at r b ⊢; obtain ⟨l, h1, e⟩ := r; exact ⟨l, renL_rel cs l b h1, e⟩
  | .tup cs, v, b, r => by simp only [rel, ren, below] at r b ⊢; obtain ⟨l, h1, e⟩ := r; exact ⟨l, renL_rel cs l b h1, e⟩
theorem renL_rel {ρ : Env} {σ : List (Pos × Pos)} {N : Nat} : ∀ (x : List AV) (v : List Value), belowL N x = true → relL ρ (renL σ x) v → relL (cutR ρ σ N) x v
  | [], _, _, r => by simp only [relL, renL] at r ⊢; exact r
  | x :: xs, l, b, r => by
    simp only [relL, renL, belowL, Bool.and_eq_true] at r b ⊢; obtain ⟨y, ys, e, h1, h2⟩ := r; exact ⟨y, ys, e, ren_rel x y b.1 h1, renL_rel xs ys b.2 h2⟩
end

/-- A template: its objects, those that are carried along, the frame, the next free id. -/
structure Tm where
  objs : List (Pos × List AV)
  opq : List (Pos × List AV)
  tms : List (Nat × AV)
  next : Pos

def Tm.heap (t : Tm) : PT AObj := mkH (t.objs ++ t.opq)

def fitHR (N : Nat) (σ : List (Pos × Pos)) (h : PT AObj) : List (Pos × List AV) → Option (List Prop)
  | [] => some []
  | (i, cs) :: l => bif Nat.blt i.nat N && belowL N cs then match PT.get (renP σ i) h with
      | some (.cells ds) => match leVs (renL σ cs) ds with
        | some ps => match fitHR N σ h l with
          | some qs => some (ps ++ qs)
          | none => none
        | none => none
      | _ => none
    else none

/-- What is carried along is as it was. -/
def fitQ (N : Nat) (σ : List (Pos × Pos)) (h : PT AObj) : List (Pos × List AV) → Option (List Prop)
  | [] => some []
  | (i, cs) :: l => bif Nat.blt i.nat N then match fitQ N σ h l with
      | some qs => some ((PT.get (renP σ i) h = some (.cells cs)) :: (flatL cs = true) :: qs)
      | none => none
    else none

def fitFR (N : Nat) (σ : List (Pos × Pos)) (h : PT AV) : List (Nat × AV) → Option (List Prop)
  | [] => some []
  | (t, v) :: l => bif below N v then match PT.get (Pos.slot t) h with
      | some u => match leV (ren σ v) u with
        | some ps => match fitFR N σ h l with
          | some qs => some (ps ++ qs)
          | none => none
        | none => none
      | _ => none
    else none

/-- No two objects of the template lie at one place. -/
def apart (σ : List (Pos × Pos)) : List (Pos × List AV) → Bool
  | [] => true
  | (i, _) :: l => (l.all fun p => Pos.eqb i p.1 || !Pos.eqb (renP σ i) (renP σ p.1)) && apart σ l

theorem apart_inj {σ : List (Pos × Pos)} : ∀ {l : List (Pos × List AV)}, apart σ l = true → ∀ {i j : Pos} {a b : List AV}, (i, a) ∈ l → (j, b) ∈ l → renP σ i = renP σ j → i = j := by
  intro l
  induction l with
  | nil => intro _ i j a b h; simp at h
  | cons p l ih =>
    obtain ⟨k, c⟩ := p
    intro h i j a b hi hj e
    simp only [apart, Bool.and_eq_true, List.all_eq_true] at h
    simp only [List.mem_cons, Prod.mk.injEq] at hi hj
    have step : ∀ q d, (q, d) ∈ l → renP σ k = renP σ q → k = q := by
      intro q d hq he
      have := h.1 _ hq
      simp only [Bool.or_eq_true, Bool.not_eq_true'] at this
      rcases this with h1 | h1
      · exact Pos.eqb_iff.1 h1
      · have h2 : Pos.eqb (renP σ k) (renP σ q) = true := Pos.eqb_iff.2 he
        rw [h1] at h2; cases h2
    rcases hi with ⟨rfl, rfl⟩ | hi
    · rcases hj with ⟨rfl, rfl⟩ | hj
      · rfl
      · exact step _ _ hj e
    · rcases hj with ⟨rfl, rfl⟩ | hj
      · exact (step _ _ hi e.symm).symm
      · exact ih h.2 hi hj e

theorem fitHR_mem {N : Nat} {σ : List (Pos × Pos)} {h : PT AObj} : ∀ {l : List (Pos × List AV)} {ps : List Prop}, fitHR N σ h l = some ps → (∀ p ∈ ps, p) → ∀ i cs, (i, cs) ∈ l →
    i.nat < N ∧ ∃ ds, PT.get (renP σ i) h = some (.cells ds) ∧ ∀ ρ L, relL ρ ds L → relL (cutR ρ σ N) cs L := by
  intro l
  induction l with
  | nil => intro ps _ _ i cs hm; simp at hm
  | cons p l ih =>
    obtain ⟨j, ds⟩ := p
    intro ps hf hp i cs hm
    simp only [fitHR, cond_eq_ite] at hf
    split at hf
    · rename_i hb
      simp only [Bool.and_eq_true] at hb
      split at hf
      · rename_i es hg
        split at hf
        · rename_i qs hq
          split at hf
          · rename_i rs hr
            simp at hf; subst hf
            simp only [List.mem_cons, Prod.mk.injEq] at hm
            rcases hm with ⟨rfl, rfl⟩ | hm
            · exact ⟨blt_lt hb.1, es, hg, fun ρ L r => renL_rel _ _ hb.2 (leVs_sound _ es L qs hq (fun p h => hp p (by simp [h])) r)⟩
            · exact ih hr (fun p h => hp p (by simp [h])) i cs hm
          · simp at hf
        · simp at hf
      · simp at hf
    · simp at hf

theorem fitQ_mem {N : Nat} {σ : List (Pos × Pos)} {h : PT AObj} : ∀ {l : List (Pos × List AV)} {ps : List Prop}, fitQ N σ h l = some ps → (∀ p ∈ ps, p) → ∀ i cs, (i, cs) ∈ l →
    i.nat < N ∧ ∃ ds, PT.get (renP σ i) h = some (.cells ds) ∧ ∀ ρ L, relL ρ ds L → relL (cutR ρ σ N) cs L := by
  intro l
  induction l with
  | nil => intro ps _ _ i cs hm; simp at hm
  | cons p l ih =>
    obtain ⟨j, ds⟩ := p
    intro ps hf hp i cs hm
    simp only [fitQ, cond_eq_ite] at hf
    split at hf
    · rename_i hb
      split at hf
      · rename_i rs hr
        simp only [Option.some.injEq] at hf
        subst hf
        simp only [List.mem_cons, Prod.mk.injEq] at hm
        rcases hm with ⟨rfl, rfl⟩ | hm
        · refine ⟨blt_lt hb, cs, hp _ (by simp), fun ρ L r => flatL_rel _ _ (hp _ (by simp)) r⟩
        · exact ih hr (fun p h => hp p (by simp [h])) i cs hm
      · simp at hf
    · simp at hf

theorem fitFR_mem {N : Nat} {σ : List (Pos × Pos)} {h : PT AV} : ∀ {l : List (Nat × AV)} {ps : List Prop}, fitFR N σ h l = some ps → (∀ p ∈ ps, p) → ∀ t v, (t, v) ∈ l →
    ∃ u, PT.get (Pos.slot t) h = some u ∧ ∀ ρ x, rel ρ u x → rel (cutR ρ σ N) v x := by
  intro l
  induction l with
  | nil => intro ps _ _ i cs hm; simp at hm
  | cons p l ih =>
    obtain ⟨j, ds⟩ := p
    intro ps hf hp i cs hm
    simp only [fitFR, cond_eq_ite] at hf
    split at hf
    · rename_i hb
      split at hf
      · rename_i es hg
        split at hf
        · rename_i qs hq
          split at hf
          · rename_i rs hr
            simp at hf; subst hf
            simp only [List.mem_cons, Prod.mk.injEq] at hm
            rcases hm with ⟨rfl, rfl⟩ | hm
            · exact ⟨es, hg, fun ρ x r => ren_rel _ _ hb (leV_sound _ es x qs hq (fun p h => hp p (by simp [h])) r)⟩
            · exact ih hr (fun p h => hp p (by simp [h])) i cs hm
          · simp at hf
        · simp at hf
      · simp at hf
    · simp at hf

/-- One comes to a template. -/
theorem fitR_sound {w0 w : World} {ρ : Env} {f : Fr} {s : AS} {M : Nat} {a : Act} {t : Tm} {σ : List (Pos × Pos)} {ps qs rs : List Prop} (hap : apart σ (t.objs ++ t.opq) = true)
    (h1 : fitHR t.next.nat σ s.heap t.objs = some ps) (h2 : fitQ t.next.nat σ s.heap t.opq = some rs) (h3 : fitFR t.next.nat σ f.tm t.tms = some qs) (hp : ∀ p ∈ ps, p) (hr : ∀ p ∈ rs, p) (hq : ∀ q ∈ qs, q) (hd : f.ds = []) (orc : List Bool) (cons : Prop)
    (g : Got w0 ρ s w) (hf : FR ρ M f a) : Got w0 (cutR ρ σ t.next.nat) ⟨t.heap, t.next, orc, cons⟩ w ∧ FR (cutR ρ σ t.next.nat) M ⟨mkF t.tms, []⟩ a := by
  have key : ∀ i o, PT.get i t.heap = some o → ∃ cs ds, o = .cells cs ∧ (i, cs) ∈ t.objs ++ t.opq ∧ i.nat < t.next.nat ∧ PT.get (renP σ i) s.heap = some (.cells ds) ∧ ∀ ρ L, relL ρ ds L → relL (cutR ρ σ t.next.nat) cs L := by
    intro i o ho
    obtain ⟨cs, rfl, hm⟩ := mkH_get ho
    rcases List.mem_append.1 hm with hm' | hm'
    · obtain ⟨a1, ds, a3, a4⟩ := fitHR_mem h1 hp i cs hm'
      exact ⟨cs, ds, rfl, hm, a1, a3, a4⟩
    · obtain ⟨a1, ds, a3, a4⟩ := fitQ_mem h2 hr i cs hm'
      exact ⟨cs, ds, rfl, hm, a1, a3, a4⟩
  refine ⟨⟨⟨?_, ?_, ?_⟩, ?_, g.size, g.frame, g.os, g.tape, g.output⟩, hf.size, ?_, ?_, ?_⟩
  · intro i o l ho hl
    obtain ⟨cs, ds, rfl, _, a1, a3, a4⟩ := key i o ho
    obtain ⟨C, E, fr, L, b1, b2, b3, b4, b5, b6⟩ := g.r.ob _ _ l a3 (cutR_some hl).2
    exact ⟨C, E, fr, L, b1, b2, b3, a4 ρ L b4, b5, b6⟩
  · intro i j o o' l l' ho hlo hj hlj hi hj' hb
    obtain ⟨cs, ds, rfl, m1, _, a3, _⟩ := key i o ho
    obtain ⟨cs', ds', rfl, m2, _, c3, _⟩ := key j o' hj
    exact apart_inj hap m1 m2 (g.r.inj _ _ _ _ l l' a3 rfl c3 rfl (cutR_some hi).2 (cutR_some hj').2 hb)
  · intro i l hl
    exact ⟨(cutR_some hl).1, (g.r.dom _ l (cutR_some hl).2).2⟩
  · rintro b ⟨i, o, l, ho, hlo, hl, rfl⟩
    obtain ⟨cs, ds, rfl, _, _, a3, _⟩ := key i o ho
    exact g.lv l.b ⟨_, _, l, a3, rfl, (cutR_some hl).2, rfl⟩
  · intro d v hv
    obtain ⟨u, b1, _⟩ := fitFR_mem h3 hq d v (mkF_get hv)
    exact hf.dom d u b1
  · intro d v hv
    obtain ⟨u, b1, b2⟩ := fitFR_mem h3 hq d v (mkF_get hv)
    exact b2 ρ _ (hf.tm d u b1)
  · have := hf.ds
    rw [hd] at this
    exact this

/-- What it takes to come to a template. -/
def fitOR (t : Tm) (σ : List (Pos × Pos)) (x : Option Nat) : ER → Option Prop
  | .at y f s => bif isX x y && apart σ (t.objs ++ t.opq) then
    match fitHR t.next.nat σ s.heap t.objs with
    | some ps => match fitQ t.next.nat σ s.heap t.opq with
      | some rs => match fitFR t.next.nat σ f.tm t.tms with
        | some qs => match f.ds with
          | [] => some (allP ps (allP rs (allP qs s.cons)))
          | _ => none
        | none => none
      | none => none
    | none => none
    else none
  | _ => none

section
variable {P : Program} {K : FuncId → List AV → AS → Option CR}

/-- How a piece is left. -/
def exitOf (x : Option Nat) : Exit := match x with
  | none => .normal
  | some i => .exit i

/-- One piece of code, from a state to a template. -/
theorem code_fitR (hK : CallOK P fun g args s => (K g args s).getD .fail) (hm : P.follows .mixedOrders = true) {n M : Nat} {c : Code} (hd : dOk M c = true) {x : Option Nat} {f : Fr} {s : AS} {t : Tm} {σ : List (Pos × Pos)}
    (hh : holdsO (fitOR t σ x ((fast P K n).1 (cC P c) f s))) {w0 w : World} {ρ : Env} {a : Act} (g : Got w0 ρ s w) (hf : FR ρ M f a) {Q : Exit → Act → World → Prop}
    (k : ∀ ρ' a' w' orc, Got w0 ρ' ⟨t.heap, t.next, orc, True⟩ w' → FR ρ' M ⟨mkF t.tms, []⟩ a' → Q (exitOf x) a' w') : c.wp P Q a w := by
  rw [← fast_ev] at hh
  cases hr : ev P K n c f s with
  | fail => rw [hr] at hh; exact hh.elim
  | «at» y f' s' =>
    rw [hr] at hh
    simp only [fitOR, cond_eq_ite] at hh
    split at hh
    · rename_i hx
      simp only [Bool.and_eq_true] at hx
      obtain ⟨hx, hap⟩ := hx
      split at hh
      · rename_i ps hps
        split at hh
        · rename_i rs hrs
          split at hh
          · rename_i qs hqs
            split at hh
            · rename_i hds
              have hh : allP ps (allP rs (allP qs s'.cons)) := hh
              obtain ⟨h1, h2⟩ := allP_out hh
              obtain ⟨h3, h4⟩ := allP_out h1
              obtain ⟨h5, h6⟩ := allP_out h3
              have h0 := (sx_sound hK hm n).1 c M f s hd
              rw [hr] at h0
              refine h0.2 h5 ρ w a Q g.r hf fun e ρ' a' w' k1 k2 k3 => ?_
              obtain ⟨g1, g2⟩ := fitR_sound hap hps hrs hqs h2 h4 h6 hds [] True (g.step k3) k2
              have := k _ a' w' [] g1 g2
              cases x with
              | none =>
                have hx : y = .normal := by cases y <;> first | rfl | simp [isX] at hx
                subst hx
                have k1 : e = .normal := k1
                subst k1
                exact this
              | some i =>
                have hx : y = .exit i := by
                  cases y with
                  | exit j => simp only [isX] at hx; rw [Nat.eq_of_beq_eq_true hx]
                  | _ => simp [isX] at hx
                subst hx
                have k1 : e = .exit i := k1
                subst k1
                exact this
            · exact hh.elim
          · exact hh.elim
        · exact hh.elim
      · exact hh.elim
    · exact hh.elim

/-- A closed call, run. -/
theorem closed_fast (hK : CallOK P fun g args s => (K g args s).getD .fail) (hm : P.follows .mixedOrders = true) {n : Nat} {g : FuncId} {s0 : AS}
    (h : holdsO (match (fast P K n).2 g [] s0 with
      | .ret (.bool b) s => some (s.cons ∧ b = true)
      | _ => none)) (w : World) : Calls P g #[] w fun e w' => e = .returned (.bool true) ∧ Still w w' := by
  rw [← fast_call] at h
  exact closed_true hK hm h w
end
end Go.Sx
