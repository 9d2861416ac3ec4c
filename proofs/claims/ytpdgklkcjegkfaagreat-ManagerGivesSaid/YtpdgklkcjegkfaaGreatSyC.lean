/-
  Behind the symbolic executor: contracts of calls that turn one object, in which no pointer lies.
-/
import Derived.Test.YtpdgklkcjegkfaaGreatSzD
namespace Go.Sx
open Go

mutual
/-- No pointer lies in it. -/
def flat : AV → Bool
  | .ptr _ _ => false
  | .slc _ _ _ _ => false
  | .map _ => false
  | .fn _ a c => flatL a && flatL c
  | .ifc _ x => flat x
  | .agg cs => flatL cs
  | .tup cs => flatL cs
  | _ => true
def flatL : List AV → Bool
  | [] => true
  | x :: xs => flat x && flatL xs
end

mutual
theorem flat_rel {ρ ρ' : Env} : ∀ (x : AV) (v : Value), flat x = true → rel ρ x v → rel ρ' x v
  | .int _ _, _, _, r | .sint _ _, _, _, r | .bool _, _, _, r | .sbool _, _, _, r | .str _, _, _, r | .nilp, _, _, r | .nils, _, _, r | .nilm, _, _, r | .nilf, _, _, r | .nili, _, _, r | .raw _, _, _, r => by
    simp only [rel] at r ⊢; exact r
  | .ptr i o, v, b, _ => by simp [flat] at b
  | .map i, v, b, _ => by simp [flat] at b
  | .slc i o n c, v, b, _ => by simp [flat] at b
  | .fn f a c, v, b, r => by
    simp only [rel, flat, Bool.and_eq_true] at r b ⊢; obtain ⟨a', c', h1, h2, e⟩ := r; exact ⟨a', c', flatL_rel a a' b.1 h1, flatL_rel c c' b.2 h2, e⟩
  | .ifc t x, v, b, r => by simp only [rel, flat] at r b ⊢; obtain ⟨y, h1, e⟩ := r; exact ⟨y, flat_rel x y b h1, e⟩
  | .agg cs, v, b, r => by simp only [rel, flat] at r b ⊢; obtain ⟨l, h1, e⟩ := r; exact ⟨l, flatL_rel cs l b h1, e⟩
  | .tup cs, v, b, r => by simp only [rel, flat] at r b ⊢; obtain ⟨l, h1, e⟩ := r; exact ⟨l, flatL_rel cs l b h1, e⟩
theorem flatL_rel {ρ ρ' : Env} : ∀ (x : List AV) (v : List Value), flatL x = true → relL ρ x v → relL ρ' x v
  | [], _, _, r => by simp only [relL] at r ⊢; exact r
  | x :: xs, l, b, r => by
    simp only [relL, flatL, Bool.and_eq_true] at r b ⊢; obtain ⟨y, ys, e, h1, h2⟩ := r; exact ⟨y, ys, e, flat_rel x y b.1 h1, flatL_rel xs ys b.2 h2⟩
end

/-- A memory of one object. -/
def one (cs : List AV) (orc : List Bool) : AS := { heap := PT.set (.cells cs) .h .e, next := .o .h, orc, cons := True }

theorem one_get {cs : List AV} {orc : List Bool} {i : Pos} {o : AObj} (h : PT.get i (one cs orc).heap = some o) : i = .h ∧ o = .cells cs := by
  by_cases hi : i = .h
  · subst hi
    simp only [one, PT.get_set_same] at h
    injection h with h
    exact ⟨rfl, h.symm⟩
  · simp only [one, PT.get_set_other _ _ _ _ hi] at h
    simp at h

/-! ### Two abstract values that say the same -/

mutual
def simV : AV → AV → Option (List Prop)
  | .sint k n, .int k' m => bif decide (k = k') then some [n = m] else none
  | .int k n, .sint k' m => bif decide (k = k') then some [n = m] else none
  | .sbool b, .bool c => some [b = c]
  | .bool b, .sbool c => some [b = c]
  | .fn f a c, .fn g b d => bif decide (f = g) then match simL a b with
      | some l => match simL c d with
        | some m => some (l ++ m)
        | none => none
      | none => none
    else none
  | .ifc t v, .ifc u w => bif Nat.beq t u then simV v w else none
  | .agg a, .agg b => simL a b
  | .tup a, .tup b => simL a b
  | t, v => eqC t v
def simL : List AV → List AV → Option (List Prop)
  | [], [] => some []
  | x :: xs, y :: ys => match simV x y with
    | some l => match simL xs ys with
      | some m => some (l ++ m)
      | none => none
    | none => none
  | _, _ => none
end

mutual
theorem simV_sound {ρ : Env} : ∀ (t v : AV) (x : Value) (ps : List Prop), simV t v = some ps → (∀ p ∈ ps, p) → (rel ρ t x ↔ rel ρ v x) := by
  intro t v x ps h hp
  have plain : eqC t v = some ps → (rel ρ t x ↔ rel ρ v x) := fun h => by rw [eqC_sound t v ps h hp]
  cases t with
  | sint k n =>
    cases v with
    | int k' m =>
      simp only [simV, cond_eq_ite] at h
      split at h
      · rename_i hk
        have hk := of_decide_eq_true hk
        simp at h; subst h; subst hk
        have : n = m := hp _ (List.Mem.head _)
        subst this
        simp
      · simp at h
    | _ => exact plain (by simpa only [simV] using h)
  | int k n =>
    cases v with
    | sint k' m =>
      simp only [simV, cond_eq_ite] at h
      split at h
      · rename_i hk
        have hk := of_decide_eq_true hk
        simp at h; subst h; subst hk
        have : n = m := hp _ (List.Mem.head _)
        subst this
        simp
      · simp at h
    | _ => exact plain (by simpa only [simV] using h)
  | sbool b =>
    cases v with
    | bool c =>
      simp only [simV, Option.some.injEq] at h
      subst h
      have : b = c := hp _ (List.Mem.head _)
      subst this
      simp
    | _ => exact plain (by simpa only [simV] using h)
  | bool b =>
    cases v with
    | sbool c =>
      simp only [simV, Option.some.injEq] at h
      subst h
      have : b = c := hp _ (List.Mem.head _)
      subst this
      simp
    | _ => exact plain (by simpa only [simV] using h)
  | fn f a c =>
    cases v with
    | fn g b d =>
      simp only [simV, cond_eq_ite] at h
      split at h
      · rename_i hf
        have hf := of_decide_eq_true hf
        split at h
        · rename_i l hl
          split at h
          · rename_i m hm
            simp at h; subst h; subst hf
            rw [rel_fn, rel_fn]
            have e1 := fun a' => simL_sound (ρ := ρ) a b a' l hl (fun p hq => hp p (by simp [hq]))
            have e2 := fun c' => simL_sound (ρ := ρ) c d c' m hm (fun p hq => hp p (by simp [hq]))
            simp only [e1, e2]
          · simp at h
        · simp at h
      · simp at h
    | _ => exact plain (by simpa only [simV] using h)
  | ifc t y =>
    cases v with
    | ifc u z =>
      simp only [simV, cond_eq_ite] at h
      split at h
      · rename_i ht
        have ht := Nat.eq_of_beq_eq_true ht
        subst ht
        rw [rel_ifc, rel_ifc]
        have e1 := fun q => simV_sound (ρ := ρ) y z q ps h hp
        simp only [e1]
      · simp at h
    | _ => exact plain (by simpa only [simV] using h)
  | agg a =>
    cases v with
    | agg b =>
      simp only [simV] at h
      rw [rel_agg, rel_agg]
      have e1 := fun q => simL_sound (ρ := ρ) a b q ps h hp
      simp only [e1]
    | _ => exact plain (by simpa only [simV] using h)
  | tup a =>
    cases v with
    | tup b =>
      simp only [simV] at h
      rw [rel_tup, rel_tup]
      have e1 := fun q => simL_sound (ρ := ρ) a b q ps h hp
      simp only [e1]
    | _ => exact plain (by simpa only [simV] using h)
  | _ => exact plain (by simpa only [simV] using h)
termination_by t => SizeOf.sizeOf t
theorem simL_sound {ρ : Env} : ∀ (t v : List AV) (x : List Value) (ps : List Prop), simL t v = some ps → (∀ p ∈ ps, p) → (relL ρ t x ↔ relL ρ v x) := by
  intro t v x ps h hp
  cases t with
  | nil =>
    cases v with
    | nil => exact Iff.rfl
    | cons y ys => simp [simL] at h
  | cons a as =>
    cases v with
    | nil => simp [simL] at h
    | cons y ys =>
      simp only [simL] at h
      split at h
      · rename_i l hl
        split at h
        · rename_i m hm
          simp at h; subst h
          rw [relL_cons, relL_cons]
          have e1 := fun q => simV_sound (ρ := ρ) a y q l hl (fun p hq => hp p (by simp [hq]))
          have e2 := fun q => simL_sound (ρ := ρ) as ys q m hm (fun p hq => hp p (by simp [hq]))
          simp only [e1, e2]
        · simp at h
      · simp at h
termination_by t => SizeOf.sizeOf t
end

/-- What a contract on one object says, of the world. -/
def OneW (P : Program) (g : FuncId) (cs xs : List AV) (v : AV) (cs1 : List AV) : Prop :=
  ∀ (ρ : Env) (l : Loc) (w : World) (rs : List Value), objRel ρ w (.cells cs) l → l.b < w.heap.size → relL ρ xs rs →
    Calls P g (.pointer (some ⟨l.b, l.base + 0, none⟩) :: rs).toArray w fun e w' => ∃ rv, e = .returned rv ∧ rel ρ v rv ∧ objRel ρ w' (.cells cs1) l ∧ w.heap.size ≤ w'.heap.size ∧
      (∀ b, b < w.heap.size → b ≠ l.b → w'.heap[b]? = w.heap[b]?) ∧ w'.os = w.os ∧ w'.tape = w.tape ∧ w'.output = w.output

/-- The same, of the abstract memory. -/
def OneOK (P : Program) (g : FuncId) (cs xs : List AV) (v : AV) (cs1 : List AV) : Prop :=
  ∀ (n : Pos) (ρ : Env) (s : AS) (w : World) (rargs : List Value), R ρ s w → s.cellsAt n = some cs → relL ρ (.ptr n 0 :: xs) rargs →
    Calls P g rargs.toArray w fun e w' => ∃ rv, e = .returned rv ∧ rel ρ v rv ∧ Step ρ s w ρ (s.put n (.cells cs1)) w'

theorem cellsAt_get {s : AS} {n : Pos} {cs : List AV} (hn : s.cellsAt n = some cs) : PT.get n s.heap = some (.cells cs) := by
  unfold AS.cellsAt at hn
  split at hn
  · rename_i cs' hg; simp at hn; subst hn; exact hg
  · simp at hn

section
variable {P : Program} {K : FuncId → List AV → AS → Option CR}

theorem OneW.ok {g : FuncId} {cs xs : List AV} {v : AV} {cs1 : List AV} (h : OneW P g cs xs v cs1) : OneOK P g cs xs v cs1 := by
  intro n ρ s w rargs hR hn hargs
  rw [relL_cons] at hargs
  obtain ⟨p, rs, rfl, hp, hxs⟩ := hargs
  rw [rel_ptr] at hp
  obtain ⟨l, hl, rfl⟩ := hp
  have hgn := cellsAt_get hn
  have hlt := (hR.dom n l hl).2
  refine (h ρ l w rs (hR.ob n _ _ hgn hl) hlt hxs).mono ?_
  rintro e w' ⟨rv, rfl, hv, ho1, hsz, hfr, hos, htp, hout⟩
  refine ⟨rv, rfl, hv, ?_⟩
  have hlive : Live ρ s l.b := ⟨n, _, l, hgn, rfl, hl, rfl⟩
  have key : ∀ j o, PT.get j (s.put n (.cells cs1)).heap = some o → ∃ o', PT.get j s.heap = some o' ∧ (o.live = true → o'.live = true) := by
    intro j o e
    by_cases hi : j = n
    · subst hi; exact ⟨_, hgn, fun _ => rfl⟩
    · exact ⟨o, by simpa [AS.put, PT.get_set_other _ _ _ _ hi] using e, id⟩
  refine ⟨⟨?_, ?_, ?_⟩, fun _ _ => rfl, Nat.le_refl _, ?_, hsz, ?_, hos, htp, hout⟩
  · intro i o l' ho hl'
    by_cases hi : i = n
    · subst hi
      rw [hl] at hl'; injection hl' with hl'; subst hl'
      simp only [AS.put, PT.get_set_same] at ho
      injection ho with ho; subst ho
      exact ho1
    · have ho' : PT.get i s.heap = some o := by simpa [AS.put, PT.get_set_other _ _ _ _ hi] using ho
      cases hlo : o.live with
      | false => cases o <;> first | trivial | (simp [AObj.live] at hlo)
      | true =>
        have hne : l'.b ≠ l.b := fun hb => hi (hR.inj i n _ _ l' l ho' hlo hgn rfl hl' hl hb)
        exact objRel_grow (Sub.refl ρ) (hfr _ (hR.dom i l' hl').2 hne) (hR.ob i o l' ho' hl')
  · intro j k o o' l1 l2 e ho e2 ho' hl1 hl2 hb
    obtain ⟨p, hp, hp'⟩ := key j o e
    obtain ⟨q, hq, hq'⟩ := key k o' e2
    exact hR.inj j k p q l1 l2 hp (hp' ho) hq (hq' ho') hl1 hl2 hb
  · intro j l' hl'
    have := hR.dom j l' hl'
    exact ⟨this.1, Nat.lt_of_lt_of_le this.2 hsz⟩
  · rintro b ⟨j, o, l', e, ho, hl', rfl⟩
    by_cases hi : j = n
    · subst hi; rw [hl] at hl'; injection hl' with hl'; subst hl'; exact .inr hlive
    · exact .inr ⟨j, o, l', by simpa [AS.put, PT.get_set_other _ _ _ _ hi] using e, ho, hl', rfl⟩
  · intro b hb hnb
    exact hfr b hb (fun e => hnb (e ▸ hlive))

theorem OneW.sim {g : FuncId} {cs xs cs' xs' : List AV} {v : AV} {cs1 : List AV} (h : OneW P g cs xs v cs1) {ps qs : List Prop} (h1 : simL cs' cs = some ps) (h2 : simL xs' xs = some qs) (hp : ∀ p ∈ ps, p) (hq : ∀ p ∈ qs, p) :
    OneW P g cs' xs' v cs1 := by
  intro ρ l w rs ho hl hxs
  refine h ρ l w rs ?_ hl ((simL_sound _ _ _ _ h2 hq).1 hxs)
  obtain ⟨C, E, fr, L, b1, b2, b3, b4, b5, b6⟩ := ho
  exact ⟨C, E, fr, L, b1, b2, b3, (simL_sound _ _ _ _ h1 hp).1 b4, b5, b6⟩

/-- What it takes that a run gives what a contract says. -/
def fitOne (v : AV) (cs : List AV) : CR → Option Prop
  | .ret u s => match simV v u with
    | some ps => match s.cellsAt .h with
      | some ds => match simL cs ds with
        | some qs => bif flat u && flatL ds then some (allP ps (allP qs s.cons)) else none
        | none => none
      | none => none
    | none => none
  | _ => none

theorem one_ok (hK : CallOK P fun g args s => (K g args s).getD .fail) (hm : P.follows .mixedOrders = true) {fuel : Nat} {g : FuncId} {cs xs : List AV} {orc : List Bool} {v : AV} {cs1 : List AV}
    (hh : holdsO (fitOne v cs1 ((fast P K fuel).2 g (.ptr .h 0 :: xs) (one cs orc)))) (f1 : flatL cs = true) (f2 : flatL xs = true) : OneW P g cs xs v cs1 := by
  rw [← fast_call] at hh
  cases hrun : callAt P K fuel g (.ptr .h 0 :: xs) (one cs orc) with
  | fail => rw [hrun] at hh; exact hh.elim
  | pan u s => rw [hrun] at hh; exact hh.elim
  | ret u s1 =>
  rw [hrun] at hh
  simp only [fitOne, cond_eq_ite] at hh
  split at hh
  · rename_i ps hps
    split at hh
    · rename_i ds hds
      split at hh
      · rename_i qs hqs
        split at hh
        · rename_i hfl
          simp only [Bool.and_eq_true] at hfl
          have hh : allP ps (allP qs s1.cons) := hh
          obtain ⟨h1, h2⟩ := allP_out hh
          obtain ⟨hc, h4⟩ := allP_out h1
          intro ρ l w rs ho hlt hxs
          obtain ⟨ρ0, hρ0⟩ : ∃ ρ0 : Env, ∀ i, ρ0 i = if i = .h then some l else none := ⟨fun i => if i = .h then some l else none, fun _ => rfl⟩
          have h0 : ∀ i l', ρ0 i = some l' → i = .h ∧ l' = l := by
            intro i l' h
            rw [hρ0] at h
            split at h
            · rename_i hi; injection h with h; exact ⟨hi, h.symm⟩
            · cases h
          have hR0 : R ρ0 (one cs orc) w := by
            refine ⟨?_, ?_, ?_⟩
            · intro i o l' ho' hl'
              obtain ⟨rfl, rfl⟩ := one_get ho'
              obtain ⟨_, rfl⟩ := h0 _ _ hl'
              obtain ⟨C, E, fr, L, b1, b2, b3, b4, b5, b6⟩ := ho
              exact ⟨C, E, fr, L, b1, b2, b3, flatL_rel _ _ f1 b4, b5, b6⟩
            · intro i j o o' l1 l2 ho _ ho' _ _ _ _
              rw [(one_get ho).1, (one_get ho').1]
            · intro i l' hl'
              obtain ⟨rfl, rfl⟩ := h0 _ _ hl'
              exact ⟨by simp [one, Pos.nat], hlt⟩
          have hargs0 : relL ρ0 (.ptr .h 0 :: xs) (.pointer (some ⟨l.b, l.base + 0, none⟩) :: rs) := by
            rw [relL_cons]
            exact ⟨_, _, rfl, by rw [rel_ptr]; exact ⟨l, by rw [hρ0, if_pos rfl], rfl⟩, flatL_rel _ _ f2 hxs⟩
          refine (((callAt_sound hK hm fuel g _ _).1 _ _ hrun).2 hc ρ0 w _ hR0 hargs0).mono ?_
          rintro e w' ⟨ρ1, rv, rfl, hv, st⟩
          have hl1 : ρ1 .h = some l := by rw [st.same .h (by simp [one, Pos.nat]), hρ0, if_pos rfl]
          obtain ⟨C, E, fr, L, b1, b2, b3, b4, b5, b6⟩ := st.r.ob .h _ _ (cellsAt_get hds) hl1
          have hnl : ∀ b, b ≠ l.b → ¬ Live ρ0 (one cs orc) b := by
            rintro b hb ⟨i, o, l', ho, _, hl', rfl⟩
            obtain ⟨_, rfl⟩ := h0 _ _ hl'
            exact hb rfl
          refine ⟨rv, rfl, (simV_sound _ _ _ _ hps h2).2 (flat_rel _ _ hfl.1 hv), ?_, st.size, fun b hb hne => st.frame b hb (hnl b hne), st.os, st.tape, st.output⟩
          exact ⟨C, E, fr, L, b1, b2, b3, (simL_sound _ _ _ _ hqs h4).2 (flatL_rel _ _ hfl.2 b4), b5, b6⟩
        · exact hh.elim
      · exact hh.elim
    · exact hh.elim
  · exact hh.elim

/-- A contract on one object: what it gives, of the object's cells, of the other arguments, of the oracle. -/
structure One where
  v : AV
  cs : List AV
  orc : List Bool
  q : Prop

def oneK (g0 : FuncId) (spec : List AV → List AV → List Bool → Option One) : FuncId → List AV → AS → Option CR := fun g args s =>
  bif Nat.beq g g0 then match args with
    | .ptr n 0 :: xs => match s.cellsAt n with
      | some cs => match spec cs xs s.orc with
        | some r => some (.ret r.v { s.put n (.cells r.cs) with orc := r.orc, cons := s.cons ∧ r.q })
        | none => none
      | none => none
    | _ => none
  else none

theorem oneK_ok {g0 : FuncId} {spec : List AV → List AV → List Bool → Option One}
    (h : ∀ cs xs orc r, spec cs xs orc = some r → r.q → OneW P g0 cs xs r.v r.cs) : CallOK P fun g args s => (oneK g0 spec g args s).getD .fail := by
  intro g args s
  have key : ∀ x, (oneK g0 spec g args s).getD .fail = x → (∃ n xs cs r, g = g0 ∧ args = .ptr n 0 :: xs ∧ s.cellsAt n = some cs ∧ spec cs xs s.orc = some r ∧ x = .ret r.v { s.put n (.cells r.cs) with orc := r.orc, cons := s.cons ∧ r.q }) ∨ x = .fail := by
    intro x hx
    unfold oneK at hx
    rw [cond_eq_ite] at hx
    split at hx
    · rename_i hg
      split at hx
      · rename_i n xs
        split at hx
        · rename_i cs hcs
          split at hx
          · rename_i r hr
            exact .inl ⟨n, xs, cs, r, Nat.eq_of_beq_eq_true hg, rfl, hcs, hr, hx.symm⟩
          · exact .inr hx.symm
        · exact .inr hx.symm
      · exact .inr hx.symm
    · exact .inr hx.symm
  refine ⟨fun v s' hr => ?_, fun v s' hr => ?_⟩
  · rcases key _ hr with ⟨n, xs, cs, r, rfl, rfl, hcs, hspec, h2⟩ | h2
    · injection h2 with h2 h3
      subst h2 h3
      refine ⟨fun hc => hc.1, fun hc ρ w rargs hR hrel => ?_⟩
      refine ((h _ _ _ _ hspec hc.2).ok n ρ s w rargs hR hcs hrel).mono ?_
      rintro e w' ⟨rv, rfl, hv, st⟩
      exact ⟨ρ, rv, rfl, hv, st.trans (Step.notes st.r _ rfl rfl)⟩
    · cases h2
  · rcases key _ hr with ⟨_, _, _, _, _, _, _, _, h2⟩ | h2 <;> cases h2

/-- One contract, or another one. -/
def orK (A B : FuncId → List AV → AS → Option CR) : FuncId → List AV → AS → Option CR := fun g args s =>
  match A g args s with
  | some x => some x
  | none => B g args s

theorem orK_ok {A B : FuncId → List AV → AS → Option CR} (ha : CallOK P fun g args s => (A g args s).getD .fail) (hb : CallOK P fun g args s => (B g args s).getD .fail) :
    CallOK P fun g args s => (orK A B g args s).getD .fail := by
  intro g args s
  have h1 := ha g args s
  have h2 := hb g args s
  simp only [orK]
  cases hq : A g args s with
  | some x => simp only [hq] at h1; exact h1
  | none => exact h2
end
end Go.Sx
