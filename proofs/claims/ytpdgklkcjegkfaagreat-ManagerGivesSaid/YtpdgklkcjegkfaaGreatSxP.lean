/-
  A symbolic executor for the model's code, part P: frames; operations one behind the other.
-/
import Derived.Test.YtpdgklkcjegkfaaGreatSxO
namespace Go.Sx
open Go

/-- Deferred calls. -/
def dsRel (ρ : Env) : List (FuncId × List AV) → List Deferred → Prop
  | [], l => l = []
  | (g, xs) :: r, l => ∃ a c ds, l = { target := .fn (.func g) (List.toArray c), args := List.toArray a } :: ds ∧ relL ρ xs (a ++ c) ∧ dsRel ρ r ds

theorem dsRel.mono {ρ ρ' : Env} (h : Sub ρ ρ') : ∀ {l : List (FuncId × List AV)} {d : List Deferred}, dsRel ρ l d → dsRel ρ' l d := by
  intro l
  induction l with
  | nil => intro d hd; exact hd
  | cons p l ih =>
    intro d hd
    obtain ⟨a, c, ds, e, h1, h2⟩ := hd
    exact ⟨a, c, ds, e, relL.mono h _ _ h1, ih h2⟩

structure FR (ρ : Env) (N : Nat) (f : Fr) (a : Act) : Prop where
  size : a.tmps.size = N
  dom : ∀ d v, PT.get (Pos.slot d) f.tm = some v → d < N
  tm : ∀ d v, PT.get (Pos.slot d) f.tm = some v → rel ρ v (a.tmps.getD d undef)
  ds : dsRel ρ f.ds a.defers

theorem FR.mono {ρ ρ' : Env} {N : Nat} {f : Fr} {a : Act} (h : FR ρ N f a) (hs : Sub ρ ρ') : FR ρ' N f a :=
  ⟨h.size, h.dom, fun d v e => rel.mono hs _ _ (h.tm d v e), dsRel.mono hs h.ds⟩

theorem FR.op {ρ : Env} {N : Nat} {f : Fr} {a : Act} (h : FR ρ N f a) : OpRel ρ f.ev a.eval := by
  intro y x hy
  cases y with
  | tmp t => exact h.tm t x hy
  | const v => exact ofV_rel hy ρ
  | global g => simp [Fr.ev] at hy
  | func g => simp [Fr.ev] at hy; subst hy; rw [rel_fn]; exact ⟨[], [], by simp, by simp, rfl⟩

def dstOk (N : Nat) (o : Oper) : Bool := match o.dst with
  | some d => Nat.blt d N
  | none => true

theorem FR.put {ρ : Env} {N : Nat} {f : Fr} {a : Act} (h : FR ρ N f a) {o : Oper} (ho : dstOk N o = true) {x : AV} {v : Value} (hx : rel ρ x v) :
    FR ρ N (f.put o.dst x) (a.put o.dst v) := by
  unfold dstOk at ho
  cases hd : o.dst with
  | none => exact h
  | some d =>
    rw [hd] at ho
    have hlt : d < N := Nat.lt_of_succ_le (Nat.le_of_ble_eq_true ho)
    refine ⟨by simp [Act.put, h.size], ?_, ?_, h.ds⟩
    · intro j y hj
      simp only [Fr.put] at hj
      by_cases e : j = d
      · subst e; exact hlt
      · rw [PT.get_set_other _ _ _ _ (fun he => e (Pos.slot_inj he))] at hj
        exact h.dom j y hj
    · intro j y hj
      simp only [Fr.put] at hj
      simp only [Act.put]
      by_cases e : j = d
      · subst e
        rw [PT.get_set_same] at hj; injection hj with hj; subst hj
        simpa [Array.getD, h.size, hlt] using hx
      · rw [PT.get_set_other _ _ _ _ (fun he => e (Pos.slot_inj he))] at hj
        have := h.tm j y hj
        simpa [Array.getD_eq_getD_getElem?, Array.getElem?_setIfInBounds_ne (Ne.symm e)] using this

/-- What a call's contract says. -/
def CallOK (P : Program) (call : FuncId → List AV → AS → CR) : Prop := ∀ g args s,
  (∀ v s', call g args s = .ret v s' → (s'.cons → s.cons) ∧ (s'.cons → ∀ ρ w rargs, R ρ s w → relL ρ args rargs →
    Calls P g rargs.toArray w fun e w' => ∃ ρ' rv, e = .returned rv ∧ rel ρ' v rv ∧ Step ρ s w ρ' s' w')) ∧
  (∀ v s', call g args s = .pan v s' → (s'.cons → s.cons) ∧ (s'.cons → ∀ ρ w rargs, R ρ s w → relL ρ args rargs →
    Calls P g rargs.toArray w fun e w' => ∃ ρ' rv, e = .panicked [{ v := rv, recovered := false }] ∧ rel ρ' v rv ∧ Step ρ s w ρ' s' w'))

section
variable {P : Program}

theorem getD_some {t : Array Value} {d : Nat} (h : d < t.size) : t[d]? = some (t.getD d undef) := by
  simp [Array.getD, h]

theorem want_sound {ops : Array Oper} {o : Oper} {f : Fr} {s s' : AS} {b : Bool} (h : wantA ops o f s = some (b, s')) :
    (s'.cons → s.cons) ∧ s'.heap = s.heap ∧ s'.next = s.next ∧ (s'.cons → ∀ ρ N a, FR ρ N f a → Region.wanted o (yielded ops a.tmps) = b) := by
  unfold wantA at h
  split at h
  · rename_i hg
    simp only [Option.some.injEq, Prod.mk.injEq] at h; obtain ⟨rfl, rfl⟩ := h
    exact ⟨id, rfl, rfl, fun _ ρ N a _ => by simp [Region.wanted, hg]⟩
  · rename_i j want hg
    split at h
    · rename_i hj
      simp only [Option.some.injEq, Prod.mk.injEq] at h; obtain ⟨rfl, rfl⟩ := h
      exact ⟨id, rfl, rfl, fun _ ρ N a _ => by simp [Region.wanted, hg, yielded, hj]⟩
    · rename_i p hj
      split at h
      · rename_i hd
        simp only [Option.some.injEq, Prod.mk.injEq] at h; obtain ⟨rfl, rfl⟩ := h
        exact ⟨id, rfl, rfl, fun _ ρ N a _ => by simp [Region.wanted, hg, yielded, hj, hd]⟩
      · rename_i d hd
        have key : ∀ ρ N a v, FR ρ N f a → PT.get (Pos.slot d) f.tm = some v → ∃ u, ((ops[j]?).bind (·.dst)).bind (a.tmps[·]?) = some u ∧ rel ρ v u := by
          intro ρ N a v hf hv
          have hlt := hf.dom d v hv
          refine ⟨a.tmps.getD d undef, ?_, hf.tm d v hv⟩
          simp only [hj, Option.bind_some, hd]
          exact getD_some (by rw [hf.size]; exact hlt)
        split at h
        · simp at h
        · simp at h
        · rename_i c hv
          simp only [Option.some.injEq, Prod.mk.injEq] at h; obtain ⟨rfl, rfl⟩ := h
          refine ⟨id, rfl, rfl, fun _ ρ N a hf => ?_⟩
          obtain ⟨u, hu, hr⟩ := key ρ N a _ hf hv
          simp at hr; subst hr
          simp [Region.wanted, hg, yielded, hu]
        · rename_i c hv
          split at h
          · rename_i dd r hor
            simp only [Option.some.injEq, Prod.mk.injEq] at h; obtain ⟨rfl, rfl⟩ := h
            refine ⟨fun hc => hc.1, rfl, rfl, fun hc ρ N a hf => ?_⟩
            obtain ⟨u, hu, hr⟩ := key ρ N a _ hf hv
            simp at hr; subst hr
            have : c = dd := hc.2
            simp [Region.wanted, hg, yielded, hu, this]
          · simp at h
        · rename_i v n1 n2 n3 hv
          simp only [Option.some.injEq, Prod.mk.injEq] at h; obtain ⟨rfl, rfl⟩ := h
          refine ⟨id, rfl, rfl, fun _ ρ N a hf => ?_⟩
          obtain ⟨u, hu, hr⟩ := key ρ N a _ hf hv
          have hnb : ∀ b, u ≠ .bool b := by
            intro b e; subst e
            cases v
            case raw => exact n1 _ rfl
            case bool => exact n2 _ rfl
            case sbool => exact n3 _ rfl
            case ptr => rw [rel_ptr] at hr; obtain ⟨_, _, h⟩ := hr; cases h
            case slc => rw [rel_slc] at hr; obtain ⟨_, _, _, _, h, _⟩ := hr; cases h
            case map => rw [rel_map] at hr; obtain ⟨_, _, h⟩ := hr; cases h
            case fn => rw [rel_fn] at hr; obtain ⟨_, _, _, _, h⟩ := hr; cases h
            case ifc => rw [rel_ifc] at hr; obtain ⟨_, _, h⟩ := hr; cases h
            case agg => rw [rel_agg] at hr; obtain ⟨_, _, h⟩ := hr; cases h
            case tup => rw [rel_tup] at hr; obtain ⟨_, _, h⟩ := hr; cases h
            all_goals (simp at hr)
          have hy : yielded ops a.tmps j = none := by
            unfold yielded
            rw [hu]
            cases u <;> first | rfl | exact absurd rfl (hnb _)
          simp [Region.wanted, hg, hy]

/-- What operations one behind the other come to. -/
def RROK (P : Program) (ops : Array Oper) (N : Nat) (l : List Nat) (f : Fr) (s : AS) : RR → Prop
  | .go f' s' => (s'.cons → s.cons) ∧ (s'.cons → ∀ ρ w a (Q : Exit → Act → World → Prop), R ρ s w → FR ρ N f a →
      (∀ ρ' a' w', FR ρ' N f' a' → Step ρ s w ρ' s' w' → Q .normal a' w') → wpOps P ops Q l a w)
  | .pan v f' s' => (s'.cons → s.cons) ∧ (s'.cons → ∀ ρ w a (Q : Exit → Act → World → Prop), R ρ s w → FR ρ N f a →
      (∀ ρ' a' w' rv, FR ρ' N f' a' → rel ρ' v rv → Step ρ s w ρ' s' w' → Q (.panic [{ v := rv, recovered := false }]) a' w') → wpOps P ops Q l a w)
  | .fail => True

theorem panic_run {o : Oper} {ev : Operand → Option AV} {v : AV} (h : panicA o ev = some v) {ρ : Env} {e : Operand → Value} (he : OpRel ρ ev e) :
    ∃ rv, rel ρ v rv ∧ ∀ w, (execOp e o).run P w = .halt (.panic rv) w := by
  obtain ⟨dst, op, type, pos, after, guard⟩ := o
  cases op <;> simp [panicA] at h
  rename_i x
  split at h
  · rename_i t u hx
    simp at h; subst h
    have := he _ _ hx
    have h2 := this
    rw [rel_ifc] at h2
    obtain ⟨y, _, e2⟩ := h2
    exact ⟨e x, this, fun w => by simp [execOp, Instr.panic, e2]⟩
  · simp at h

theorem runOps_sound {call : FuncId → List AV → AS → CR} (hcall : CallOK P call) (ops : Array Oper) (N : Nat) : ∀ (os : List Oper) (l : List Nat), l.map (fun i => ops[i]?) = os.map some →
    (os.all (dstOk N) = true) → ∀ f s, RROK P ops N l f s (runOps P call ops os f s) := by
  intro os
  induction os with
  | nil =>
    intro l hl _ f s
    have : l = [] := by cases l; rfl; simp at hl
    subst this
    exact ⟨id, fun _ ρ w a Q hr hf hq => hq ρ a w hf (Step.refl hr)⟩
  | cons o os ih =>
    intro l hl hd f s
    cases l with
    | nil => simp at hl
    | cons i l =>
    simp only [List.map_cons, List.cons.injEq] at hl
    obtain ⟨hi, hl⟩ := hl
    simp only [List.all_cons, Bool.and_eq_true] at hd
    obtain ⟨hd0, hd⟩ := hd
    have ih' := ih l hl hd
    simp only [runOps]
    split
    · trivial
    · -- not wanted
      rename_i s1 hw
      obtain ⟨w1, w2, w3, w4⟩ := want_sound hw
      have ihs := ih' (f.put o.dst undefA) s1
      cases hrun : runOps P call ops os (f.put o.dst undefA) s1 with
      | fail => trivial
      | go f' s' =>
        rw [hrun] at ihs
        refine ⟨fun hc => w1 (ihs.1 hc), fun hc ρ w a Q hr hf hq => ?_⟩
        have hwant := w4 (ihs.1 hc) ρ N a hf
        simp only [wpOps, hi, hwant, Bool.false_eq_true, if_false]
        have st := Step.notes hr s1 w2 w3
        exact ihs.2 hc ρ w _ Q st.r (hf.put hd0 rel_undef) fun ρ' a' w' h1 h2 => hq ρ' a' w' h1 (st.trans h2)
      | pan v f' s' =>
        rw [hrun] at ihs
        refine ⟨fun hc => w1 (ihs.1 hc), fun hc ρ w a Q hr hf hq => ?_⟩
        have hwant := w4 (ihs.1 hc) ρ N a hf
        simp only [wpOps, hi, hwant, Bool.false_eq_true, if_false]
        have st := Step.notes hr s1 w2 w3
        exact ihs.2 hc ρ w _ Q st.r (hf.put hd0 rel_undef) fun ρ' a' w' rv h1 h2 h3 => hq ρ' a' w' rv h1 h2 (st.trans h3)
    · rename_i s1 hw
      obtain ⟨w1, w2, w3, w4⟩ := want_sound hw
      split
      · -- a panic
        rename_i v hp
        refine ⟨w1, fun hc ρ w a Q hr hf hq => ?_⟩
        have hwant := w4 hc ρ N a hf
        obtain ⟨rv, p1, p2⟩ := panic_run (P := P) hp hf.op
        simp only [wpOps, hi, hwant, if_true, Oper.wp, p2 w, Oper.upon]
        exact .inl (hq ρ a w rv hf p1 (Step.notes hr s1 w2 w3))
      · split
        · -- a value
          rename_i x s2 hst
          obtain ⟨c1, c2⟩ := stepOr_v hst
          have ihs := ih' (f.put o.dst x) s2
          have go : ∀ s' : AS, (s'.cons → s2.cons) → s'.cons → ∀ ρ w a (Q : Exit → Act → World → Prop), R ρ s w → FR ρ N f a →
              (∀ ρ' a' w', FR ρ' N (f.put o.dst x) a' → Step ρ s w ρ' s2 w' → wpOps P ops Q l a' w') → wpOps P ops Q (i :: l) a w := by
            intro s' hc2 hc ρ w a Q hr hf hk
            have hwant := w4 (c1 (hc2 hc)) ρ N a hf
            have st := Step.notes hr s1 w2 w3
            obtain ⟨n, rv, ρ', w', k1, k2, k3, k4⟩ := c2 (hc2 hc) ρ w a.eval st.r hf.op
            have hfin := hk ρ' (a.put o.dst rv) w' ((hf.mono (k4.sub st.r)).put hd0 k3) (st.trans k4)
            simp only [wpOps, hi, hwant, if_true, Oper.wp, k1]
            rcases k2 with rfl | ⟨rfl, rfl⟩
            · exact .inl hfin
            · exact .inl hfin
          cases hrun : runOps P call ops os (f.put o.dst x) s2 with
          | fail => trivial
          | go f' s' =>
            rw [hrun] at ihs
            refine ⟨fun hc => w1 (c1 (ihs.1 hc)), fun hc ρ w a Q hr hf hq => go s' ihs.1 hc ρ w a Q hr hf fun ρ' a' w' h1 h2 => ?_⟩
            exact ihs.2 hc ρ' w' a' Q h2.r h1 fun ρ2 a2 w2 h3 h4 => hq ρ2 a2 w2 h3 (h2.trans h4)
          | pan v f' s' =>
            rw [hrun] at ihs
            refine ⟨fun hc => w1 (c1 (ihs.1 hc)), fun hc ρ w a Q hr hf hq => go s' ihs.1 hc ρ w a Q hr hf fun ρ' a' w' h1 h2 => ?_⟩
            exact ihs.2 hc ρ' w' a' Q h2.r h1 fun ρ2 a2 w2 rv h3 h4 h5 => hq ρ2 a2 w2 rv h3 h4 (h2.trans h5)
        · -- a call
          rename_i g args s2 hst
          obtain ⟨rfl, c2⟩ := stepOr_call hst
          split
          · rename_i x s3 hret
            obtain ⟨k1, k2⟩ := (hcall g args s2).1 x s3 hret
            have ihs := ih' (f.put o.dst x) s3
            have go : ∀ s' : AS, (s'.cons → s3.cons) → s'.cons → ∀ ρ w a (Q : Exit → Act → World → Prop), R ρ s w → FR ρ N f a →
                (∀ ρ' a' w', FR ρ' N (f.put o.dst x) a' → Step ρ s w ρ' s3 w' → wpOps P ops Q l a' w') → wpOps P ops Q (i :: l) a w := by
              intro s' hc2 hc ρ w a Q hr hf hk
              have hwant := w4 (k1 (hc2 hc)) ρ N a hf
              have st := Step.notes hr s2 w2 w3
              obtain ⟨rargs, r1, r2⟩ := c2 ρ a.eval hf.op
              have hC := k2 (hc2 hc) ρ w rargs st.r r1
              simp only [wpOps, hi, hwant, if_true, Oper.wp, r2 w, Oper.upon]
              refine .inl (hC.mono ?_)
              rintro e w' ⟨ρ', rv, rfl, q1, q2⟩
              exact hk ρ' (a.put o.dst rv) w' ((hf.mono (q2.sub st.r)).put hd0 q1) (st.trans q2)
            cases hrun : runOps P call ops os (f.put o.dst x) s3 with
            | fail => trivial
            | go f' s' =>
              rw [hrun] at ihs
              refine ⟨fun hc => w1 (k1 (ihs.1 hc)), fun hc ρ w a Q hr hf hq => go s' ihs.1 hc ρ w a Q hr hf fun ρ' a' w' h1 h2 => ?_⟩
              exact ihs.2 hc ρ' w' a' Q h2.r h1 fun ρ2 a2 w2 h3 h4 => hq ρ2 a2 w2 h3 (h2.trans h4)
            | pan v f' s' =>
              rw [hrun] at ihs
              refine ⟨fun hc => w1 (k1 (ihs.1 hc)), fun hc ρ w a Q hr hf hq => go s' ihs.1 hc ρ w a Q hr hf fun ρ' a' w' h1 h2 => ?_⟩
              exact ihs.2 hc ρ' w' a' Q h2.r h1 fun ρ2 a2 w2 rv h3 h4 h5 => hq ρ2 a2 w2 rv h3 h4 (h2.trans h5)
          · rename_i v s3 hpan
            obtain ⟨k1, k2⟩ := (hcall g args s2).2 v s3 hpan
            refine ⟨fun hc => w1 (k1 hc), fun hc ρ w a Q hr hf hq => ?_⟩
            have hwant := w4 (k1 hc) ρ N a hf
            have st := Step.notes hr s2 w2 w3
            obtain ⟨rargs, r1, r2⟩ := c2 ρ a.eval hf.op
            have hC := k2 hc ρ w rargs st.r r1
            simp only [wpOps, hi, hwant, if_true, Oper.wp, r2 w, Oper.upon]
            refine .inl (hC.mono ?_)
            rintro e w' ⟨ρ', rv, rfl, q1, q2⟩
            exact hq ρ' a w' rv (hf.mono (q2.sub st.r)) q1 (st.trans q2)
          · trivial
        · -- a deferred call
          rename_i g args s2 hst
          obtain ⟨rfl, hb, c2⟩ := stepOr_dfr hst
          have ihs := ih' ({ f with ds := (g, args) :: f.ds }.put o.dst undefA) s2
          have go : s2.cons → ∀ ρ w a (Q : Exit → Act → World → Prop), R ρ s w → FR ρ N f a →
              (∀ ρ' a' w', FR ρ' N ({ f with ds := (g, args) :: f.ds }.put o.dst undefA) a' → Step ρ s w ρ' s2 w' → wpOps P ops Q l a' w') → wpOps P ops Q (i :: l) a w := by
            intro hc ρ w a Q hr hf hk
            have hwant := w4 hc ρ N a hf
            obtain ⟨ra, rc, r1, r2⟩ := c2 ρ a.eval hf.op
            simp only [wpOps, hi, hwant, if_true, Oper.wp, r2 w, Oper.upon]
            refine .inl (hk ρ _ w ?_ (Step.notes hr s2 w2 w3))
            refine FR.put ?_ hd0 rel_undef
            exact ⟨hf.size, hf.dom, hf.tm, ra, rc, a.defers, rfl, r1, hf.ds⟩
          cases hrun : runOps P call ops os ({ f with ds := (g, args) :: f.ds }.put o.dst undefA) s2 with
          | fail => trivial
          | go f' s' =>
            rw [hrun] at ihs
            refine ⟨fun hc => w1 (ihs.1 hc), fun hc ρ w a Q hr hf hq => go (ihs.1 hc) ρ w a Q hr hf fun ρ' a' w' h1 h2 => ?_⟩
            exact ihs.2 hc ρ' w' a' Q h2.r h1 fun ρ2 a2 w2 h3 h4 => hq ρ2 a2 w2 h3 (h2.trans h4)
          | pan v f' s' =>
            rw [hrun] at ihs
            refine ⟨fun hc => w1 (ihs.1 hc), fun hc ρ w a Q hr hf hq => go (ihs.1 hc) ρ w a Q hr hf fun ρ' a' w' h1 h2 => ?_⟩
            exact ihs.2 hc ρ' w' a' Q h2.r h1 fun ρ2 a2 w2 rv h3 h4 h5 => hq ρ2 a2 w2 rv h3 h4 (h2.trans h5)
        · trivial
end
end Go.Sx
