/-
  A symbolic executor for the model's code, part Z: deferred calls; a call is sound.
-/
import Derived.Test.YtpdgklkcjegkfaaGreatSxY
namespace Go.Sx
open Go

/-- How a deferred call finds its caller. -/
def DMR (ρ : Env) : DM → FrameMode → Prop
  | .calm, u => u = .returning
  | .pan v, u => ∃ rv, rel ρ v rv ∧ u = .panicking [{ v := rv, recovered := false }]
  | .saved v, u => ∃ rv, rel ρ v rv ∧ u = .panicking [{ v := rv, recovered := true }]

theorem DMR.mono {ρ ρ' : Env} (h : Sub ρ ρ') {m : DM} {u : FrameMode} (k : DMR ρ m u) : DMR ρ' m u := by
  cases m with
  | calm => exact k
  | pan v => obtain ⟨rv, h1, h2⟩ := k; exact ⟨rv, rel.mono h _ _ h1, h2⟩
  | saved v => obtain ⟨rv, h1, h2⟩ := k; exact ⟨rv, rel.mono h _ _ h1, h2⟩

section
variable {P : Program}

theorem opsS_one {ops : Array Oper} {i : Nat} {l : List Nat} {a : Act} {cs : List Frame} {w : World} {Q : Exit → Act → List Frame → World → Prop}
    (h : wpOps P ops (fun e a' w' => e = .normal ∧ wpOpsS P ops Q l a' cs w') [i] a w) : wpOpsS P ops Q (i :: l) a cs w := by
  simp only [wpOps] at h
  simp only [wpOpsS]
  cases ho : ops[i]? with
  | none => simp only [ho] at h; simpa using h
  | some o =>
    simp only [ho] at h ⊢
    by_cases hw : Region.wanted o (yielded ops a.tmps) = true
    · simp only [hw, if_true] at h ⊢
      rcases h with h | ⟨_, _, _, h, _⟩
      · unfold Oper.wp at h
        generalize (execOp a.eval o).run P w = r at h ⊢
        split
        · exact h.elim
        · cases r with
          | ok n w' =>
            cases n <;> simp only [Oper.upon, true_and] at h ⊢ <;>
              first
                | exact h
                | (refine Calls.mono h (fun e w'' he => ?_)
                   cases e <;> first | exact he | exact absurd he.1 (by simp) | (obtain ⟨_, _, he, _⟩ := he; cases he))
          | halt x w' =>
            cases x <;> simp only [Oper.upon] at h ⊢
            exact absurd h.1 (by simp)
      · cases h
    · simp only [hw, Bool.false_eq_true, if_false] at h ⊢
      exact h.2

theorem recover_run {o : Oper} (h : isRecover o = true) (e : Operand → Value) (w : World) : (execOp e o).run P w = .ok .recover w := by
  obtain ⟨dst, op, type, pos, after, guard⟩ := o
  unfold isRecover at h
  split at h
  · rename_i args tys heq
    simp only at heq
    subst heq
    simp [execOp, resolve, invoke, builtin]
  · simp at h

theorem runOpsD_sound {call : FuncId → List AV → AS → CR} (hcall : CallOK P call) (ops : Array Oper) (N : Nat) : ∀ (os : List Oper) (l : List Nat), l.map (fun i => ops[i]?) = os.map some →
    (os.all (dstOk N) = true) → ∀ f m s f' s' m', runOpsD P call ops os f m s = some (.go f' s', m') →
      (s'.cons → s.cons) ∧ (s'.cons → ∀ ρ w a u (Q : Exit → Act → List Frame → World → Prop) (c₀ : Frame) (cs : List Frame), R ρ s w → FR ρ N f a → DMR ρ m u →
        (∀ ρ' a' w' u', FR ρ' N f' a' → DMR ρ' m' u' → Step ρ s w ρ' s' w' → Q .normal a' ({ c₀ with mode := u' } :: cs) w') → wpOpsS P ops Q l a ({ c₀ with mode := u } :: cs) w) := by
  intro os
  induction os with
  | nil =>
    intro l hl _ f m s f' s' m' h
    have : l = [] := by cases l; rfl; simp at hl
    subst this
    simp only [runOpsD, Option.some.injEq, Prod.mk.injEq, RR.go.injEq] at h
    obtain ⟨⟨rfl, rfl⟩, rfl⟩ := h
    exact ⟨id, fun _ ρ w a u Q c₀ cs hr hf hm hq => hq ρ a w u hf hm (Step.refl hr)⟩
  | cons o os ih =>
    intro l hl hd f m s f' s' m' h
    cases l with
    | nil => simp at hl
    | cons i l =>
    simp only [List.map_cons, List.cons.injEq] at hl
    obtain ⟨hi, hl⟩ := hl
    simp only [List.all_cons, Bool.and_eq_true] at hd
    obtain ⟨hd0, hd⟩ := hd
    have ih' := ih l hl hd
    simp only [runOpsD, cond_eq_ite] at h
    split at h
    · rename_i hrec
      simp only [Bool.and_eq_true, Option.isNone_iff_eq_none] at hrec
      obtain ⟨hrec, hg⟩ := hrec
      have hwant : ∀ t : Array Value, Region.wanted o (yielded ops t) = true := fun t => by simp [Region.wanted, hg]
      split at h
      · obtain ⟨i1, i2⟩ := ih' _ _ _ _ _ _ h
        refine ⟨i1, fun hc ρ w a u Q c₀ cs hr hf hm hq => ?_⟩
        simp only [wpOpsS, hi, hwant, if_true, recover_run hrec]
        have hm' : u = .returning := hm
        simp only [recoverD, hm']
        have := i2 hc ρ w (a.put o.dst .nilIface) u Q c₀ cs hr (hf.put hd0 (by simp)) hm hq
        rw [hm'] at this; exact this
      · rename_i v
        obtain ⟨i1, i2⟩ := ih' _ _ _ _ _ _ h
        refine ⟨i1, fun hc ρ w a u Q c₀ cs hr hf hm hq => ?_⟩
        simp only [wpOpsS, hi, hwant, if_true, recover_run hrec]
        obtain ⟨rv, h1, h2⟩ := hm
        simp only [recoverD, h2]
        exact i2 hc ρ w (a.put o.dst rv) _ Q c₀ cs hr (hf.put hd0 h1) ⟨rv, h1, rfl⟩ hq
      · rename_i v
        obtain ⟨i1, i2⟩ := ih' _ _ _ _ _ _ h
        refine ⟨i1, fun hc ρ w a u Q c₀ cs hr hf hm hq => ?_⟩
        simp only [wpOpsS, hi, hwant, if_true, recover_run hrec]
        have hm0 := hm
        obtain ⟨rv, h1, h2⟩ := hm
        simp only [recoverD, h2]
        have := i2 hc ρ w (a.put o.dst .nilIface) u Q c₀ cs hr (hf.put hd0 (by simp)) hm0 hq
        rw [h2] at this; exact this
    · split at h
      · rename_i f1 s1 hrun
        obtain ⟨i1, i2⟩ := ih' _ _ _ _ _ _ h
        have hs := runOps_sound hcall ops N [o] [i] (by simp [hi]) (by simp [hd0]) f s
        rw [hrun] at hs
        refine ⟨fun hc => hs.1 (i1 hc), fun hc ρ w a u Q c₀ cs hr hf hm hq => ?_⟩
        refine opsS_one (hs.2 (i1 hc) ρ w a _ hr hf fun ρ' a' w' k1 k2 => ⟨rfl, ?_⟩)
        exact i2 hc ρ' w' a' u Q c₀ cs k2.r k1 (hm.mono (k2.sub hr)) fun ρ2 a2 w2 u2 k3 k4 k5 => hq ρ2 a2 w2 u2 k3 k4 (k2.trans k5)
      · simp at h

/-- Code in a deferred call. -/
def DEOK (P : Program) (N : Nat) (c : Code) (f : Fr) (m : DM) (s : AS) : DE → Prop
  | .at x f' m' s' => (s'.cons → s.cons) ∧ (s'.cons → ∀ ρ w a u (Q : Exit → Act → List Frame → World → Prop) (c₀ : Frame) (cs : List Frame), R ρ s w → FR ρ N f a → DMR ρ m u →
      (∀ e ρ' a' w' u', XR ρ' x e → FR ρ' N f' a' → DMR ρ' m' u' → Step ρ s w ρ' s' w' → Q e a' ({ c₀ with mode := u' } :: cs) w') → c.wpS P Q a ({ c₀ with mode := u } :: cs) w)
  | .fail => True

theorem calm_sound {N : Nat} {c : Code} {f : Fr} {m : DM} {s : AS} {r : ER} (h : EROK P N (c.wp P) f s r) :
    DEOK P N c f m s (match (generalizing := false) r with
      | .at x f s => .at x f m s
      | .fail => .fail) := by
  cases r with
  | fail => trivial
  | «at» x f' s' =>
    refine ⟨h.1, fun hc ρ w a u Q c₀ cs hr hf hm hq => wpS_of_wp (h.2 hc ρ w a _ hr hf fun e ρ' a' w' k1 k2 k3 => ?_)⟩
    exact hq e ρ' a' w' u k1 k2 (hm.mono (k3.sub hr)) k3

theorem evD_sound {call : FuncId → List AV → AS → CR} (hcall : CallOK P call) {ev : Code → Fr → AS → ER}
    (hev : ∀ (c : Code) (N : Nat) (f : Fr) (s : AS), dOk N c = true → EROK P N (c.wp P) f s (ev c f s)) :
    ∀ (c : Code) (N : Nat) (f : Fr) (m : DM) (s : AS), dOk N c = true → DEOK P N c f m s (evD P call ev c f m s) := by
  intro c
  induction c with
  | seq x y ihx ihy =>
    intro N f m s hd
    simp only [dOk, Bool.and_eq_true] at hd
    simp only [evD]
    have h1 := ihx N f m s hd.1
    split
    · rename_i f1 m1 s1 hr
      rw [hr] at h1
      have h2 := ihy N f1 m1 s1 hd.2
      cases hr2 : evD P call ev y f1 m1 s1 with
      | fail => trivial
      | «at» z f' m' s' =>
        rw [hr2] at h2
        refine ⟨fun hc => h1.1 (h2.1 hc), fun hc ρ w a u Q c₀ cs hr hf hm hq => wpS_seq ?_⟩
        refine h1.2 (h2.1 hc) ρ w a u _ c₀ cs hr hf hm fun e ρ' a' w' u' k1 k2 k3 k4 => ?_
        have k1 : e = .normal := k1
        subst k1
        exact h2.2 hc ρ' w' a' u' Q c₀ cs k4.r k2 k3 fun e ρ2 a2 w2 u2 q1 q2 q3 q4 => hq e ρ2 a2 w2 u2 q1 q2 q3 (k4.trans q4)
    · rename_i hne
      cases hr1 : evD P call ev x f m s with
      | fail => trivial
      | «at» z f' m' s' =>
        rw [hr1] at h1
        refine ⟨h1.1, fun hc ρ w a u Q c₀ cs hr hf hm hq => wpS_seq ?_⟩
        refine h1.2 hc ρ w a u _ c₀ cs hr hf hm fun e ρ' a' w' u' k1 k2 k3 k4 => ?_
        have := hq e ρ' a' w' u' k1 k2 k3 k4
        cases z with
        | normal => exact absurd hr1 (hne f' m' s')
        | exit i => have k1 : e = .exit i := k1; subst k1; exact this
        | ret => have k1 : e = .ret := k1; subst k1; exact this
        | pan v => obtain ⟨rv, _, rfl⟩ := k1; exact this
  | cond o x y ihx ihy =>
    intro N f m s hd
    simp only [dOk, Bool.and_eq_true] at hd
    simp only [evD]
    split
    · trivial
    · rename_i v hv
      split
      · trivial
      · rename_i s1 hch
        obtain ⟨c1, c2, c3⟩ := choose1_sound hch
        have := ihx N f m s1 hd.1
        cases hr : evD P call ev x f m s1 with
        | fail => trivial
        | «at» z f' m' s' =>
          rw [hr] at this
          refine ⟨fun hc => c1 (this.1 hc), fun hc ρ w a u Q c₀ cs h1 h2 hm h3 => ?_⟩
          have hcv := c3 (this.1 hc) ρ _ (h2.op _ _ hv)
          refine wpS_cond hcv ?_
          have st := Step.notes h1 s1 c2.1 c2.2
          exact this.2 hc ρ w a u Q c₀ cs st.r h2 hm fun e ρ' a' w' u' k1 k2 k3 k4 => h3 e ρ' a' w' u' k1 k2 k3 (st.trans k4)
      · rename_i s1 hch
        obtain ⟨c1, c2, c3⟩ := choose1_sound hch
        have := ihy N f m s1 hd.2
        cases hr : evD P call ev y f m s1 with
        | fail => trivial
        | «at» z f' m' s' =>
          rw [hr] at this
          refine ⟨fun hc => c1 (this.1 hc), fun hc ρ w a u Q c₀ cs h1 h2 hm h3 => ?_⟩
          have hcv := c3 (this.1 hc) ρ _ (h2.op _ _ hv)
          refine wpS_cond hcv ?_
          have st := Step.notes h1 s1 c2.1 c2.2
          exact this.2 hc ρ w a u Q c₀ cs st.r h2 hm fun e ρ' a' w' u' k1 k2 k3 k4 => h3 e ρ' a' w' u' k1 k2 k3 (st.trans k4)
  | region id ops draw =>
    intro N f m s hd
    simp only [evD, cond_eq_ite]
    split
    · exact calm_sound (hev _ N f s hd)
    · rename_i hdr
      have hdr : draw = false := by simpa using hdr
      subst hdr
      split
      · rename_i f' s' m' hr
        obtain ⟨h1, h2⟩ := runOpsD_sound hcall ops N ops.toList _ (range_map ops) (dOk_region hd) _ _ _ _ _ _ hr
        exact ⟨h1, fun hc ρ w a u Q c₀ cs hr hf hm hq => wpS_region (h2 hc ρ w a u Q c₀ cs hr hf hm fun ρ' a' w' u' k1 k2 k3 => hq .normal ρ' a' w' u' rfl k1 k2 k3)⟩
      · trivial
  | _ =>
    intro N f m s hd
    simp only [evD]
    exact calm_sound (hev _ N f s hd)

/-- What a frame that is left comes to. -/
def LVOK (P : Program) (fn : Func) (N : Nat) (f : Fr) (ds : List (FuncId × List AV)) (m : DM) (s : AS) : CR → Prop
  | .ret v s' => (s'.cons → s.cons) ∧ (s'.cons → ∀ ρ w a u dl (Rr : Ending → World → Prop), R ρ s w → FR ρ N f a → dsRel ρ ds dl → DMR ρ m u →
      (∀ ρ' rv w', rel ρ' v rv → Step ρ s w ρ' s' w' → Rr (.returned rv) w') → Leaves P fn a.tmps Rr dl u w)
  | .pan v s' => (s'.cons → s.cons) ∧ (s'.cons → ∀ ρ w a u dl (Rr : Ending → World → Prop), R ρ s w → FR ρ N f a → dsRel ρ ds dl → DMR ρ m u →
      (∀ ρ' rv w', rel ρ' v rv → Step ρ s w ρ' s' w' → Rr (.panicked [{ v := rv, recovered := false }]) w') → Leaves P fn a.tmps Rr dl u w)
  | .fail => True

theorem leave_sound {call : FuncId → List AV → AS → CR} (hcall : CallOK P call) {ev : Code → Fr → AS → ER}
    (hev : ∀ (c : Code) (N : Nat) (f : Fr) (s : AS), dOk N c = true → EROK P N (c.wp P) f s (ev c f s)) {fn : Func} {N : Nat} {f : Fr} :
    ∀ (ds : List (FuncId × List AV)) (m : DM) (s : AS), LVOK P fn N f ds m s (leave P call ev fn f ds m s) := by
  intro ds
  induction ds with
  | nil =>
    intro m s
    cases m with
    | calm =>
      simp only [leave]
      split
      · rename_i v hv
        refine ⟨id, fun _ ρ w a u dl Rr hr hf hd hm hq => ?_⟩
        have hd : dl = [] := hd
        have hm : u = .returning := hm
        subst hd hm
        obtain ⟨rv, h1, h2⟩ := result_sound hv hr hf
        exact ⟨rv, h1, hq ρ rv w h2 (Step.refl hr)⟩
      · trivial
    | pan v =>
      simp only [leave]
      refine ⟨id, fun _ ρ w a u dl Rr hr hf hd hm hq => ?_⟩
      have hd : dl = [] := hd
      obtain ⟨rv, h1, rfl⟩ := hm
      subst hd
      exact hq ρ rv w h1 (Step.refl hr)
    | saved v => simp only [leave]; trivial
  | cons p ds ih =>
    obtain ⟨g, args⟩ := p
    intro m s
    simp only [leave, cond_eq_ite]
    split
    · trivial
    · rename_i hb
      have hb : hasBody P g = true := by simpa using hb
      split
      · trivial
      · rename_i gn hg
        split
        · trivial
        · rename_i c hbody
          split
          · trivial
          · rename_i hdk
            have hdk : dOk gn.ntmps c = true := by simpa using hdk
            have hdk' : dOk (args.length + (gn.ntmps - args.length)) c = true := dOk_mono (by omega) hdk
            have hD := evD_sound hcall hev c _ (frameOf gn args) m s hdk'
            have core : ∀ x f' m' s1, (x = .normal ∨ x = .ret) → evD P call ev c (frameOf gn args) m s = .at x f' m' s1 → f'.ds = [] → gn.results.toList = [] →
                LVOK P fn N f ((g, args) :: ds) m s (leave P call ev fn f ds (match (generalizing := false) m' with | .saved _ => .calm | m => m) s1) := by
              intro x f' m' s1 hx hr hf' hres
              rw [hr] at hD
              have hnext := ih (match (generalizing := false) m' with | .saved _ => .calm | m => m) s1
              have common : s1.cons → ∀ ρ w a u dl (Rr : Ending → World → Prop), R ρ s w → FR ρ N f a → dsRel ρ ((g, args) :: ds) dl → DMR ρ m u →
                  (∀ ρ' w' u' dl', Step ρ s w ρ' s1 w' → dsRel ρ' ds dl' → DMR ρ' (match (generalizing := false) m' with | .saved _ => .calm | m => m) u' → Leaves P fn a.tmps Rr dl' u' w') →
                  Leaves P fn a.tmps Rr dl u w := by
                intro hc ρ w a u dl Rr hr2 hfr hds hm hk
                obtain ⟨ra, rc, dl', rfl, hrel, hds'⟩ := hds
                refine leaves_cons (f := g) (args := (ra ++ rc).toArray) ?_ ?_ ?_
                · intro hu
                  subst hu
                  cases m with
                  | calm => cases hm
                  | pan v => obtain ⟨_, _, h⟩ := hm; cases h
                  | saved v => obtain ⟨_, _, h⟩ := hm; cases h
                · have := hasBody_run (P := P) hb (ra ++ rc).toArray w
                  simp only [invoke]
                  rw [← List.append_toArray] at this ⊢
                  exact this
                · refine callsD_of_wpS hg hbody fun c₀ cs hc0 => ?_
                  have hc1 : c₀ = { c₀ with mode := u } := by subst hc0; rfl
                  rw [hc1]
                  refine hD.2 hc ρ w _ u _ c₀ cs hr2 (frame_rel hrel) hm fun e ρ' a' w' u' k1 k2 k3 k4 => ?_
                  have hdef : a'.defers = [] := by have := k2.ds; rw [hf'] at this; exact this
                  have hresr : (results gn a'.tmps).run P w' = .ok (.tuple #[]) w' := by
                    unfold results
                    rw [Array.mapM_eq_mapM_toList, hres]
                    simp
                  have hfin : Leaves P fn a.tmps Rr dl' (settle u') w' := by
                    refine hk ρ' w' (settle u') dl' k4 (hds'.mono (k4.sub hr2)) ?_
                    cases m' with
                    | calm => have k3 : u' = .returning := k3; subst k3; rfl
                    | pan v => obtain ⟨rv, h1, rfl⟩ := k3; exact ⟨rv, h1, rfl⟩
                    | saved v => obtain ⟨rv, h1, rfl⟩ := k3; rfl
                  rcases hx with rfl | rfl
                  · have k1 : e = .normal := k1
                    subst k1
                    exact ⟨hdef, u', rfl, .tuple #[], hresr, hfin⟩
                  · have k1 : e = .ret := k1
                    subst k1
                    exact ⟨hdef, u', rfl, .tuple #[], hresr, hfin⟩
              generalize (match (generalizing := false) m' with | .saved _ => DM.calm | m => m) = m2 at hnext common ⊢
              cases hl : leave P call ev fn f ds m2 s1 with
              | fail => trivial
              | ret v s' =>
                rw [hl] at hnext
                refine ⟨fun hc => hD.1 (hnext.1 hc), fun hc ρ w a u dl Rr hr2 hfr hds hm hq => ?_⟩
                refine common (hnext.1 hc) ρ w a u dl Rr hr2 hfr hds hm fun ρ' w' u' dl' k1 k2 k3 => ?_
                exact hnext.2 hc ρ' w' a u' dl' Rr k1.r (hfr.mono (k1.sub hr2)) k2 k3 fun ρ2 rv w2 q1 q2 => hq ρ2 rv w2 q1 (k1.trans q2)
              | pan v s' =>
                rw [hl] at hnext
                refine ⟨fun hc => hD.1 (hnext.1 hc), fun hc ρ w a u dl Rr hr2 hfr hds hm hq => ?_⟩
                refine common (hnext.1 hc) ρ w a u dl Rr hr2 hfr hds hm fun ρ' w' u' dl' k1 k2 k3 => ?_
                exact hnext.2 hc ρ' w' a u' dl' Rr k1.r (hfr.mono (k1.sub hr2)) k2 k3 fun ρ2 rv w2 q1 q2 => hq ρ2 rv w2 q1 (k1.trans q2)
            split
            · rename_i f' m' s1 hr
              split
              · rename_i h1 h2
                exact core .normal f' m' s1 (.inl rfl) hr h1 h2
              · trivial
            · rename_i f' m' s1 hr
              split
              · rename_i h1 h2
                exact core .ret f' m' s1 (.inr rfl) hr h1 h2
              · trivial
            · trivial

theorem callBy_sound {call : FuncId → List AV → AS → CR} (hcall : CallOK P call) {ev : Code → Fr → AS → ER}
    (hev : ∀ (c : Code) (N : Nat) (f : Fr) (s : AS), dOk N c = true → EROK P N (c.wp P) f s (ev c f s)) : CallOK P (callBy P call ev) := by
  intro g args s
  have main : ∀ r, callBy P call ev g args s = r → match (generalizing := false) r with
      | .ret v s' => (s'.cons → s.cons) ∧ (s'.cons → ∀ ρ w rargs, R ρ s w → relL ρ args rargs → ∀ (Rr : Ending → World → Prop), (∀ ρ' rv w', rel ρ' v rv → Step ρ s w ρ' s' w' → Rr (.returned rv) w') → Calls P g rargs.toArray w Rr)
      | .pan v s' => (s'.cons → s.cons) ∧ (s'.cons → ∀ ρ w rargs, R ρ s w → relL ρ args rargs → ∀ (Rr : Ending → World → Prop), (∀ ρ' rv w', rel ρ' v rv → Step ρ s w ρ' s' w' → Rr (.panicked [{ v := rv, recovered := false }]) w') → Calls P g rargs.toArray w Rr)
      | .fail => True := by
    intro r h
    unfold callBy at h
    split at h
    · subst h; trivial
    · rename_i fn hf
      split at h
      · subst h; trivial
      · rename_i c hb
        rw [cond_eq_ite] at h
        split at h
        · subst h; trivial
        · rename_i hdk
          have hdk : dOk fn.ntmps c = true := by simpa using hdk
          have hdk' : dOk (args.length + (fn.ntmps - args.length)) c = true := dOk_mono (by omega) hdk
          have hE := hev c _ (frameOf fn args) s hdk'
          have lv := fun (f1 : Fr) (m : DM) (s1 : AS) => leave_sound (fn := fn) (N := args.length + (fn.ntmps - args.length)) (f := f1) hcall hev f1.ds m s1
          have core : ∀ (x : AX) (f1 : Fr) (m : DM) (s1 : AS), ev c (frameOf fn args) s = .at x f1 s1 → leave P call ev fn f1 f1.ds m s1 = r →
              (∀ ρ e a w Rr, XR ρ x e → (∀ u, DMR ρ m u → Leaves P fn a.tmps Rr a.defers u w) → bodyPostD P fn Rr e a w) → match (generalizing := false) r with
                | .ret v s' => (s'.cons → s.cons) ∧ (s'.cons → ∀ ρ w rargs, R ρ s w → relL ρ args rargs → ∀ (Rr : Ending → World → Prop), (∀ ρ' rv w', rel ρ' v rv → Step ρ s w ρ' s' w' → Rr (.returned rv) w') → Calls P g rargs.toArray w Rr)
                | .pan v s' => (s'.cons → s.cons) ∧ (s'.cons → ∀ ρ w rargs, R ρ s w → relL ρ args rargs → ∀ (Rr : Ending → World → Prop), (∀ ρ' rv w', rel ρ' v rv → Step ρ s w ρ' s' w' → Rr (.panicked [{ v := rv, recovered := false }]) w') → Calls P g rargs.toArray w Rr)
                | .fail => True := by
            intro x f1 m s1 hev1 hl hx
            have l1 := lv f1 m s1
            rw [hev1] at hE
            rw [hl] at l1
            cases r with
            | fail => trivial
            | ret v s' =>
              refine ⟨fun hc => hE.1 (l1.1 hc), fun hc ρ w rargs hr hrel Rr hq => ?_⟩
              refine calls_of_wp_defers hf hb (hE.2 (l1.1 hc) ρ w _ _ hr (frame_rel hrel) fun e ρ' a' w' k1 k2 k3 => ?_)
              refine hx ρ' e a' w' Rr k1 fun u hu => ?_
              exact l1.2 hc ρ' w' a' u a'.defers Rr k3.r k2 k2.ds hu fun ρ2 rv w2 q1 q2 => hq ρ2 rv w2 q1 (k3.trans q2)
            | pan v s' =>
              refine ⟨fun hc => hE.1 (l1.1 hc), fun hc ρ w rargs hr hrel Rr hq => ?_⟩
              refine calls_of_wp_defers hf hb (hE.2 (l1.1 hc) ρ w _ _ hr (frame_rel hrel) fun e ρ' a' w' k1 k2 k3 => ?_)
              refine hx ρ' e a' w' Rr k1 fun u hu => ?_
              exact l1.2 hc ρ' w' a' u a'.defers Rr k3.r k2 k2.ds hu fun ρ2 rv w2 q1 q2 => hq ρ2 rv w2 q1 (k3.trans q2)
          split at h
          · rename_i f1 s1 hr
            refine core .normal f1 .calm s1 hr h fun ρ e a w Rr hx hl => ?_
            have hx : e = .normal := hx
            subst hx
            exact hl .returning rfl
          · rename_i f1 s1 hr
            refine core .ret f1 .calm s1 hr h fun ρ e a w Rr hx hl => ?_
            have hx : e = .ret := hx
            subst hx
            exact hl .returning rfl
          · rename_i v f1 s1 hr
            refine core (.pan v) f1 (.pan v) s1 hr h fun ρ e a w Rr hx hl => ?_
            obtain ⟨rv, h1, rfl⟩ := hx
            exact hl _ ⟨rv, h1, rfl⟩
          · subst h; trivial
  refine ⟨fun v s' h => ?_, fun v s' h => ?_⟩
  · obtain ⟨h1, h2⟩ := main _ h
    exact ⟨h1, fun hc ρ w rargs hr hrel => h2 hc ρ w rargs hr hrel _ fun ρ' rv w' q1 q2 => ⟨ρ', rv, rfl, q1, q2⟩⟩
  · obtain ⟨h1, h2⟩ := main _ h
    exact ⟨h1, fun hc ρ w rargs hr hrel => h2 hc ρ w rargs hr hrel _ fun ρ' rv w' q1 q2 => ⟨ρ', rv, rfl, q1, q2⟩⟩

/-- What the symbolic executor says of a call, the call does. -/
theorem sx_sound {K : FuncId → List AV → AS → Option CR} (hK : CallOK P fun g args s => (K g args s).getD .fail) (hm : P.follows .mixedOrders = true) : ∀ n, (∀ (c : Code) (N : Nat) (f : Fr) (s : AS), dOk N c = true → EROK P N (c.wp P) f s (ev P K n c f s)) ∧
    (∀ (c : Code) (N : Nat) (f : Fr) (s : AS), dOk N c = true → EROK P N (fun Q => Code.rounds P c Q n) f s (ev P K n (.loop c) f s)) ∧ CallOK P (callAt P K n) := by
  intro n
  induction n with
  | zero =>
    refine ⟨fun c N f s _ => ?_, fun c N f s _ => ?_, fun g args s => ⟨fun v s' h => ?_, fun v s' h => ?_⟩⟩
    · simp only [ev]; trivial
    · simp only [ev]; trivial
    · simp only [callAt] at h; cases h
    · simp only [callAt] at h; cases h
  | succ n ih =>
    obtain ⟨i1, i2, i3⟩ := ih
    refine ⟨fun c N f s hd => (ev_sound_step hm n i1 i2 i3 c N f s hd).1, fun c N f s hd => ?_, ?_⟩
    · exact (ev_sound_step hm n i1 i2 i3 (.loop c) N f s (by simpa [dOk] using hd)).2 c rfl
    · intro g args s
      have hb := callBy_sound i3 i1 g args s
      have hk := hK g args s
      simp only [callAt]
      cases h : K g args s with
      | none => exact hb
      | some r => simp only [h, Option.getD_some] at hk; exact hk

theorem callAt_sound {K : FuncId → List AV → AS → Option CR} (hK : CallOK P fun g args s => (K g args s).getD .fail) (hm : P.follows .mixedOrders = true) (n : Nat) : CallOK P (callAt P K n) := (sx_sound hK hm n).2.2

/-- Without contracts. -/
def noK : FuncId → List AV → AS → Option CR := fun _ _ _ => none

theorem noK_ok : CallOK P fun g args s => (noK g args s).getD .fail := fun g args s => ⟨fun v s' h => by simp [noK] at h, fun v s' h => by simp [noK] at h⟩
end
end Go.Sx
