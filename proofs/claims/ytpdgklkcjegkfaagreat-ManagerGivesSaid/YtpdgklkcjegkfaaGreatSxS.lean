/-
  A symbolic executor for the model's code, part S: what the trace of a drawn region says.
-/
import Derived.Test.YtpdgklkcjegkfaaGreatSxR
namespace Go.Sx
open Go

def isCh (p : PO) : Bool := match p.c with
  | .chain => true
  | _ => false

/-- How many links of the chain come ahead of place k. -/
def qc (pl : List PO) (k : Nat) : Nat := ((pl.take k).filter isCh).length

section
variable {P : Program} {call : FuncId → List AV → AS → CR} {ops : Array Oper}

theorem drawStep_cons (hcall : CallOK P call) {p : PO} {al : List AV} {f : Fr} {s s' : AS} {x : AV} (h : drawStep P call p al f s = some (x, s')) : s'.cons → s.cons := by
  unfold drawStep at h
  split at h
  · split at h
    · simp only [Option.some.injEq, Prod.mk.injEq] at h; obtain ⟨_, rfl⟩ := h; exact id
    · simp at h
  · split at h
    · rename_i hs
      simp only [Option.some.injEq, Prod.mk.injEq] at h; obtain ⟨_, rfl⟩ := h
      exact (stepOr_v hs).1
    · rename_i g args s2 hs
      obtain ⟨rfl, _⟩ := stepOr_call hs
      split at h
      · rename_i hc
        simp only [Option.some.injEq, Prod.mk.injEq] at h; obtain ⟨_, rfl⟩ := h
        exact ((hcall _ _ _).1 _ _ hc).1
      · simp at h
    · simp at h
  · split at h
    · rename_i hs
      simp only [Option.some.injEq, Prod.mk.injEq] at h; obtain ⟨_, rfl⟩ := h
      exact (stepOr_v hs).1
    · simp at h

theorem drawStep_idle {p : PO} {al : List AV} {f : Fr} {s s' : AS} {x : AV} (hp : p.c = cls P p.o) (hc : isCh p = false) (h : drawStep P call p al f s = some (x, s')) : Same s s' := by
  unfold drawStep at h
  split at h
  · split at h
    · simp only [Option.some.injEq, Prod.mk.injEq] at h; obtain ⟨_, rfl⟩ := h; exact Same.refl _
    · simp at h
  · rename_i hq; simp [isCh, hq] at hc
  · rename_i hq1 hq2
    split at h
    · rename_i hs
      simp only [Option.some.injEq, Prod.mk.injEq] at h; obtain ⟨_, rfl⟩ := h
      refine stepOr_idle ?_ hs
      rw [← hp]
      cases hh : p.c with
      | pur => exact .inl rfl
      | read => exact .inr rfl
      | al => exact absurd hh hq1
      | chain => exact absurd hh hq2
    · simp at h

/-- What is said of one entry of the trace. -/
def EntOK (P : Program) (call : FuncId → List AV → AS → CR) (ops : Array Oper) (cons : Prop) (C0 : Option AS) (C1 : Option AS) (e : TE) : Prop :=
  ∃ C S S1, C0 = some C ∧ Same C S ∧ wantA ops e.p.o e.f S = some (e.on, S1) ∧ (cons → S1.cons) ∧
    ((e.on = true ∧ ∃ S2 al, drawStep P call e.p al e.f S1 = some (e.v, S2) ∧ (cons → S2.cons) ∧ (isCh e.p = true → C1 = some S2)) ∨
     (e.on = false ∧ e.v = undefA ∧ (isCh e.p = true → C1 = some S1)))

theorem draw_ok (hcall : CallOK P call) : ∀ (pl : List PO) (al : List AV) (f : Fr) (s : AS) (te : List TE) (cs : List AS) (f' : Fr) (s' : AS), (∀ p ∈ pl, p.c = cls P p.o) →
    drawOps P call ops pl al f s = .go te cs f' s' →
    te.map (·.p) = pl ∧ (s'.cons → s.cons) ∧ cs.length = (pl.filter isCh).length ∧ (∃ L, (s :: cs)[(pl.filter isCh).length]? = some L ∧ Same L s') ∧ f'.ds = f.ds ∧
      ∀ (k : Nat) (e : TE), te[k]? = some e → EntOK P call ops s'.cons ((s :: cs)[qc pl k]?) ((s :: cs)[qc pl k + 1]?) e := by
  intro pl
  induction pl with
  | nil =>
    intro al f s te cs f' s' _ h
    simp only [drawOps, DR.go.injEq] at h
    obtain ⟨rfl, rfl, rfl, rfl⟩ := h
    exact ⟨rfl, id, rfl, ⟨s, rfl, Same.refl _⟩, rfl, fun k e h => by simp at h⟩
  | cons p pl ih =>
    intro al f s te cs f' s' hcls h
    have hp := hcls p (by simp)
    simp only [drawOps] at h
    split at h
    · simp at h
    · rename_i on s1 hw
      obtain ⟨w1, w2, w3, _⟩ := want_sound hw
      have hsame : Same s s1 := ⟨w2, w3⟩
      split at h
      · simp at h
      · rename_i x s2 hx
        split at h
        · rename_i te' cs' f'' s'' hrec
          simp only [DR.go.injEq] at h
          obtain ⟨rfl, rfl, rfl, rfl⟩ := h
          obtain ⟨i1, i2, i3, i4, i5, i6⟩ := ih _ _ _ _ _ _ _ (fun q hq => hcls q (by simp [hq])) hrec
          have hstep : (s2.cons → s1.cons) ∧ (isCh p = false → Same s1 s2) ∧ ((on = true ∧ drawStep P call p al f s1 = some (x, s2)) ∨ (on = false ∧ x = undefA ∧ s2 = s1)) := by
            cases on with
            | true => exact ⟨drawStep_cons hcall hx, fun hc => drawStep_idle hp hc hx, .inl ⟨rfl, hx⟩⟩
            | false =>
              simp only [cond_false, Option.some.injEq, Prod.mk.injEq] at hx
              obtain ⟨rfl, rfl⟩ := hx
              exact ⟨id, fun _ => Same.refl _, .inr ⟨rfl, rfl, rfl⟩⟩
          have hds : (f.put p.o.dst x).ds = f.ds := by unfold Fr.put; split <;> rfl
          cases hch : isCh p with
          | true =>
            have hcc : p.c = .chain := by unfold isCh at hch; split at hch <;> simp_all
            have hco : chainOn p.c s2 cs' = s2 :: cs' := by rw [hcc]; rfl
            rw [hco]
            refine ⟨by simp [i1], fun hc => w1 (hstep.1 (i2 hc)), by simp [hch, i3], ?_, by rw [i5, hds], ?_⟩
            · obtain ⟨L, l1, l2⟩ := i4
              exact ⟨L, by simpa [hch] using l1, l2⟩
            · intro k e hk
              cases k with
              | zero =>
                simp only [List.getElem?_cons_zero, Option.some.injEq] at hk
                subst hk
                refine ⟨s, s, s1, by simp [qc], Same.refl _, hw, fun hc => hstep.1 (i2 hc), ?_⟩
                rcases hstep.2.2 with ⟨rfl, h1⟩ | ⟨rfl, h1, rfl⟩
                · exact .inl ⟨rfl, s2, al, h1, i2, fun _ => by simp [qc]⟩
                · exact .inr ⟨rfl, h1, fun _ => by simp [qc]⟩
              | succ k =>
                simp only [List.getElem?_cons_succ] at hk
                have := i6 k e hk
                have hq : qc (p :: pl) (k + 1) = qc pl k + 1 := by simp [qc, hch]
                rw [hq]
                simpa using this
          | false =>
            have hcc : chainOn p.c s2 cs' = cs' := by
              cases hh : p.c with
              | chain => exfalso; simp [isCh, hh] at hch
              | _ => rfl
            rw [hcc]
            have hs2 : Same s s2 := hsame.trans (hstep.2.1 hch)
            have hget : ∀ (n : Nat) (C : AS), (s2 :: cs')[n]? = some C → ∃ C', (s :: cs')[n]? = some C' ∧ Same C' C := by
              intro n C hC
              cases n with
              | zero => simp at hC; subst hC; exact ⟨s, rfl, hs2⟩
              | succ n => exact ⟨C, by simpa using hC, Same.refl _⟩
            refine ⟨by simp [i1], fun hc => w1 (hstep.1 (i2 hc)), by simp [hch, i3], ?_, by rw [i5, hds], ?_⟩
            · obtain ⟨L, l1, l2⟩ := i4
              obtain ⟨L', l3, l4⟩ := hget _ _ l1
              exact ⟨L', by simpa [hch] using l3, l4.trans l2⟩
            · intro k e hk
              cases k with
              | zero =>
                simp only [List.getElem?_cons_zero, Option.some.injEq] at hk
                subst hk
                refine ⟨s, s, s1, by simp [qc], Same.refl _, hw, fun hc => hstep.1 (i2 hc), ?_⟩
                rcases hstep.2.2 with ⟨rfl, h1⟩ | ⟨rfl, h1, rfl⟩
                · exact .inl ⟨rfl, s2, al, h1, i2, fun hc => by rw [hch] at hc; cases hc⟩
                · exact .inr ⟨rfl, h1, fun hc => by rw [hch] at hc; cases hc⟩
              | succ k =>
                simp only [List.getElem?_cons_succ] at hk
                obtain ⟨C, S, S1, g1, g2, g3, g4, g5⟩ := i6 k e hk
                have hq : qc (p :: pl) (k + 1) = qc pl k := by simp [qc, hch]
                rw [hq]
                obtain ⟨C', c1, c2⟩ := hget _ _ g1
                refine ⟨C', S, S1, c1, c2.trans g2, g3, g4, ?_⟩
                have hn : (s2 :: cs')[qc pl k + 1]? = (s :: cs')[qc pl k + 1]? := by simp
                rw [hn] at g5
                exact g5
        · simp at h

/-- What the frames along the trace hold. -/
theorem draw_frames : ∀ (pl : List PO) (al : List AV) (f : Fr) (s : AS) (te : List TE) (cs : List AS) (f' : Fr) (s' : AS),
    drawOps P call ops pl al f s = .go te cs f' s' → ∀ (k : Nat) (g : Fr), (te.map (·.f) ++ [f'])[k]? = some g →
      g.ds = f.ds ∧
      (∀ t, (∀ (j : Nat) (e : TE), j < k → te[j]? = some e → e.p.o.dst ≠ some t) → PT.get (Pos.slot t) g.tm = PT.get (Pos.slot t) f.tm) ∧
      (∀ (j : Nat) (e : TE) (t : Tmp), j < k → te[j]? = some e → e.p.o.dst = some t → (∀ (m : Nat) (e' : TE), j < m → m < k → te[m]? = some e' → e'.p.o.dst ≠ some t) → PT.get (Pos.slot t) g.tm = some e.v) := by
  intro pl
  induction pl with
  | nil =>
    intro al f s te cs f' s' h k g hg
    simp only [drawOps, DR.go.injEq] at h
    obtain ⟨rfl, rfl, rfl, rfl⟩ := h
    cases k with
    | zero => simp at hg; subst hg; exact ⟨rfl, fun _ _ => rfl, fun j e t hj => by omega⟩
    | succ k => simp at hg
  | cons p pl ih =>
    intro al f s te cs f' s' h k g hg
    simp only [drawOps] at h
    split at h
    · simp at h
    · split at h
      · simp at h
      · rename_i x s2 hx
        split at h
        · rename_i te' cs' f'' s'' hrec
          simp only [DR.go.injEq] at h
          obtain ⟨rfl, _, rfl, rfl⟩ := h
          cases k with
          | zero => simp at hg; subst hg; exact ⟨rfl, fun _ _ => rfl, fun j e t hj => by omega⟩
          | succ k =>
            simp only [List.map_cons, List.cons_append, List.getElem?_cons_succ] at hg
            obtain ⟨g1, g2, g3⟩ := ih _ _ _ _ _ _ _ hrec k g hg
            have hput : ∀ t, p.o.dst ≠ some t → PT.get (Pos.slot t) (f.put p.o.dst x).tm = PT.get (Pos.slot t) f.tm := by
              intro t ht
              unfold Fr.put
              split
              · rename_i d hd
                exact PT.get_set_other _ _ _ _ (fun e => ht (by rw [hd, Pos.slot_inj e]))
              · rfl
            have hds : (f.put p.o.dst x).ds = f.ds := by unfold Fr.put; split <;> rfl
            refine ⟨by rw [g1, hds], fun t ht => ?_, fun j e t hj he hd hm => ?_⟩
            · rw [g2 t (fun j e hj he => ht (j + 1) e (by omega) (by simpa using he)), hput t (ht 0 _ (by omega) rfl)]
            · cases j with
              | zero =>
                simp at he; subst he
                rw [g2 t (fun m e' hm' he' => hm (m + 1) e' (by omega) (by omega) (by simpa using he'))]
                simp only at hd
                simp only [Fr.put, hd]
                exact PT.get_set_same _ _ _
              | succ j =>
                refine g3 j e t (by omega) (by simpa using he) hd fun m e' h1 h2 h3 => hm (m + 1) e' (by omega) (by omega) (by simpa using h3)
        · simp at h

/-- The variables made ahead: each of its own. -/
theorem draw_al : ∀ (pl : List PO) (al : List AV) (f : Fr) (s : AS) (te : List TE) (cs : List AS) (f' : Fr) (s' : AS),
    drawOps P call ops pl al f s = .go te cs f' s' → al.Pairwise (· ≠ ·) →
      (∀ (k : Nat) (e : TE), te[k]? = some e → e.p.c = .al → e.on = true → e.v ∈ al) ∧
      (∀ (k m : Nat) (e e' : TE), k ≠ m → te[k]? = some e → te[m]? = some e' → e.p.c = .al → e'.p.c = .al → e.on = true → e'.on = true → e.v ≠ e'.v) := by
  intro pl
  induction pl with
  | nil =>
    intro al f s te cs f' s' h _
    simp only [drawOps, DR.go.injEq] at h
    obtain ⟨rfl, rfl, rfl, rfl⟩ := h
    exact ⟨fun k e h => by simp at h, fun k m e e' _ h => by simp at h⟩
  | cons p pl ih =>
    intro al f s te cs f' s' h hal
    simp only [drawOps] at h
    split at h
    · simp at h
    · rename_i on s1 hw
      split at h
      · simp at h
      · rename_i x s2 hx
        split at h
        · rename_i te' cs' f'' s'' hrec
          simp only [DR.go.injEq] at h
          obtain ⟨rfl, _, rfl, rfl⟩ := h
          have hsub : ∀ y, y ∈ alTail p.c al → y ∈ al := by
            intro y hy
            cases hh : p.c <;> simp only [hh, alTail] at hy
            · exact hy
            · exact hy
            · exact List.mem_of_mem_tail hy
            · exact hy
          have hpw : (alTail p.c al).Pairwise (· ≠ ·) := by
            cases hh : p.c <;> simp only [alTail]
            · exact hal
            · exact hal
            · cases al with
              | nil => simp
              | cons y l => exact (List.pairwise_cons.1 hal).2
            · exact hal
          obtain ⟨i1, i2⟩ := ih _ _ _ _ _ _ _ hrec hpw
          have hhead : p.c = .al → on = true → ∃ l, al = x :: l := by
            intro hc ho
            subst ho
            simp only [cond_true, drawStep, hc] at hx
            split at hx
            · simp only [Option.some.injEq, Prod.mk.injEq] at hx; obtain ⟨rfl, _⟩ := hx; exact ⟨_, rfl⟩
            · simp at hx
          have hzero : ∀ (m : Nat) (e' : TE), p.c = .al → on = true → te'[m]? = some e' → e'.p.c = .al → e'.on = true → x ≠ e'.v := by
            intro m e' hc ho hm h1 h2
            obtain ⟨l, hl⟩ := hhead hc ho
            have := i1 m e' hm h1 h2
            simp only [hc, hl, alTail, List.tail_cons] at this
            rw [hl] at hal
            exact (List.pairwise_cons.1 hal).1 _ this
          refine ⟨fun k e hk h1 h2 => ?_, fun k m e e' hkm hk hm h1 h2 h3 h4 => ?_⟩
          · cases k with
            | zero =>
              simp at hk; subst hk
              obtain ⟨l, hl⟩ := hhead h1 h2
              simp [hl]
            | succ k => exact hsub _ (i1 k e (by simpa using hk) h1 h2)
          · cases k with
            | zero =>
              simp at hk; subst hk
              cases m with
              | zero => omega
              | succ m => exact hzero m e' h1 h3 (by simpa using hm) h2 h4
            | succ k =>
              cases m with
              | zero =>
                simp at hm; subst hm
                exact fun e1 => hzero k e h2 h4 (by simpa using hk) h1 h3 e1.symm
              | succ m => exact i2 k m e e' (by omega) (by simpa using hk) (by simpa using hm) h1 h2 h3 h4
        · simp at h

theorem allocs_ok : ∀ (pl : List PO) (s : AS) (al : List AV) (s' : AS), allocs P pl s = some (al, s') →
    s'.cons = s.cons ∧ s.next.nat ≤ s'.next.nat ∧ (∀ i, i.nat < s.next.nat → PT.get i s'.heap = PT.get i s.heap) ∧
      (∀ x ∈ al, ∃ i, x = .ptr i 0 ∧ s.next.nat ≤ i.nat ∧ i.nat < s'.next.nat) ∧ al.Pairwise (· ≠ ·) := by
  intro pl
  induction pl with
  | nil => intro s al s' h; simp [allocs] at h; obtain ⟨rfl, rfl⟩ := h; exact ⟨rfl, Nat.le_refl _, fun _ _ => rfl, by simp, by simp⟩
  | cons p pl ih =>
    intro s al s' h
    simp only [allocs] at h
    split at h
    · split at h
      · split at h
        · rename_i z hz
          split at h
          · rename_i l s2 hrec
            simp only [Option.some.injEq, Prod.mk.injEq] at h
            obtain ⟨rfl, rfl⟩ := h
            obtain ⟨i1, i2, i3, i4, i5⟩ := ih _ _ _ hrec
            have hn : (s.new (.cells z.cells)).next.nat = s.next.nat + 1 := Pos.nat_succ _
            refine ⟨by rw [i1]; rfl, by omega, fun i hi => ?_, ?_, ?_⟩
            · rw [i3 i (by omega)]
              simp only [AS.new]
              exact PT.get_set_other _ _ _ _ (fun e => by subst e; omega)
            · intro x hx
              simp only [List.mem_cons] at hx
              rcases hx with rfl | hx
              · exact ⟨s.next, rfl, Nat.le_refl _, by omega⟩
              · obtain ⟨i, e, a, b⟩ := i4 x hx
                exact ⟨i, e, by omega, b⟩
            · rw [List.pairwise_cons]
              refine ⟨fun y hy e => ?_, i5⟩
              obtain ⟨i, e2, a, b⟩ := i4 y hy
              rw [e2] at e
              injection e with e
              subst e; omega
          · simp at h
        · simp at h
      · simp at h
    · exact ih _ _ _ h
end
end Go.Sx
