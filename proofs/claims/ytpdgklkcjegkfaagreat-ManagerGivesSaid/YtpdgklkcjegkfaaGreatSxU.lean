/-
  A symbolic executor for the model's code, part U: a region that draws its order is sound, whatever the order.
-/
import Derived.Test.YtpdgklkcjegkfaaGreatSxT
namespace Go.Sx
open Go

section
variable {P : Program}

/-- A variable that was made ahead in the abstract memory comes to be in the model's. -/
theorem step_late {ρ0 : Env} {s : AS} {w0 : World} {ρ : Env} {C : AS} {w : World} (st : Step ρ0 s w0 ρ C w) {i : Pos} (hi : ρ i = none) (hlo : s.next.nat ≤ i.nat) (hhi : i.nat < C.next.nat)
    {cs : List AV} (hg : PT.get i C.heap = some (.cells cs)) {L : List Value} (hr : ∀ ρ, relL ρ cs L) (E : TypeId) :
    Step ρ0 s w0 (ρ.put i ⟨w.heap.size, 0, L.length⟩) C { w with heap := w.heap.push (.cells L.toArray E (0, 0)) } := by
  have h := st.r
  have hsub : Sub ρ (ρ.put i ⟨w.heap.size, 0, L.length⟩) := fun j l e => by
    unfold Env.put
    by_cases hj : j = i
    · subst hj; rw [hi] at e; cases e
    · rw [if_neg hj]; exact e
  refine ⟨⟨?_, ?_, ?_⟩, ?_, st.next, ?_, ?_, ?_, st.os, st.tape, st.output⟩
  · intro j o l e hl
    unfold Env.put at hl
    by_cases hj : j = i
    · rw [if_pos hj] at hl; injection hl with hl; subst hl; subst hj
      rw [hg] at e; injection e with e; subst e
      exact ⟨L.toArray, E, (0, 0), L, by simp, by simp, .inl (Nat.le_refl _), hr _, by simp, fun k hk => by simp⟩
    · rw [if_neg hj] at hl
      refine objRel_grow hsub ?_ (h.ob j o l e hl)
      have := (h.dom j l hl).2
      simp [Array.getElem?_push, Nat.ne_of_lt this]
  · intro j k o o' l l' e ho e2 ho' hl hl' hb
    unfold Env.put at hl hl'
    by_cases hj : j = i
    · by_cases hk : k = i
      · rw [hj, hk]
      · rw [if_pos hj] at hl; rw [if_neg hk] at hl'
        injection hl with hl; subst hl
        have := (h.dom k l' hl').2
        simp at hb; omega
    · by_cases hk : k = i
      · rw [if_neg hj] at hl; rw [if_pos hk] at hl'
        injection hl' with hl'; subst hl'
        have := (h.dom j l hl).2
        simp at hb; omega
      · rw [if_neg hj] at hl; rw [if_neg hk] at hl'
        exact h.inj j k o o' l l' e ho e2 ho' hl hl' hb
  · intro j l hl
    unfold Env.put at hl
    by_cases hj : j = i
    · rw [if_pos hj] at hl; injection hl with hl; subst hl; subst hj
      exact ⟨hhi, by simp⟩
    · rw [if_neg hj] at hl
      have := h.dom j l hl
      exact ⟨this.1, by simp; omega⟩
  · intro j hj
    unfold Env.put
    rw [if_neg (fun e => by subst e; omega)]
    exact st.same j hj
  · rintro b ⟨j, o, l, e, ho, hl, rfl⟩
    unfold Env.put at hl
    by_cases hj : j = i
    · rw [if_pos hj] at hl; injection hl with hl; subst hl
      exact .inl st.size
    · rw [if_neg hj] at hl
      exact st.lv l.b ⟨j, o, l, e, ho, hl, rfl⟩
  · have := st.size; simp; omega
  · intro b hb hn
    rw [← st.frame b hb hn]
    have := st.size
    simp [Array.getElem?_push, show b ≠ w.heap.size by omega]

theorem alloc_run {t : TypeId} {z : AV} (hz : zeroA P t = some z) {o : Oper} (ho : o.op = .alloc t) (e : Operand → Value) (w : World) :
    ∃ L, (∀ ρ, relL ρ z.cells L) ∧ (execOp e o).run P w = .ok (.value (.pointer (some ⟨w.heap.size, 0, none⟩))) { w with heap := w.heap.push (.cells L.toArray t (0, 0)) } := by
  obtain ⟨zv, g1, g2⟩ := run_zero (P := P) hz w
  obtain ⟨L, h1, h2⟩ := cells_rel (g2 (fun _ => none))
  refine ⟨L, fun ρ => relL.mono (fun _ _ h => by cases h) _ _ h2, ?_⟩
  simp only [execOp, ho, Sem.run_bind, Instr.alloc, g1, Result.andThen_ok, newVar, newRow, h1, run_newObj, Sem.run_pure]

/-- Is an operation wanted: of the guard's own temporary alone. -/
theorem want_on {ops : Array Oper} {o : Oper} {f : Fr} {s s' : AS} {b : Bool} (h : wantA ops o f s = some (b, s')) (hc : s'.cons) {ρ : Env} {a : Act}
    (hg : ∀ j want p d, o.guard = some (j, want) → ops[j]? = some p → p.dst = some d → ∀ v, PT.get (Pos.slot d) f.tm = some v → d < a.tmps.size ∧ rel ρ v (a.tmps.getD d undef)) :
    Region.wanted o (yielded ops a.tmps) = b := by
  unfold wantA at h
  split at h
  · rename_i hq
    simp only [Option.some.injEq, Prod.mk.injEq] at h; obtain ⟨rfl, rfl⟩ := h
    simp [Region.wanted, hq]
  · rename_i j want hq
    split at h
    · rename_i hj
      simp only [Option.some.injEq, Prod.mk.injEq] at h; obtain ⟨rfl, rfl⟩ := h
      simp [Region.wanted, hq, yielded, hj]
    · rename_i p hj
      split at h
      · rename_i hd
        simp only [Option.some.injEq, Prod.mk.injEq] at h; obtain ⟨rfl, rfl⟩ := h
        simp [Region.wanted, hq, yielded, hj, hd]
      · rename_i d hd
        have key : ∀ v, PT.get (Pos.slot d) f.tm = some v → ∃ u, ((ops[j]?).bind (·.dst)).bind (a.tmps[·]?) = some u ∧ rel ρ v u := by
          intro v hv
          obtain ⟨hlt, hr⟩ := hg j want p d hq hj hd v hv
          exact ⟨a.tmps.getD d undef, by simp only [hj, Option.bind_some, hd]; exact getD_some hlt, hr⟩
        split at h
        · simp at h
        · simp at h
        · rename_i c hv
          simp only [Option.some.injEq, Prod.mk.injEq] at h; obtain ⟨rfl, rfl⟩ := h
          obtain ⟨u, hu, hr⟩ := key _ hv
          simp at hr; subst hr
          simp [Region.wanted, hq, yielded, hu]
        · rename_i c hv
          split at h
          · rename_i dd r hor
            simp only [Option.some.injEq, Prod.mk.injEq] at h; obtain ⟨rfl, rfl⟩ := h
            obtain ⟨u, hu, hr⟩ := key _ hv
            simp at hr; subst hr
            have : c = dd := hc.2
            simp [Region.wanted, hq, yielded, hu, this]
          · simp at h
        · rename_i v n1 n2 n3 hv
          simp only [Option.some.injEq, Prod.mk.injEq] at h; obtain ⟨rfl, rfl⟩ := h
          obtain ⟨u, hu, hr⟩ := key _ hv
          have hnb : ∀ b, u ≠ .bool b := by
            intro b e; subst e
            cases v
            case raw => exact n1 _ rfl
            case bool => exact n2 _ rfl
            case sbool => exact n3 _ rfl
            case ptr => rw [rel_ptr] at hr; obtain ⟨_, _, h⟩ := hr; cases h
            case slc => rw [rel_slc] at hr; obtain ⟨_, _, _, _, h, _⟩ := hr; cases h
            case map => rw [rel_map] at hr; obtain ⟨_, _, h⟩ := hr; cases h
            case fn => rw [rel_fn] at hr; obtain ⟨_, _, _, _, h⟩ := hr; cases h
            case ifc => rw [rel_ifc] at hr; obtain ⟨_, _, h⟩ := hr; cases h
            case agg => rw [rel_agg] at hr; obtain ⟨_, _, h⟩ := hr; cases h
            case tup => rw [rel_tup] at hr; obtain ⟨_, _, h⟩ := hr; cases h
            all_goals (simp at hr)
          have hy : yielded ops a.tmps j = none := by
            unfold yielded
            rw [hu]
            cases u <;> first | rfl | exact absurd rfl (hnb _)
          simp [Region.wanted, hq, hy]

/-- All that the trace of a drawn region says, laid out. -/
structure TrOK (P : Program) (call : FuncId → List AV → AS → CR) (ops : Array Oper) (N : Nat) (f : Fr) (s s0 : AS) (bf : Nat → Nat) (chain : List Nat) (te : List TE) (cs : List AS) (cons : Prop) : Prop where
  len : te.length = ops.size
  op : ∀ (k : Nat) (e : TE), te[k]? = some e → ops[k]? = some e.p.o ∧ e.p.c = cls P e.p.o ∧ e.p.lo = (chain.filter fun c => (bf k).testBit c).length ∧ e.p.hi = (chain.filter fun c => !(bf c).testBit k).length
  mem : ∀ c, c ∈ chain ↔ ∃ o, ops[c]? = some o ∧ isChain P o = true
  nd : chain.Nodup
  link : ∀ c d, c ∈ chain → d ∈ chain → c < d → (bf d).testBit c = true
  ent : ∀ (k : Nat) (e : TE), te[k]? = some e → EntOK P call ops cons ((s0 :: cs)[chain.countP fun c => decide (c < k)]?) ((s0 :: cs)[(chain.countP fun c => decide (c < k)) + 1]?) e
  clen : cs.length = chain.length
  f2 : ∀ (k : Nat) (e : TE) (t : Tmp), te[k]? = some e → (∀ (j : Nat) (e' : TE), j < k → te[j]? = some e' → e'.p.o.dst ≠ some t) → PT.get (Pos.slot t) e.f.tm = PT.get (Pos.slot t) f.tm
  f1 : ∀ (k : Nat) (e : TE) (j : Nat) (e' : TE) (t : Tmp), te[k]? = some e → j < k → te[j]? = some e' → e'.p.o.dst = some t → PT.get (Pos.slot t) e.f.tm = some e'.v
  one : ∀ (j k : Nat) (e e' : TE) (t : Tmp), te[j]? = some e → te[k]? = some e' → e.p.o.dst = some t → e'.p.o.dst = some t → j = k
  use : ∀ (j k : Nat) (e e' : TE) (t : Tmp), te[j]? = some e → te[k]? = some e' → e.p.o.dst = some t → t ∈ tmpsOf e'.p.o ops → j ≠ k ∧ (j < k → (bf k).testBit j = true) ∧ (k < j → (bf j).testBit k = true)
  chk : ∀ (k : Nat) (e : TE), te[k]? = some e → Chk P (s0 :: cs).zipIdx e
  cons : cons
  alo : ∀ (k : Nat) (e : TE) (i : Pos) (o : Nat), te[k]? = some e → e.p.c = .al → e.on = true → e.v = .ptr i o → o = 0 ∧ s.next.nat ≤ i.nat ∧ i.nat < s0.next.nat
  adif : ∀ (k m : Nat) (e e' : TE), k ≠ m → te[k]? = some e → te[m]? = some e' → e.p.c = .al → e'.p.c = .al → e.on = true → e'.on = true → e.v ≠ e'.v
  dst : ∀ (k : Nat) (e : TE) (t : Tmp), te[k]? = some e → e.p.o.dst = some t → t < N
  dom : ∀ (t : Tmp) (v : AV), PT.get (Pos.slot t) f.tm = some v → t < N
  cl : ∀ (E : Nat → Bool), (∀ (i : Nat) (o : Oper), E i = true → ops[i]? = some o → ∀ e ∈ o.after, Region.binds .any e = true → E e.on = true) → ∀ i, i < ops.size → E i = true → ∀ k, (bf i).testBit k = true → E k = true

/-- What holds when the operations in `E` have been carried out. -/
def Inv (N : Nat) (f : Fr) (s s0 : AS) (ρ0 : Env) (w0 : World) (chain : List Nat) (te : List TE) (cs : List AS) (E : Nat → Bool) (a : Act) (w : World) : Prop :=
  ∃ ρ C, (s0 :: cs)[chain.countP E]? = some C ∧ Step ρ0 s w0 ρ C w ∧ s0.next.nat ≤ C.next.nat ∧ a.tmps.size = N ∧ dsRel ρ f.ds a.defers ∧
    (∀ (k : Nat) (e : TE) (t : Tmp), te[k]? = some e → e.p.o.dst = some t → E k = true → rel ρ e.v (a.tmps.getD t undef)) ∧
    (∀ t : Tmp, (∀ (k : Nat) (e : TE), te[k]? = some e → e.p.o.dst = some t → E k = false) → ∀ v, PT.get (Pos.slot t) f.tm = some v → rel ρ v (a.tmps.getD t undef)) ∧
    (∀ (k : Nat) (e : TE) (i : Pos) (o : Nat), te[k]? = some e → e.p.c = .al → e.on = true → E k = false → e.v = .ptr i o → ρ i = none)

variable {call : FuncId → List AV → AS → CR} {ops : Array Oper} {N : Nat} {f : Fr} {s s0 : AS} {bf : Nat → Nat} {chain : List Nat} {te : List TE} {cs : List AS} {cons : Prop} {ρ0 : Env} {w0 : World}

def add (E : Nat → Bool) (i : Nat) : Nat → Bool := fun k => E k || k == i

/-- An operation's value is put. -/
theorem inv_put (T : TrOK P call ops N f s s0 bf chain te cs cons) {E : Nat → Bool} {i : Nat} {e : TE} (hi : te[i]? = some e) (_hEi : E i = false) {a : Act} {ρ : Env}
    (hsz : a.tmps.size = N) (hds : dsRel ρ f.ds a.defers)
    (hT : ∀ (k : Nat) (e : TE) (t : Tmp), te[k]? = some e → e.p.o.dst = some t → E k = true → rel ρ e.v (a.tmps.getD t undef))
    (hI : ∀ t : Tmp, (∀ (k : Nat) (e : TE), te[k]? = some e → e.p.o.dst = some t → E k = false) → ∀ v, PT.get (Pos.slot t) f.tm = some v → rel ρ v (a.tmps.getD t undef))
    {ρ' : Env} {C' : AS} {w' : World} (hs : Sub ρ ρ') (hC : (s0 :: cs)[chain.countP (add E i)]? = some C') (st : Step ρ0 s w0 ρ' C' w') (hn : s0.next.nat ≤ C'.next.nat) {rv : Value} (hv : rel ρ' e.v rv)
    (hA : ∀ (k : Nat) (e' : TE) (j : Pos) (o : Nat), te[k]? = some e' → e'.p.c = .al → e'.on = true → E k = false → k ≠ i → e'.v = .ptr j o → ρ' j = none) :
    Inv N f s s0 ρ0 w0 chain te cs (add E i) (a.put e.p.o.dst rv) w' := by
  refine ⟨ρ', C', hC, st, hn, by cases h : e.p.o.dst <;> simp [Act.put, hsz], ?_, ?_, ?_, ?_⟩
  · cases h : e.p.o.dst <;> exact dsRel.mono hs hds
  · intro k e' t hk hd hE
    simp only [add, Bool.or_eq_true, beq_iff_eq] at hE
    by_cases hki : k = i
    · subst hki
      rw [hi] at hk; injection hk with hk; subst hk
      have hlt := T.dst _ _ _ hi hd
      rw [hd]
      simp only [Act.put]
      simpa [Array.getD, hsz, hlt] using hv
    · have hE' : E k = true := hE.resolve_right hki
      have := rel.mono hs _ _ (hT k e' t hk hd hE')
      cases h : e.p.o.dst with
      | none => exact this
      | some d =>
        have hne : d ≠ t := fun e1 => hki (T.one k i e' e t hk hi hd (by rw [h, e1]))
        simpa [Act.put, Array.getD_eq_getD_getElem?, Array.getElem?_setIfInBounds_ne hne] using this
  · intro t hno v hv'
    have hne : e.p.o.dst ≠ some t := fun e1 => by
      have := hno i e hi e1
      simp [add] at this
    have := rel.mono hs _ _ (hI t (fun k e' hk hd => by
      have := hno k e' hk hd
      simp only [add, Bool.or_eq_false_iff] at this
      exact this.1) v hv')
    cases h : e.p.o.dst with
    | none => exact this
    | some d =>
      have hne' : d ≠ t := fun e1 => hne (by rw [h, e1])
      simpa [Act.put, Array.getD_eq_getD_getElem?, Array.getElem?_setIfInBounds_ne hne'] using this
  · intro k e' j o hk h1 h2 hE h3
    simp only [add, Bool.or_eq_false_iff, beq_eq_false_iff_ne] at hE
    exact hA k e' j o hk h1 h2 hE.1 hE.2 h3
end
end Go.Sx
