/-
  A symbolic executor for the model's code, part V: a region that draws its order: one operation, whenever it comes.
-/
import Derived.Test.YtpdgklkcjegkfaaGreatSxU
namespace Go.Sx
open Go

section
variable {P : Program}

/-- An operation that writes nothing, with the choice of an unknown truth. -/
theorem stepOr_pure {o : Oper} {ev : Operand → Option AV} {x : AV} {s s' : AS} (hc : cls P o = .pur) (h : stepOr P o ev s = .v x s') (hs : s'.cons) {ρ : Env} {w : World} {e : Operand → Value} (he : OpRel ρ ev e) :
    RoD P ρ w (execOp e o) x := by
  obtain ⟨dst, op, type, pos, after, guard⟩ := o
  cases op
  case pick c a b =>
    simp only [stepOr] at h
    split at h
    · rename_i y hy
      split at h
      · rename_i d r hr0
        split at h
        · rename_i v hv
          simp only [OR.v.injEq] at h
          obtain ⟨rfl, rfl⟩ := h
          have hyd : y = d := hs.2
          have hce := he _ _ hy
          simp at hce
          refine ⟨if d then e a else e b, ?_, ?_⟩
          · simp [execOp, hce, asBool, hyd]
          · cases d
            · exact he _ _ hv
            · exact he _ _ hv
        · simp at h
      · simp at h
    · exact (step_pure (s := s) he hc h).2
  case binOp bo t y z t' =>
    simp only [stepOr] at h
    split at h
    · rename_i v q hq
      simp only [OR.v.injEq] at h
      obtain ⟨rfl, rfl⟩ := h
      obtain ⟨xa, ya, k, a, k', b, s1, hx, hy, h1, h2, h3⟩ := shiftA_some hq
      obtain ⟨rv, hrv, hrel⟩ := intOp_run (P := P) (ρ := ρ) (w := w) (h3 hs.2) t
      have r1 := kindOf_rel h1 (he _ _ hx)
      have r2 := kindOf_rel h2 (he _ _ hy)
      refine ⟨rv, ?_, hrel⟩
      simp only [execOp, r1, r2, Sem.run_bind, run_eqGuard_int, Result.andThen_ok, hrv, Sem.run_pure]
    · exact (step_pure (s := s) he hc h).2
  all_goals exact (step_pure (s := s) he hc h).2

theorem stepOr_read {o : Oper} {ev : Operand → Option AV} {s : AS} (hc : cls P o = .read) : stepOr P o ev s = stepOp P o ev s := by
  obtain ⟨dst, op, type, pos, after, guard⟩ := o
  cases op
  case pick => simp [cls] at hc
  case binOp => simp [cls] at hc
  all_goals rfl

variable {call : FuncId → List AV → AS → CR} {ops : Array Oper} {N : Nat} {f : Fr} {s s0 : AS} {bf : Nat → Nat} {chain : List Nat} {te : List TE} {cs : List AS} {cons : Prop} {ρ0 : Env} {w0 : World}

/-- The operations carried out are closed: what binds them is carried out. -/
def Closed (ops : Array Oper) (E : Nat → Bool) : Prop := ∀ (i : Nat) (o : Oper), E i = true → ops[i]? = some o → ∀ e ∈ o.after, Region.binds .any e = true → E e.on = true

theorem isCh_iff {p : PO} : isCh p = true ↔ p.c = .chain := by unfold isCh; split <;> simp_all

theorem chain_mem (T : TrOK P call ops N f s s0 bf chain te cs cons) {i : Nat} {e : TE} (hi : te[i]? = some e) : i ∈ chain ↔ e.p.c = .chain := by
  obtain ⟨h1, h2, _⟩ := T.op i e hi
  rw [T.mem]
  have : isChain P e.p.o = true ↔ e.p.c = .chain := by rw [h2]; unfold isChain; split <;> simp_all
  constructor
  · rintro ⟨o, ho, hc⟩
    rw [h1] at ho; injection ho with ho; subst ho
    exact this.1 hc
  · intro h; exact ⟨_, h1, this.2 h⟩

theorem add_self (E : Nat → Bool) (i : Nat) : add E i i = true := by simp [add]

theorem te_lt (T : TrOK P call ops N f s s0 bf chain te cs cons) {i : Nat} {e : TE} (hi : te[i]? = some e) : i < ops.size := by
  have := (List.getElem?_eq_some_iff.1 hi).1
  rw [T.len] at this; exact this

/-- The operand's values. -/
theorem inv_tmp (T : TrOK P call ops N f s s0 bf chain te cs cons) {E : Nat → Bool} {i : Nat} {e : TE} (hi : te[i]? = some e) (hEi : E i = false) (hE : Closed ops E) (hA : Closed ops (add E i)) {a : Act} {ρ : Env}
    (hsz : a.tmps.size = N)
    (hT : ∀ (k : Nat) (e : TE) (t : Tmp), te[k]? = some e → e.p.o.dst = some t → E k = true → rel ρ e.v (a.tmps.getD t undef))
    (hI : ∀ t : Tmp, (∀ (k : Nat) (e : TE), te[k]? = some e → e.p.o.dst = some t → E k = false) → ∀ v, PT.get (Pos.slot t) f.tm = some v → rel ρ v (a.tmps.getD t undef))
    {t : Tmp} (ht : t ∈ tmpsOf e.p.o ops) {v : AV} (hv : PT.get (Pos.slot t) e.f.tm = some v) : t < a.tmps.size ∧ rel ρ v (a.tmps.getD t undef) := by
  by_cases hex : ∃ (j : Nat) (e' : TE), te[j]? = some e' ∧ e'.p.o.dst = some t
  · obtain ⟨j, e', hj, hd⟩ := hex
    obtain ⟨u1, u2, u3⟩ := T.use j i e' e t hj hi hd ht
    refine ⟨by rw [hsz]; exact T.dst j e' t hj hd, ?_⟩
    rcases Nat.lt_or_ge j i with hlt | hge
    · have := T.f1 i e j e' t hi hlt hj hd
      rw [this] at hv; injection hv with hv; subst hv
      have := T.cl _ hA i (te_lt T hi) (add_self E i) j (u2 hlt)
      refine hT j e' t hj hd ?_
      simp only [add, Bool.or_eq_true, beq_iff_eq] at this
      exact this.resolve_right u1
    · have hgt : i < j := by omega
      rw [T.f2 i e t hi (fun m e2 hm h2 h3 => by have := T.one m j e2 e' t h2 hj h3 hd; omega)] at hv
      refine hI t (fun k e2 hk h2 => ?_) v hv
      have hkj := T.one k j e2 e' t hk hj h2 hd
      subst hkj
      cases hEk : E k with
      | false => rfl
      | true =>
        have := T.cl _ hE k (te_lt T hk) hEk i (u3 hgt)
        rw [hEi] at this; cases this
  · have hno : ∀ (k : Nat) (e' : TE), te[k]? = some e' → e'.p.o.dst ≠ some t := fun k e' hk hd => hex ⟨k, e', hk, hd⟩
    rw [T.f2 i e t hi (fun j e' _ hj hd => hno j e' hj hd)] at hv
    exact ⟨by rw [hsz]; exact T.dom t v hv, hI t (fun k e' hk hd => absurd hd (hno k e' hk)) v hv⟩

theorem inv_ops (T : TrOK P call ops N f s s0 bf chain te cs cons) {E : Nat → Bool} {i : Nat} {e : TE} (hi : te[i]? = some e) (hEi : E i = false) (hE : Closed ops E) (hA : Closed ops (add E i)) {a : Act} {ρ : Env}
    (hsz : a.tmps.size = N)
    (hT : ∀ (k : Nat) (e : TE) (t : Tmp), te[k]? = some e → e.p.o.dst = some t → E k = true → rel ρ e.v (a.tmps.getD t undef))
    (hI : ∀ t : Tmp, (∀ (k : Nat) (e : TE), te[k]? = some e → e.p.o.dst = some t → E k = false) → ∀ v, PT.get (Pos.slot t) f.tm = some v → rel ρ v (a.tmps.getD t undef)) :
    OpRel ρ (restr e.p.o e.f.ev) a.eval := by
  refine restr_rel fun y hy x hx => ?_
  cases y with
  | tmp t =>
    have ht : t ∈ tmpsOf e.p.o ops := by
      unfold tmpsOf
      rw [List.mem_append]; left
      rw [List.mem_filterMap]
      exact ⟨.tmp t, by simpa using hy, rfl⟩
    exact (inv_tmp T hi hEi hE hA hsz hT hI ht hx).2
  | const v => exact ofV_rel hx ρ
  | global g => simp [Fr.ev] at hx
  | func g => simp [Fr.ev] at hx; subst hx; rw [rel_fn]; exact ⟨[], [], by simp, by simp, rfl⟩

/-- Where the chain stands. -/
theorem chain_at (T : TrOK P call ops N f s s0 bf chain te cs cons) {E : Nat → Bool} {i : Nat} {e : TE} (hi : te[i]? = some e) (hEi : E i = false) (hE : Closed ops E) (hA : Closed ops (add E i)) :
    (i ∈ chain → chain.countP E = chain.countP (fun c => decide (c < i)) ∧ chain.countP (add E i) = chain.countP E + 1) ∧
    (i ∉ chain → chain.countP (add E i) = chain.countP E ∧ e.p.lo ≤ chain.countP E) ∧ chain.countP E ≤ e.p.hi := by
  have hpre : ∀ k, (bf i).testBit k = true → k ≠ i → E k = true := by
    intro k hk hne
    have := T.cl _ hA i (te_lt T hi) (add_self E i) k hk
    simp only [add, Bool.or_eq_true, beq_iff_eq] at this
    exact this.resolve_right hne
  have hpost : ∀ k, k < ops.size → (bf k).testBit i = true → E k = false := by
    intro k hk hb
    cases hEk : E k with
    | false => rfl
    | true =>
      have := T.cl _ hE k hk hEk i hb
      rw [hEi] at this; cases this
  have hlt : ∀ c, c ∈ chain → c < ops.size := by
    intro c hc
    obtain ⟨o, ho, _⟩ := (T.mem c).1 hc
    exact (Array.getElem?_eq_some_iff.1 ho).1
  obtain ⟨_, _, hlo, hhi⟩ := T.op i e hi
  refine ⟨fun hin => ⟨?_, ?_⟩, fun hout => ⟨?_, ?_⟩, ?_⟩
  · refine List.countP_congr fun c hc => ?_
    rw [decide_eq_true_iff]
    constructor
    · intro h
      rcases Nat.lt_trichotomy c i with h1 | h1 | h1
      · exact h1
      · subst h1; rw [hEi] at h; cases h
      · have := hpost c (hlt c hc) (T.link i c hin hc h1)
        rw [h] at this; cases this
    · intro h; exact hpre c (T.link c i hc hin h) (by omega)
  · clear hhi hlo
    have key : ∀ l : List Nat, l.Nodup → i ∈ l → l.countP (add E i) = l.countP E + 1 := by
      intro l
      induction l with
      | nil => intro _ h; simp at h
      | cons x l ih =>
        intro hn hm
        rw [List.nodup_cons] at hn
        rw [List.countP_cons, List.countP_cons]
        by_cases hx : x = i
        · subst hx
          have : l.countP (add E x) = l.countP E := by
            refine List.countP_congr fun c hc => ?_
            have : c ≠ x := fun h => hn.1 (h ▸ hc)
            simp [add, this]
          rw [this]; simp [add, hEi]
        · have hm' : i ∈ l := by
            rcases List.mem_cons.1 hm with h | h
            · exact absurd h.symm hx
            · exact h
          rw [ih hn.2 hm']
          have : add E i x = E x := by simp [add, hx]
          rw [this]; omega
    exact key chain T.nd hin
  · refine List.countP_congr fun c hc => ?_
    have : c ≠ i := fun h => hout (h ▸ hc)
    simp [add, this]
  · rw [hlo, ← List.countP_eq_length_filter]
    refine List.countP_mono_left fun c hc hb => hpre c hb fun h => hout (h ▸ hc)
  · rw [hhi, ← List.countP_eq_length_filter]
    refine List.countP_mono_left fun c hc hb => ?_
    cases hb2 : (bf c).testBit i with
    | false => rfl
    | true => rw [hpost c (hlt c hc) hb2] at hb; cases hb

/-- One operation, whenever it comes. -/
theorem inv_step (hcall : CallOK P call) (T : TrOK P call ops N f s s0 bf chain te cs cons) {E : Nat → Bool} {i : Nat} {e : TE} (hi : te[i]? = some e) (hEi : E i = false) (hE : Closed ops E) (hA : Closed ops (add E i))
    {a : Act} {w : World} (hinv : Inv N f s s0 ρ0 w0 chain te cs E a w) {Q : Exit → Act → World → Prop} {K : Act → World → Prop}
    (hK : ∀ a' w', Inv N f s s0 ρ0 w0 chain te cs (add E i) a' w' → K a' w') : wpOp P ops Q i K a w := by
  obtain ⟨ρ, C, hC, st, hn, hsz, hds, hT, hI, hal⟩ := hinv
  obtain ⟨ho, hcl, _, _⟩ := T.op i e hi
  have hop := inv_ops T hi hEi hE hA hsz hT hI
  obtain ⟨ch1, ch2, ch3⟩ := chain_at T hi hEi hE hA
  obtain ⟨C0, S, S1, n1, n2, n3, n4, n5⟩ := T.ent i e hi
  have hS1 := n4 T.cons
  have hwant : Region.wanted e.p.o (yielded ops a.tmps) = e.on := by
    refine want_on n3 hS1 (ρ := ρ) fun j want p d hg hj hd v hv => ?_
    refine inv_tmp T hi hEi hE hA hsz hT hI ?_ hv
    unfold tmpsOf
    rw [List.mem_append]; right
    simp [hg, hj, hd]
  obtain ⟨_, w2, w3, _⟩ := want_sound n3
  have hSS : Same S S1 := ⟨w2, w3⟩
  have hal' : ∀ (k : Nat) (e' : TE) (j : Pos) (o : Nat), te[k]? = some e' → e'.p.c = .al → e'.on = true → E k = false → k ≠ i → e'.v = .ptr j o → ρ j = none :=
    fun k e' j o h1 h2 h3 h4 _ h5 => hal k e' j o h1 h2 h3 h4 h5
  have hin : i ∈ chain ↔ e.p.c = .chain := chain_mem T hi
  have hmem : (C, chain.countP E) ∈ (s0 :: cs).zipIdx := by
    rw [List.mem_zipIdx_iff_getElem?]; exact hC
  simp only [wpOp, ho, hwant]
  cases hon : e.on with
  | false =>
    simp only [Bool.false_eq_true, if_false]
    have hv : e.v = undefA := by
      rcases n5 with ⟨h, _⟩ | ⟨_, h, _⟩
      · rw [hon] at h; cases h
      · exact h
    apply hK
    by_cases hch : e.p.c = .chain
    · obtain ⟨c1, c2⟩ := ch1 (hin.2 hch)
      have hC0 : C0 = C := by rw [← c1, hC] at n1; injection n1 with n1; exact n1.symm
      subst hC0
      have hC1 : (s0 :: cs)[chain.countP (add E i)]? = some S1 := by
        rw [c2, c1]
        rcases n5 with ⟨h, _⟩ | ⟨_, _, h⟩
        · rw [hon] at h; cases h
        · exact h (isCh_iff.2 hch)
      have hs : Same C0 S1 := n2.trans hSS
      refine inv_put T hi hEi hsz hds hT hI (fun _ _ h => h) hC1 (st.of_same (Same.refl _) hs) (by rw [hs.2]; exact hn) (by rw [hv]; exact rel_undef) hal'
    · obtain ⟨c1, _⟩ := ch2 (fun h => hch (hin.1 h))
      exact inv_put T hi hEi hsz hds hT hI (fun _ _ h => h) (by rw [c1]; exact hC) st hn (by rw [hv]; exact rel_undef) hal'
  | true =>
    simp only [if_true]
    have hdraw : ∃ S2 al, drawStep P call e.p al e.f S1 = some (e.v, S2) ∧ (cons → S2.cons) ∧ (isCh e.p = true → (s0 :: cs)[chain.countP (fun c => decide (c < i)) + 1]? = some S2) := by
      rcases n5 with ⟨_, h⟩ | ⟨h, _⟩
      · exact h
      · rw [hon] at h; cases h
    obtain ⟨S2, al, d1, d2, d3⟩ := hdraw
    have hS2 := d2 T.cons
    have ro : e.p.c ≠ .chain → RoD P ρ w (execOp a.eval e.p.o) e.v → (e.p.o.wp P a w K Q ∨ (e.p.o.asks P a w ∧ LetsOut Q)) := by
      intro hch hro
      obtain ⟨rv, r1, r2⟩ := hro
      obtain ⟨c1, _⟩ := ch2 (fun h => hch (hin.1 h))
      simp only [Oper.wp, r1]
      refine .inl (hK _ _ ?_)
      exact inv_put T hi hEi hsz hds hT hI (fun _ _ h => h) (by rw [c1]; exact hC) st hn r2 hal'
    cases hc : e.p.c with
    | pur =>
      refine ro (by simp [hc]) ?_
      have hs : stepOr P e.p.o e.f.ev S1 = .v e.v S2 := by
        unfold drawStep at d1
        rw [hc] at d1
        simp only at d1
        split at d1
        · rename_i hs
          simp only [Option.some.injEq, Prod.mk.injEq] at d1; obtain ⟨rfl, rfl⟩ := d1
          exact hs
        · simp at d1
      rw [← stepOr_congr (restr_eq e.p.o e.f.ev)] at hs
      exact stepOr_pure (by rw [← hcl, hc]) hs hS2 hop
    | read =>
      refine ro (by simp [hc]) ?_
      obtain ⟨_, c2⟩ := ch2 (fun h => by rw [hin, hc] at h; cases h)
      obtain ⟨S', hs⟩ := (T.chk i e hi).1 hon hc C (chain.countP E) hmem c2 ch3
      rw [← stepOp_congr (restr_eq e.p.o e.f.ev)] at hs
      exact step_read st.r hop (by rw [← hcl, hc]) hs
    | al =>
      obtain ⟨c1, _⟩ := ch2 (fun h => by rw [hin, hc] at h; cases h)
      obtain ⟨i', o', t, z, h1, h2, h3, h4⟩ := (T.chk i e hi).2 hon hc
      obtain ⟨rfl, g2, g3⟩ := T.alo i e i' o' hi hc hon h1
      obtain ⟨L, l1, l2⟩ := alloc_run (P := P) h3 h2 a.eval w
      have hnone := hal i e i' 0 hi hc hon hEi h1
      have hlate := step_late st hnone g2 (by omega) (h4 C _ hmem ch3) l1 t
      have hsub : Sub ρ (ρ.put i' ⟨w.heap.size, 0, L.length⟩) := fun j l ej => by
        unfold Env.put
        by_cases hj : j = i'
        · subst hj; rw [hnone] at ej; cases ej
        · rw [if_neg hj]; exact ej
      simp only [Oper.wp, l2]
      refine .inl (hK _ _ ?_)
      refine inv_put T hi hEi hsz hds hT hI hsub (by rw [c1]; exact hC) hlate hn ?_ ?_
      · rw [h1, rel_ptr]
        exact ⟨⟨w.heap.size, 0, L.length⟩, by simp [Env.put], rfl⟩
      · intro k e' j o hk k1 k2 k3 k4 k5
        have hj : j ≠ i' := by
          intro hji
          subst hji
          obtain ⟨rfl, _⟩ := T.alo k e' j o hk k1 k2 k5
          exact T.adif k i e' e k4 hk hi k1 hc k2 hon (by rw [k5, h1])
        unfold Env.put
        rw [if_neg hj]
        exact hal k e' j o hk k1 k2 k3 k5
    | chain =>
      obtain ⟨c1, c2⟩ := ch1 (hin.2 hc)
      have hC0 : C0 = C := by rw [← c1, hC] at n1; injection n1 with n1; exact n1.symm
      subst hC0
      have hC1 : (s0 :: cs)[chain.countP (add E i)]? = some S2 := by
        rw [c2, c1]; exact d3 (isCh_iff.2 hc)
      have hs : Same C0 S1 := n2.trans hSS
      have st1 : Step ρ0 s w0 ρ S1 w := st.of_same (Same.refl _) hs
      have fin : ∀ ρ' rv w', rel ρ' e.v rv → Step ρ S1 w ρ' S2 w' → K (a.put e.p.o.dst rv) w' := by
        intro ρ' rv w' q1 q2
        apply hK
        refine inv_put T hi hEi hsz hds hT hI (q2.sub st1.r) hC1 (st1.trans q2) ?_ q1 ?_
        · have := q2.next; rw [hs.2] at this; omega
        · intro k e' j o hk k1 k2 k3 k4 k5
          obtain ⟨_, _, b⟩ := T.alo k e' j o hk k1 k2 k5
          rw [q2.same j (by rw [hs.2]; omega)]
          exact hal k e' j o hk k1 k2 k3 k5
      unfold drawStep at d1
      rw [hc] at d1
      simp only at d1
      split at d1
      · rename_i hst
        simp only [Option.some.injEq, Prod.mk.injEq] at d1; obtain ⟨rfl, rfl⟩ := d1
        rw [← stepOr_congr (restr_eq e.p.o e.f.ev)] at hst
        obtain ⟨n, rv, ρ', w', k1, k2, k3, k4⟩ := (stepOr_v hst).2 hS2 ρ w a.eval st1.r hop
        simp only [Oper.wp, k1]
        rcases k2 with rfl | ⟨rfl, rfl⟩
        · exact .inl (fin ρ' _ w' k3 k4)
        · exact .inl (fin ρ' _ w' k3 k4)
      · rename_i g args s2 hst
        split at d1
        · rename_i hret
          simp only [Option.some.injEq, Prod.mk.injEq] at d1; obtain ⟨rfl, rfl⟩ := d1
          rw [← stepOr_congr (restr_eq e.p.o e.f.ev)] at hst
          obtain ⟨rfl, c3⟩ := stepOr_call hst
          obtain ⟨rargs, r1, r2⟩ := c3 ρ a.eval hop
          have hCal := ((hcall _ _ _).1 _ _ hret).2 hS2 ρ w rargs st1.r r1
          simp only [Oper.wp, r2 w, Oper.upon]
          refine .inl (hCal.mono ?_)
          rintro ex w' ⟨ρ', rv, rfl, q1, q2⟩
          exact fin ρ' rv w' q1 q2
        · simp at d1
      · simp at d1
end
end Go.Sx
