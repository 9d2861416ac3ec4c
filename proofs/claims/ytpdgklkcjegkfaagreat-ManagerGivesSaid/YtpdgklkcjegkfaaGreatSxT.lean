/-
  A symbolic executor for the model's code, part T: plans; what is checked again.
-/
import Derived.Test.YtpdgklkcjegkfaaGreatSxS
namespace Go.Sx
open Go

/-! ### What comes ahead -/

theorem fold_bit (acc : List Nat) : ∀ (es : List Edge) (s k : Nat), (es.foldl (fun s e => bif Region.binds .any e then s ||| 2 ^ e.on ||| acc.getD e.on 0 else s) s).testBit k = true →
    s.testBit k = true ∨ ∃ e ∈ es, Region.binds .any e = true ∧ (k = e.on ∨ (acc.getD e.on 0).testBit k = true) := by
  intro es
  induction es with
  | nil => intro s k h; exact .inl h
  | cons e es ih =>
    intro s k h
    rw [List.foldl_cons] at h
    rcases ih _ _ h with h1 | ⟨e', h1, h2⟩
    · cases hb : Region.binds .any e with
      | false => rw [hb] at h1; exact .inl h1
      | true =>
        rw [hb] at h1
        simp only [cond_true, Nat.testBit_or, Bool.or_eq_true] at h1
        rcases h1 with (h1 | h1) | h1
        · exact .inl h1
        · refine .inr ⟨e, by simp, hb, .inl ?_⟩
          rw [Nat.testBit_two_pow] at h1
          simpa using (of_decide_eq_true h1).symm
        · exact .inr ⟨e, by simp, hb, .inr h1⟩
    · exact .inr ⟨e', by simp [h1], h2⟩

theorem befores_get : ∀ (os : List Oper) (acc : List Nat), (∃ t, befores os acc = acc ++ t ∧ t.length = os.length) ∧
    ∀ (j : Nat) (o : Oper), os[j]? = some o → ∃ v, (befores os acc)[acc.length + j]? = some v ∧
      v = o.after.toList.foldl (fun s e => bif Region.binds .any e then s ||| 2 ^ e.on ||| ((befores os acc).take (acc.length + j)).getD e.on 0 else s) 0 := by
  intro os
  induction os with
  | nil => intro acc; exact ⟨⟨[], by simp [befores], rfl⟩, fun j o h => by simp at h⟩
  | cons o os ih =>
    intro acc
    simp only [befores]
    generalize hb : o.after.toList.foldl (fun s e => bif Region.binds .any e then s ||| 2 ^ e.on ||| acc.getD e.on 0 else s) 0 = b
    obtain ⟨⟨t, h1, h2⟩, h3⟩ := ih (acc ++ [b])
    refine ⟨⟨b :: t, by rw [h1]; simp, by simp [h2]⟩, ?_⟩
    intro j o' hj
    cases j with
    | zero =>
      simp at hj; subst hj
      refine ⟨b, by rw [h1]; simp, ?_⟩
      have : (befores os (acc ++ [b])).take (acc.length + 0) = acc := by rw [h1]; simp
      rw [this, hb]
    | succ j =>
      have := h3 j o' (by simpa using hj)
      simpa [Nat.add_assoc, Nat.add_comm 1 j] using this

theorem befores_closed {ops : Array Oper} {E : Nat → Bool} (hE : ∀ i o, E i = true → ops[i]? = some o → ∀ e ∈ o.after, Region.binds .any e = true → E e.on = true) :
    ∀ i, i < ops.size → E i = true → ∀ k, ((befores ops.toList []).getD i 0).testBit k = true → E k = true := by
  intro i
  induction i using Nat.strongRecOn with
  | _ i ih =>
    intro hi hEi k hk
    have ho : ops.toList[i]? = some ops[i] := by simp [hi]
    obtain ⟨v, h1, h2⟩ := (befores_get ops.toList []).2 i ops[i] ho
    simp only [List.length_nil, Nat.zero_add] at h1 h2
    have hv : (befores ops.toList []).getD i 0 = v := by simp [List.getD, h1]
    rw [hv, h2] at hk
    rcases fold_bit _ _ _ _ hk with h3 | ⟨e, he, hb, h3⟩
    · simp at h3
    · have hon := hE i ops[i] hEi (by simp [hi]) e (by simpa using he) hb
      rcases h3 with rfl | h3
      · exact hon
      · have hlt : e.on < i := by
          rcases Nat.lt_or_ge e.on i with h | h
          · exact h
          · have : ((befores ops.toList []).take i).getD e.on 0 = 0 := by
              simp [List.getD, List.getElem?_eq_none (show ((befores ops.toList []).take i).length ≤ e.on by simp; omega)]
            rw [this] at h3; simp at h3
        have e1 : ((befores ops.toList []).take i).getD e.on 0 = (befores ops.toList []).getD e.on 0 := by
          simp [List.getD, List.getElem?_take_of_lt hlt]
        rw [e1] at h3
        exact ih e.on hlt (by omega) hon k h3

/-! ### What is checked again -/

mutual
theorem eqC_sound : ∀ (v w : AV) (ps : List Prop), eqC v w = some ps → (∀ p ∈ ps, p) → v = w
  | .int k n, w, ps, h, hp => by
    cases w <;> simp [eqC, cond_eq_ite] at h
    obtain ⟨⟨rfl, rfl⟩, _⟩ := h; rfl
  | .sint k n, w, ps, h, hp => by
    cases w <;> simp [eqC, cond_eq_ite] at h
    obtain ⟨rfl, rfl⟩ := h; have := hp _ (List.Mem.head _); rw [this]
  | .bool b, w, ps, h, hp => by
    cases w <;> simp [eqC, cond_eq_ite] at h
    obtain ⟨rfl, _⟩ := h; rfl
  | .sbool b, w, ps, h, hp => by
    cases w <;> simp [eqC] at h
    subst h; have := hp _ (List.Mem.head _); rw [this]
  | .str a, w, ps, h, hp => by
    cases w <;> simp [eqC] at h
    subst h; have := hp _ (List.Mem.head _); rw [this]
  | .nilp, w, ps, h, hp => by cases w <;> simp [eqC] at h; rfl
  | .ptr i o, w, ps, h, hp => by
    cases w <;> simp [eqC, cond_eq_ite] at h
    obtain ⟨⟨h1, h2⟩, _⟩ := h
    rw [Pos.eqb_iff] at h1
    rw [h1, h2]
  | .nils, w, ps, h, hp => by cases w <;> simp [eqC] at h; rfl
  | .slc i o n c, w, ps, h, hp => by
    cases w <;> simp [eqC, cond_eq_ite] at h
    obtain ⟨⟨⟨⟨h1, h2⟩, h3⟩, h4⟩, _⟩ := h
    rw [Pos.eqb_iff] at h1
    rw [h1, h2, h3, h4]
  | .nilm, w, ps, h, hp => by cases w <;> simp [eqC] at h; rfl
  | .map i, w, ps, h, hp => by
    cases w <;> simp [eqC, cond_eq_ite] at h
    obtain ⟨h1, _⟩ := h
    rw [Pos.eqb_iff] at h1
    rw [h1]
  | .fn f a c, w, ps, h, hp => by
    cases w <;> simp only [eqC] at h
    case fn g a' c' =>
      rw [cond_eq_ite] at h
      split at h
      · rename_i hf
        split at h
        · rename_i l hl
          split at h
          · rename_i m hm
            simp at h; subst h
            have h1 := eqCs_sound a a' l hl (fun p hq => hp p (by simp [hq]))
            have h2 := eqCs_sound c c' m hm (fun p hq => hp p (by simp [hq]))
            rw [of_decide_eq_true hf, h1, h2]
          · simp at h
        · simp at h
      · simp at h
    all_goals simp at h
  | .nilf, w, ps, h, hp => by cases w <;> simp [eqC] at h; rfl
  | .ifc t v, w, ps, h, hp => by
    cases w <;> simp only [eqC] at h
    case ifc u w' =>
      rw [cond_eq_ite] at h
      split at h
      · rename_i ht
        rw [Nat.eq_of_beq_eq_true ht, eqC_sound v w' ps h hp]
      · simp at h
    all_goals simp at h
  | .nili, w, ps, h, hp => by cases w <;> simp [eqC] at h; rfl
  | .agg a, w, ps, h, hp => by
    cases w <;> simp only [eqC] at h
    case agg b => rw [eqCs_sound a b ps h hp]
    all_goals simp at h
  | .tup a, w, ps, h, hp => by
    cases w <;> simp only [eqC] at h
    case tup b => rw [eqCs_sound a b ps h hp]
    all_goals simp at h
  | .raw v, w, ps, h, hp => by
    cases w <;> simp [eqC] at h
    subst h; have := hp _ (List.Mem.head _); rw [this]
theorem eqCs_sound : ∀ (v w : List AV) (ps : List Prop), eqCs v w = some ps → (∀ p ∈ ps, p) → v = w
  | [], w, ps, h, hp => by cases w <;> simp [eqCs] at h; rfl
  | x :: xs, w, ps, h, hp => by
    cases w with
    | nil => simp [eqCs] at h
    | cons y ys =>
      simp only [eqCs] at h
      split at h
      · rename_i l hl
        split at h
        · rename_i m hm
          simp at h; subst h
          rw [eqC_sound x y l hl (fun p hq => hp p (by simp [hq])), eqCs_sound xs ys m hm (fun p hq => hp p (by simp [hq]))]
        · simp at h
      · simp at h
end

theorem allP_out : ∀ {ps : List Prop} {q : Prop}, allP ps q → q ∧ ∀ p ∈ ps, p := by
  intro ps
  induction ps with
  | nil => intro q h; exact ⟨h, by simp⟩
  | cons p ps ih =>
    intro q h
    obtain ⟨⟨h1, h2⟩, h3⟩ := ih h
    exact ⟨h1, fun r hr => by
      rcases List.mem_cons.1 hr with rfl | hr
      · exact h2
      · exact h3 r hr⟩

section
variable {P : Program}

theorem rereads_ok {e : TE} : ∀ {hs : List (AS × Nat)} {q q' : Prop}, rereads P e hs q = some q' → (q' → q) ∧
    (q' → ∀ c j, (c, j) ∈ hs → e.p.lo ≤ j → j ≤ e.p.hi → ∃ S', stepOp P e.p.o e.f.ev c = .v e.v S') := by
  intro hs
  induction hs with
  | nil => intro q q' h; obtain rfl := Option.some.inj h; exact ⟨id, fun _ c j h => by simp at h⟩
  | cons p hs ih =>
    obtain ⟨c, j⟩ := p
    intro q q' h
    simp only [rereads, cond_eq_ite] at h
    split at h
    · split at h
      · rename_i x S hx
        split at h
        · rename_i ps hps
          obtain ⟨i1, i2⟩ := ih h
          refine ⟨fun hq => (allP_out (i1 hq)).1, fun hq c' j' hm h1 h2 => ?_⟩
          rcases List.mem_cons.1 hm with he | hm
          · injection he with e1 e2
            subst e1 e2
            exact ⟨S, by rw [hx, eqC_sound _ _ _ hps (allP_out (i1 hq)).2]⟩
          · exact i2 hq c' j' hm h1 h2
        · simp at h
      · simp at h
    · rename_i hn
      obtain ⟨i1, i2⟩ := ih h
      refine ⟨i1, fun hq c' j' hm h1 h2 => ?_⟩
      rcases List.mem_cons.1 hm with he | hm
      · injection he with e1 e2
        subst e1 e2
        exact absurd (by simp [Nat.ble_eq_true_of_le h1, Nat.ble_eq_true_of_le h2]) hn
      · exact i2 hq c' j' hm h1 h2

theorem stays_ok {e : TE} {i : Pos} {z : List AV} : ∀ {hs : List (AS × Nat)} {q q' : Prop}, stays e i z hs q = some q' → (q' → q) ∧
    (q' → ∀ c j, (c, j) ∈ hs → j ≤ e.p.hi → PT.get i c.heap = some (.cells z)) := by
  intro hs
  induction hs with
  | nil => intro q q' h; obtain rfl := Option.some.inj h; exact ⟨id, fun _ c j h => by simp at h⟩
  | cons p hs ih =>
    obtain ⟨c, j⟩ := p
    intro q q' h
    simp only [stays, cond_eq_ite] at h
    split at h
    · split at h
      · rename_i b hb
        split at h
        · rename_i ps hps
          obtain ⟨i1, i2⟩ := ih h
          refine ⟨fun hq => (allP_out (i1 hq)).1, fun hq c' j' hm h1 => ?_⟩
          rcases List.mem_cons.1 hm with he | hm
          · injection he with e1 e2
            subst e1 e2
            rw [hb, eqCs_sound _ _ _ hps (allP_out (i1 hq)).2]
          · exact i2 hq c' j' hm h1
        · simp at h
      · simp at h
    · rename_i hn
      obtain ⟨i1, i2⟩ := ih h
      refine ⟨i1, fun hq c' j' hm h1 => ?_⟩
      rcases List.mem_cons.1 hm with he | hm
      · injection he with e1 e2
        subst e1 e2
        exact absurd (Nat.ble_eq_true_of_le h1) hn
      · exact i2 hq c' j' hm h1

/-- What the check of one entry says. -/
def Chk (P : Program) (hs : List (AS × Nat)) (e : TE) : Prop :=
  (e.on = true → e.p.c = .read → ∀ c j, (c, j) ∈ hs → e.p.lo ≤ j → j ≤ e.p.hi → ∃ S', stepOp P e.p.o e.f.ev c = .v e.v S') ∧
  (e.on = true → e.p.c = .al → ∃ i o t z, e.v = .ptr i o ∧ e.p.o.op = .alloc t ∧ zeroA P t = some z ∧ ∀ c j, (c, j) ∈ hs → j ≤ e.p.hi → PT.get i c.heap = some (.cells z.cells))

theorem recheck_ok {hs : List (AS × Nat)} : ∀ {te : List TE} {q q' : Prop}, recheck P hs te q = some q' → (q' → q) ∧ (q' → ∀ e ∈ te, Chk P hs e) := by
  intro te
  induction te with
  | nil => intro q q' h; obtain rfl := Option.some.inj h; exact ⟨id, fun _ e h => by simp at h⟩
  | cons e te ih =>
    intro q q' h
    simp only [recheck] at h
    split at h
    · rename_i q1 h1
      obtain ⟨i1, i2⟩ := ih h
      have key : (q1 → q) ∧ (q1 → Chk P hs e) := by
        unfold recheck1 at h1
        rw [cond_eq_ite] at h1
        split at h1
        · rename_i hon
          split at h1
          · rename_i hc
            obtain ⟨a, b⟩ := rereads_ok h1
            exact ⟨a, fun hq => ⟨fun _ _ => b hq, fun _ hc' => absurd (hc.symm.trans hc') (by simp)⟩⟩
          · rename_i hc
            split at h1
            · rename_i i o t hv hop
              split at h1
              · rename_i z hz
                obtain ⟨a, b⟩ := stays_ok h1
                exact ⟨a, fun hq => ⟨fun _ hc' => absurd (hc.symm.trans hc') (by simp), fun _ _ => ⟨i, o, t, z, hv, hop, hz, b hq⟩⟩⟩
              · simp at h1
            · simp at h1
          · rename_i hc1 hc2
            obtain rfl := Option.some.inj h1
            exact ⟨id, fun _ => ⟨fun _ hc => absurd hc hc1, fun _ hc => absurd hc hc2⟩⟩
        · rename_i hon
          obtain rfl := Option.some.inj h1
          exact ⟨id, fun _ => ⟨fun ho => absurd ho hon, fun ho => absurd ho hon⟩⟩
      refine ⟨fun hq => key.1 (i1 hq), fun hq e' he' => ?_⟩
      rcases List.mem_cons.1 he' with rfl | he'
      · exact key.2 (i1 hq)
      · exact i2 hq e' he'
    · simp at h

/-! ### Plans -/

theorem planGo_get {bf : Nat → Nat} {chain : List Nat} : ∀ {l : List (Oper × Nat)} {k : Nat} {p : PO}, (planGo P bf chain l)[k]? = some p →
    l[k]? = some (p.o, p.i) ∧ p.c = cls P p.o ∧ p.lo = (chain.filter fun c => (bf p.i).testBit c).length ∧ p.hi = (chain.filter fun c => !(bf c).testBit p.i).length := by
  intro l
  induction l with
  | nil => intro k p h; simp [planGo] at h
  | cons q l ih =>
    obtain ⟨o, i⟩ := q
    intro k p h
    simp only [planGo] at h
    cases k with
    | zero => simp at h; subst h; exact ⟨rfl, rfl, rfl, rfl⟩
    | succ k => simpa using ih (by simpa using h)

theorem planGo_length {bf : Nat → Nat} {chain : List Nat} : ∀ {l : List (Oper × Nat)}, (planGo P bf chain l).length = l.length := by
  intro l
  induction l with
  | nil => rfl
  | cons q l ih => obtain ⟨o, i⟩ := q; simp [planGo, ih]

theorem planGo_count {bf : Nat → Nat} {chain : List Nat} : ∀ {l : List (Oper × Nat)} (k : Nat), (((planGo P bf chain l).take k).filter isCh).length = ((l.take k).filter fun p => isChain P p.1).length := by
  intro l
  induction l with
  | nil => intro k; simp [planGo]
  | cons q l ih =>
    obtain ⟨o, i⟩ := q
    intro k
    cases k with
    | zero => simp
    | succ k =>
      simp only [planGo, List.take_succ_cons]
      have : isCh { i, o, c := cls P o, lo := (chain.filter fun c => (bf i).testBit c).length, hi := (chain.filter fun c => !(bf c).testBit i).length } = isChain P o := rfl
      rw [List.filter_cons, List.filter_cons, this]
      simp only
      split
      · simp [ih k]
      · exact ih k

theorem zip_count (p : Oper → Bool) : ∀ (xs : List Oper) (m k : Nat), (((xs.zipIdx m).filter fun q => p q.1).map (·.2)).countP (fun c => decide (c < m + k)) = (((xs.zipIdx m).take k).filter fun q => p q.1).length := by
  intro xs
  induction xs with
  | nil => intro m k; simp
  | cons x xs ih =>
    intro m k
    rw [List.zipIdx_cons]
    have hge : ∀ c ∈ ((xs.zipIdx (m + 1)).filter fun q => p q.1).map (·.2), m + 1 ≤ c := by
      intro c hc
      simp only [List.mem_map, List.mem_filter] at hc
      obtain ⟨q, ⟨hq, _⟩, rfl⟩ := hc
      have := List.le_snd_of_mem_zipIdx hq
      omega
    cases k with
    | zero =>
      simp only [Nat.add_zero, List.take_zero, List.filter_nil, List.length_nil]
      rw [List.countP_eq_zero]
      intro c hc
      rw [List.filter_cons] at hc
      simp only [decide_eq_true_eq]
      split at hc
      · rw [List.map_cons, List.mem_cons] at hc
        rcases hc with rfl | hc
        · simp
        · have := hge c hc; omega
      · have := hge c hc; omega
    | succ k =>
      rw [List.take_succ_cons, List.filter_cons, List.filter_cons]
      have := ih (m + 1) k
      rw [show m + 1 + k = m + (k + 1) by omega] at this
      split
      · rw [List.map_cons, List.countP_cons, this]
        simp
      · exact this
end
end Go.Sx
