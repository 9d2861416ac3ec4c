/-
  A symbolic executor for the model's code, part Y: code; deferred calls; a call is sound.
-/
import Derived.LoopN
import Derived.Recover
import Derived.Scope
import Derived.Test.YtpdgklkcjegkfaaGreatSxX
namespace Go.Sx
open Go

/-- How code was left. -/
def XR (ρ : Env) : AX → Exit → Prop
  | .normal, e => e = .normal
  | .exit i, e => e = .exit i
  | .ret, e => e = .ret
  | .pan v, e => ∃ rv, rel ρ v rv ∧ e = .panic [{ v := rv, recovered := false }]

def EROK (_P : Program) (N : Nat) (W : (Exit → Act → World → Prop) → Act → World → Prop) (f : Fr) (s : AS) : ER → Prop
  | .at x f' s' => (s'.cons → s.cons) ∧ (s'.cons → ∀ ρ w a (Q : Exit → Act → World → Prop), R ρ s w → FR ρ N f a →
      (∀ e ρ' a' w', XR ρ' x e → FR ρ' N f' a' → Step ρ s w ρ' s' w' → Q e a' w') → W Q a w)
  | .fail => True

section
variable {P : Program}

theorem range_map (ops : Array Oper) : (List.range ops.size).map (fun i => ops[i]?) = ops.toList.map some := by
  apply List.ext_getElem?
  intro i
  by_cases h : i < ops.size
  · simp [h]
  · simp [h]

theorem region_sound {call : FuncId → List AV → AS → CR} (hcall : CallOK P call) (hm : P.follows .mixedOrders = true) {N id : Nat} {ops : Array Oper} {draw : Bool} {f : Fr} {s : AS}
    (hd : ops.toList.all (dstOk N) = true) : EROK P N ((Code.region id ops draw).wp P) f s
      (match (bif draw then runDraw P call ops f s else runOps P call ops ops.toList f s) with
      | .go f s => .at .normal f s
      | .pan v f s => .at (.pan v) f s
      | .fail => .fail) := by
  cases draw with
  | true =>
    simp only [cond_true]
    cases h : runDraw P call ops f s with
    | fail => trivial
    | pan v f' s' =>
      exfalso
      unfold runDraw at h
      repeat' (split at h)
      all_goals cases h
    | go f' s' =>
      obtain ⟨h1, h2⟩ := draw_sound hcall hm hd h
      exact ⟨h1, fun hc ρ w a Q hr hf hq => h2 hc ρ w a Q id hr hf fun ρ' a' w' g1 g2 => hq .normal ρ' a' w' rfl g1 g2⟩
  | false =>
    simp only [cond_false]
    have hs := runOps_sound hcall ops N ops.toList _ (range_map ops) hd f s
    cases h : runOps P call ops ops.toList f s with
    | fail => trivial
    | go f' s' =>
      rw [h] at hs
      exact ⟨hs.1, fun hc ρ w a Q hr hf hq => wp_region (hs.2 hc ρ w a Q hr hf fun ρ' a' w' g1 g2 => hq .normal ρ' a' w' rfl g1 g2)⟩
    | pan v f' s' =>
      rw [h] at hs
      exact ⟨hs.1, fun hc ρ w a Q hr hf hq => wp_region (hs.2 hc ρ w a Q hr hf fun ρ' a' w' rv g1 g2 g3 => hq _ ρ' a' w' ⟨rv, g2, rfl⟩ g1 g3)⟩

/-- One piece of code behind another. -/
theorem seq_sound {N : Nat} {W1 W2 W : (Exit → Act → World → Prop) → Act → World → Prop} (hW : ∀ Q a w, W1 (Exit.then (W2 Q) Q) a w → W Q a w) {f : Fr} {s : AS} {r1 : ER} {r2 : Fr → AS → ER}
    (h1 : EROK P N W1 f s r1) (h2 : ∀ f s, EROK P N W2 f s (r2 f s)) :
    EROK P N W f s (match (generalizing := false) r1 with
      | .at .normal f s => r2 f s
      | e => e) := by
  split
  · rename_i f1 s1
    have i2 := h2 f1 s1
    cases hr : r2 f1 s1 with
    | fail => trivial
    | «at» x f' s' =>
      rw [hr] at i2
      refine ⟨fun hc => h1.1 (i2.1 hc), fun hc ρ w a Q hR hf hq => hW Q a w ?_⟩
      refine h1.2 (i2.1 hc) ρ w a _ hR hf fun e ρ' a' w' hx hf' st => ?_
      have hx : e = .normal := hx
      subst hx
      exact i2.2 hc ρ' w' a' Q st.r hf' fun e ρ2 a2 w2 k1 k2 k3 => hq e ρ2 a2 w2 k1 k2 (st.trans k3)
  · rename_i hne
    cases r1 with
    | fail => trivial
    | «at» x f' s' =>
      refine ⟨h1.1, fun hc ρ w a Q hR hf hq => hW Q a w ?_⟩
      refine h1.2 hc ρ w a _ hR hf fun e ρ' a' w' hx hf' st => ?_
      have := hq e ρ' a' w' hx hf' st
      cases x with
      | normal => exact absurd rfl (hne f' s')
      | exit i => have hx : e = .exit i := hx; subst hx; exact this
      | ret => have hx : e = .ret := hx; subst hx; exact this
      | pan v => obtain ⟨rv, _, rfl⟩ := hx; exact this

theorem ev_sound_step {K : FuncId → List AV → AS → Option CR} (hm : P.follows .mixedOrders = true) (n : Nat)
    (ih : ∀ (c : Code) (N : Nat) (f : Fr) (s : AS), dOk N c = true → EROK P N (c.wp P) f s (ev P K n c f s))
    (ihl : ∀ (c : Code) (N : Nat) (f : Fr) (s : AS), dOk N c = true → EROK P N (fun Q => Code.rounds P c Q n) f s (ev P K n (.loop c) f s))
    (hcall : CallOK P (callAt P K n)) (c : Code) (N : Nat) (f : Fr) (s : AS) (hd : dOk N c = true) :
    EROK P N (c.wp P) f s (ev P K (n + 1) c f s) ∧ (∀ c', c = .loop c' → EROK P N (fun Q => Code.rounds P c' Q (n + 1)) f s (ev P K (n + 1) c f s)) := by
  have hlp : ∀ c', c = .loop c' → EROK P N (fun Q => Code.rounds P c' Q (n + 1)) f s (ev P K (n + 1) c f s) := by
    rintro c' rfl
    simp only [ev]
    exact seq_sound (W1 := c'.wp P) (W2 := fun Q => Code.rounds P c' Q n) (fun Q a w h => h) (ih c' N f s (by simpa [dOk] using hd)) (fun f s => ihl c' N f s (by simpa [dOk] using hd))
  refine ⟨?_, hlp⟩
  cases c with
  | skip => simp only [ev]; exact ⟨id, fun _ ρ w a Q hr hf hq => wp_skip (hq .normal ρ a w rfl hf (Step.refl hr))⟩
  | label l => simp only [ev]; exact ⟨id, fun _ ρ w a Q hr hf hq => wp_label (hq .normal ρ a w rfl hf (Step.refl hr))⟩
  | exit i => simp only [ev]; exact ⟨id, fun _ ρ w a Q hr hf hq => wp_exit (hq _ ρ a w rfl hf (Step.refl hr))⟩
  | ret => simp only [ev]; exact ⟨id, fun _ ρ w a Q hr hf hq => wp_ret (hq _ ρ a w rfl hf (Step.refl hr))⟩
  | seq x y =>
    simp only [dOk, Bool.and_eq_true] at hd
    simp only [ev]
    exact seq_sound (fun Q a w h => wp_seq h) (ih x N f s hd.1) (fun f s => ih y N f s hd.2)
  | loop c' =>
    have := hlp c' rfl
    cases hr : ev P K (n + 1) (.loop c') f s with
    | fail => trivial
    | «at» x f' s' =>
      rw [hr] at this
      exact ⟨this.1, fun hc ρ w a Q h1 h2 h3 => wp_loop_rounds (n + 1) (this.2 hc ρ w a Q h1 h2 h3)⟩
  | cond o x y =>
    simp only [dOk, Bool.and_eq_true] at hd
    simp only [ev]
    split
    · trivial
    · rename_i v hv
      split
      · trivial
      · rename_i s1 hch
        obtain ⟨c1, c2, c3⟩ := choose1_sound hch
        have := ih x N f s1 hd.1
        cases hr : ev P K n x f s1 with
        | fail => trivial
        | «at» x' f' s' =>
          rw [hr] at this
          refine ⟨fun hc => c1 (this.1 hc), fun hc ρ w a Q h1 h2 h3 => ?_⟩
          have hcv := c3 (this.1 hc) ρ _ (h2.op _ _ hv)
          refine wp_cond_true hcv ?_
          have st := Step.notes h1 s1 c2.1 c2.2
          exact this.2 hc ρ w a Q st.r h2 fun e ρ' a' w' k1 k2 k3 => h3 e ρ' a' w' k1 k2 (st.trans k3)
      · rename_i s1 hch
        obtain ⟨c1, c2, c3⟩ := choose1_sound hch
        have := ih y N f s1 hd.2
        cases hr : ev P K n y f s1 with
        | fail => trivial
        | «at» x' f' s' =>
          rw [hr] at this
          refine ⟨fun hc => c1 (this.1 hc), fun hc ρ w a Q h1 h2 h3 => ?_⟩
          have hcv := c3 (this.1 hc) ρ _ (h2.op _ _ hv)
          refine wp_cond_false hcv ?_
          have st := Step.notes h1 s1 c2.1 c2.2
          exact this.2 hc ρ w a Q st.r h2 fun e ρ' a' w' k1 k2 k3 => h3 e ρ' a' w' k1 k2 (st.trans k3)
  | block i c' =>
    simp only [dOk] at hd
    simp only [ev]
    have := ih c' N f s hd
    split
    · rename_i j f1 s1 hr
      rw [hr] at this
      rw [cond_eq_ite]
      split
      · rename_i hij
        have hij := Nat.eq_of_beq_eq_true hij
        refine ⟨this.1, fun hc ρ w a Q h1 h2 h3 => wp_block (this.2 hc ρ w a _ h1 h2 fun e ρ' a' w' k1 k2 k3 => ?_)⟩
        have k1 : e = .exit j := k1
        subst k1
        simp only [Exit.inBlock, hij, if_true]
        exact h3 .normal ρ' a' w' rfl k2 k3
      · rename_i hij
        refine ⟨this.1, fun hc ρ w a Q h1 h2 h3 => wp_block (this.2 hc ρ w a _ h1 h2 fun e ρ' a' w' k1 k2 k3 => ?_)⟩
        have k1 : e = .exit j := k1
        subst k1
        have hne : j ≠ i := fun h => hij (by rw [Nat.beq_eq]; exact h)
        simp only [Exit.inBlock, hne, if_false]
        exact h3 _ ρ' a' w' rfl k2 k3
    · rename_i hne
      cases hr : ev P K n c' f s with
      | fail => trivial
      | «at» x f' s' =>
        rw [hr] at this
        refine ⟨this.1, fun hc ρ w a Q h1 h2 h3 => wp_block (this.2 hc ρ w a _ h1 h2 fun e ρ' a' w' k1 k2 k3 => ?_)⟩
        have h4 := h3 e ρ' a' w' k1 k2 k3
        cases x with
        | normal => have k1 : e = .normal := k1; subst k1; exact h4
        | exit j => exact absurd hr (hne j f' s')
        | ret => have k1 : e = .ret := k1; subst k1; exact h4
        | pan v => obtain ⟨rv, _, rfl⟩ := k1; exact h4
  | scope c' =>
    simp only [dOk] at hd
    simp only [ev]
    have := ih c' N f s hd
    cases hr : ev P K n c' f s with
    | fail => trivial
    | «at» x f' s' =>
      rw [hr] at this
      refine ⟨this.1, fun hc ρ w a Q h1 h2 h3 => wp_scope_straight (this.2 hc ρ w a _ h1 h2 fun e ρ' a' w' k1 k2 k3 => ?_)⟩
      have h4 := h3 e ρ' a' w' k1 k2 k3
      cases x with
      | normal => have k1 : e = .normal := k1; subst k1; exact h4
      | exit j => have k1 : e = .exit j := k1; subst k1; exact h4
      | ret => have k1 : e = .ret := k1; subst k1; exact h4
      | pan v => obtain ⟨rv, _, rfl⟩ := k1; exact h4
  | region id ops draw =>
    simp only [ev]
    exact region_sound hcall hm (dOk_region hd)
  | _ => simp only [ev]; trivial
end
end Go.Sx
