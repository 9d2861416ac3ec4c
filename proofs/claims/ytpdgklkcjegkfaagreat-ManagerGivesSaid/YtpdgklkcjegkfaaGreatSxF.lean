/-
  A symbolic executor for the model's code, part F: operators, equality, slices, conversions.
-/
import Derived.Test.YtpdgklkcjegkfaaGreatSxE
import Derived.Laws.Cover3
import Derived.Laws.Pointers
namespace Go.Sx
open Go

section
variable {P : Program} {ρ : Env} {s : AS} {w : World}

theorem kindOf_rel {x : AV} {v : Value} {k : IntKind} {n : Int} {b : Bool} (h : kindOf x = some (k, n, b)) (hr : rel ρ x v) : v = .int k n := by
  unfold kindOf at h
  split at h <;> simp at h
  all_goals (obtain ⟨rfl, rfl, rfl⟩ := h; simpa using hr)

theorem mkInt_rel {b : Bool} {k : IntKind} {n : Int} : rel ρ (mkInt b k n) (.int k n) := by
  cases b <;> simp [mkInt]

theorem mkBool_rel {b c : Bool} : rel ρ (mkBool b c) (.bool c) := by
  cases b <;> simp [mkBool]

theorem run_eqGuard_int (op : BinOp) (t : TypeId) (x y : Operand) (k k' : IntKind) (a b : Int) : (eqGuard op t x y (.int k a) (.int k' b)).run P w = .ok () w := by
  cases op <;> simp [eqGuard]

theorem intOp_run {op : BinOp} {k k' : IntKind} {a b : Int} {sym sy : Bool} {v : AV} (h : intOp op k a k' b sym sy = some v) (t : TypeId) :
    ∃ rv, (binOp op t (.int k a) (.int k' b)).run P w = .ok rv w ∧ rel ρ v rv := by
  unfold intOp at h
  cases op <;> simp only [cond_eq_ite] at h
  case shl =>
    split at h
    · simp at h
    · split at h
      · simp at h
      · rename_i h2
        simp only [decide_eq_true_eq] at h2
        simp only [Option.some.injEq] at h; subst h
        exact ⟨_, by simp [binOp, Op.shift, h2], mkInt_rel⟩
  case shr =>
    split at h
    · simp at h
    · split at h
      · simp at h
      · rename_i h2
        simp only [decide_eq_true_eq] at h2
        simp only [Option.some.injEq] at h; subst h
        exact ⟨_, by simp [binOp, Op.shift, h2], mkInt_rel⟩
  all_goals
    split at h
    · rename_i hk
      simp only [decide_eq_true_eq] at hk
      subst hk
      first
        | (simp only [Option.some.injEq] at h; subst h; refine ⟨_, ?_, mkInt_rel⟩; simp [binOp, Op.intArith, Op.intBits]; done)
        | (simp only [Option.some.injEq] at h; subst h; refine ⟨_, ?_, mkBool_rel⟩; simp [binOp, Op.intCmp]; done)
        | (split at h
           · simp at h
           · split at h
             · simp at h
             · rename_i h2
               simp only [decide_eq_true_eq] at h2
               simp only [Option.some.injEq] at h; subst h
               refine ⟨_, ?_, mkInt_rel⟩
               simp [binOp, Op.intDiv, h2])
    · simp at h

theorem part_some {t : TypeId} {cs : List AV} {L : List Value} {o : Nat} {v : AV} (h : partA P t cs o = some v) (hr : relL ρ cs L) :
    ∃ rv, (part t L.toArray o).run P w = .ok rv w ∧ rel ρ v rv := by
  unfold partA at h
  split at h
  · rename_i ha
    obtain ⟨u, hu, hv⟩ := relL_get o hr h
    refine ⟨u, ?_, hv⟩
    simp [part, run_agg ha, hu]
  · rename_i ha
    split at h
    · simp at h
    · rename_i n hn
      split at h
      · rename_i l hl
        simp only [Option.some.injEq] at h; subst h
        have hs := relL_slice hr hl
        refine ⟨.agg ((L.drop o).take n).toArray, ?_, by rw [rel_agg]; exact ⟨_, hs.2, rfl⟩⟩
        simp only [part, Sem.run_bind, run_agg ha, Result.andThen_ok, if_true, run_sz hn, Sem.run_pure]
        congr 2
        apply Array.ext'
        simp
      · simp at h
  · simp at h

theorem eqFs_run {eq : TypeId → AV → AV → Option (Bool × Bool)} {D : Nat} (heq : ∀ t x y b sy xv yv, eq t x y = some (b, sy) → rel ρ x xv → rel ρ y yv → (Op.equalIn D t xv yv).run P w = .ok b w)
    {xs ys : List AV} {L M : List Value} (hx : relL ρ xs L) (hy : relL ρ ys M) : ∀ (fs : List Field) (b sy : Bool), eqFs P eq xs ys fs = some (b, sy) →
    (Op.eqFields D L.toArray M.toArray fs).run P w = .ok b w := by
  intro fs
  induction fs with
  | nil => intro b sy h; simp [eqFs] at h; obtain ⟨rfl, rfl⟩ := h; simp [Op.eqFields]
  | cons f fs ih =>
    intro b sy h
    simp only [eqFs, cond_eq_ite] at h
    split at h
    · simp at h
    · rename_i hn
      simp only [beq_iff_eq] at hn
      split at h
      · rename_i a c ha hc
        split at h
        · rename_i p s1 hp
          split at h
          · rename_i q s2 hq
            simp only [Option.some.injEq, Prod.mk.injEq] at h
            obtain ⟨rfl, rfl⟩ := h
            obtain ⟨ra, hra, hra'⟩ := part_some (w := w) ha hx
            obtain ⟨rc, hrc, hrc'⟩ := part_some (w := w) hc hy
            simp only [Op.eqFields]
            rw [if_pos hn]
            simp only [Sem.run_bind, hra, Result.andThen_ok, hrc, heq _ _ _ _ _ _ _ hp hra' hrc']
            cases p
            · simp
            · simp [ih q s2 hq]
          · simp at h
        · simp at h
      · simp at h

theorem eqIs_run {eq : TypeId → AV → AV → Option (Bool × Bool)} {D : Nat} (heq : ∀ t x y b sy xv yv, eq t x y = some (b, sy) → rel ρ x xv → rel ρ y yv → (Op.equalIn D t xv yv).run P w = .ok b w)
    {xs ys : List AV} {L M : List Value} (hx : relL ρ xs L) (hy : relL ρ ys M) (e : TypeId) (n : Nat) : ∀ (k i : Nat) (b sy : Bool), eqIs P eq e n xs ys k i = some (b, sy) →
    ∃ r : Option Bool × Unit, (forIn (m := Sem) (List.range' i k) ((none, ()) : Option Bool × Unit) (fun i _ => do
        let a ← part e L.toArray (i * n)
        let c ← part e M.toArray (i * n)
        let x ← Op.equalIn D e a c
        if (!x) = true then pure (ForInStep.done (some false, ())) else pure (ForInStep.yield (none, ())))).run P w = .ok r w ∧
      (match r.fst with | none => b = true | some x => b = x) := by
  intro k
  induction k with
  | zero => intro i b sy h; simp [eqIs] at h; obtain ⟨rfl, rfl⟩ := h; exact ⟨(none, ()), by simp, rfl⟩
  | succ k ih =>
    intro i b sy h
    simp only [eqIs] at h
    split at h
    · rename_i a c ha hc
      split at h
      · rename_i p s1 hp
        split at h
        · rename_i q s2 hq
          simp only [Option.some.injEq, Prod.mk.injEq] at h
          obtain ⟨rfl, rfl⟩ := h
          obtain ⟨ra, hra, hra'⟩ := part_some (w := w) ha hx
          obtain ⟨rc, hrc, hrc'⟩ := part_some (w := w) hc hy
          rw [List.range'_succ, List.forIn_cons]
          simp only [Sem.run_bind, hra, Result.andThen_ok, hrc, heq _ _ _ _ _ _ _ hp hra' hrc']
          cases p
          · exact ⟨(some false, ()), by simp, rfl⟩
          · obtain ⟨r, h1, h2⟩ := ih (i + 1) q s2 hq
            exact ⟨r, by simpa using h1, by simpa using h2⟩
        · simp at h
      · simp at h
    · simp at h

theorem eqT_run : ∀ (d : Nat) (D : Nat), d ≤ D → ∀ (t : TypeId) (x y : AV) (b sy : Bool) (xv yv : Value), eqT P d t x y = some (b, sy) → rel ρ x xv → rel ρ y yv → (Op.equalIn D t xv yv).run P w = .ok b w := by
  intro d
  induction d with
  | zero => intro D _ t x y b sy xv yv h; simp [eqT] at h
  | succ d ih =>
    intro D hD t x y b sy xv yv h hx hy
    obtain ⟨D, rfl⟩ : ∃ m, D = m + 1 := ⟨D - 1, by omega⟩
    simp only [eqT] at h
    split at h
    · rename_i hu
      split at h
      · simp at h hx hy; obtain ⟨rfl, rfl⟩ := h; subst hx hy
        simp [Op.equalIn, run_underlying hu]
      · simp at h
    · rename_i k0 hu
      split at h
      · rename_i k a s1 k' c s2 h1 h2
        rw [cond_eq_ite] at h
        split at h
        · rename_i hk
          simp only [decide_eq_true_eq] at hk
          simp only [Option.some.injEq, Prod.mk.injEq] at h
          obtain ⟨rfl, rfl⟩ := h
          rw [kindOf_rel h1 hx, kindOf_rel h2 hy]
          subst hk
          simp [Op.equalIn, run_underlying hu]
        · simp at h
      · simp at h
    · rename_i hu
      split at h
      · simp at h hx hy; obtain ⟨rfl, rfl⟩ := h; subst hx hy
        simp [Op.equalIn, run_underlying hu]
      · simp at h
    · rename_i fs hu
      split at h
      · rename_i xs ys
        rw [cond_eq_ite] at h
        split at h
        · simp at h
        · rename_i hst
          rw [rel_agg] at hx hy
          obtain ⟨L, hL, rfl⟩ := hx
          obtain ⟨M, hM, rfl⟩ := hy
          have hf : P.fieldsOf t = fs := by simp [Program.fieldsOf, hu]
          rw [run_equalIn_struct w D t _ _ (by rw [hf]; exact hu) (by simpa using hst), hf]
          exact eqFs_run (fun t x y b sy xv yv h1 h2 h3 => ih D (by omega) t x y b sy xv yv h1 h2 h3) hL hM _ _ _ h
      · simp at h
    · rename_i n e hu
      split at h
      · rename_i xs ys m hm
        rw [rel_agg] at hx hy
        obtain ⟨L, hL, rfl⟩ := hx
        obtain ⟨M, hM, rfl⟩ := hy
        obtain ⟨r, h1, h2⟩ := eqIs_run (fun t x y b sy xv yv h1 h2 h3 => ih D (by omega) t x y b sy xv yv h1 h2 h3) hL hM e m n 0 b sy h
        simp only [Op.equalIn, Sem.run_bind, run_underlying hu, Result.andThen_ok, run_sz hm]
        simp only [Std.Legacy.Range.forIn_eq_forIn_range', Std.Legacy.Range.size] at h1 ⊢
        rw [show (n - 0 + 1 - 1) / 1 = n by simp]
        rw [h1]
        simp only [Result.andThen_ok]
        cases hr : r.fst with
        | none => rw [hr] at h2; simp at h2; subst h2; simp
        | some x => rw [hr] at h2; simp at h2; subst h2; simp
      · simp at h
    · simp at h
end
end Go.Sx
