/-
  A symbolic executor for the model's code, part N: one operation, whole.
-/
import Derived.Test.YtpdgklkcjegkfaaGreatSxMm
import Derived.Laws.Build
namespace Go.Sx
open Go

/-- What an operation left, in the model. -/
def Did (P : Program) (ρ : Env) (s : AS) (w : World) (S : Sem Next) (x : AV) (s' : AS) : Prop :=
  ∃ n rv ρ' w', S.run P w = .ok n w' ∧ (n = .value rv ∨ n = .skip ∧ rv = undef) ∧ rel ρ' x rv ∧ Step ρ s w ρ' s' w' ∧ s'.cons = s.cons

section
variable {P : Program} {ρ : Env} {s s' : AS} {w : World}

theorem Did.val {S : Sem Value} {x : AV} (h : ∃ rv ρ' w', S.run P w = .ok rv w' ∧ rel ρ' x rv ∧ Step ρ s w ρ' s' w' ∧ s'.cons = s.cons) :
    Did P ρ s w (do pure (.value (← S))) x s' := by
  obtain ⟨rv, ρ', w', h1, h2, h3, h4⟩ := h
  exact ⟨.value rv, rv, ρ', w', by simp [h1], .inl rfl, h2, h3, h4⟩

theorem Did.ro (hr : R ρ s w) {S : Sem Value} {x : AV} (h : ∃ rv, S.run P w = .ok rv w ∧ rel ρ x rv) : Did P ρ s w (do pure (.value (← S))) x s := by
  obtain ⟨rv, h1, h2⟩ := h
  exact Did.val ⟨rv, ρ, w, h1, h2, Step.refl hr, rfl⟩

theorem Did.pure (hr : R ρ s w) {rv : Value} {x : AV} (h : rel ρ x rv) : Did P ρ s w (Pure.pure (.value rv)) x s :=
  ⟨.value rv, rv, ρ, w, by simp, .inl rfl, h, Step.refl hr, rfl⟩

theorem new_ptr (b : Nat) (n : Nat) (next : Pos) : rel (ρ.put next ⟨b, 0, n⟩) (.ptr next 0) (.pointer (some ⟨b, 0, none⟩)) := by
  rw [rel_ptr]; exact ⟨⟨b, 0, n⟩, by simp [Env.put], rfl⟩

theorem new_exact (b len c size : Nat) (h : len ≤ c) (next : Pos) : rel (ρ.put next ⟨b, 0, size⟩) (.slc next 0 len (.exact c)) (.slice (some ⟨b, 0, none⟩) len c) := by
  rw [rel_slc]; exact ⟨⟨b, 0, size⟩, 0, c, by simp [Env.put], rfl, h, .inr rfl, rfl⟩

/-- A new variable. -/
theorem var_run (hr : R ρ s w) {x : AV} {v : Value} (hx : rel ρ x v) (e : TypeId) :
    ∃ rv ρ' w', (newVar e v : Sem Addr).run P w = .ok rv w' ∧ rel ρ' (.ptr s.next 0) (.pointer (some rv)) ∧ Step ρ s w ρ' (s.new (.cells x.cells)) w' := by
  obtain ⟨l, hl, hrl⟩ := cells_rel hx
  have := step_new hr hrl (C := l.toArray) (E := e) (fr := (0, 0)) (.inl (Nat.le_refl _)) (by simp) (fun k hk => by simp) w.drawn
  refine ⟨⟨w.heap.size, 0, none⟩, _, _, ?_, new_ptr w.heap.size l.toArray.size s.next, this⟩
  simp [newVar, newRow, hl]

theorem evOpt_rel {ev : Operand → Option AV} {e : Operand → Value} (he : OpRel ρ ev e) {x : Option Operand} {y : Option AV}
    (h : evO ev x = some y) : relO ρ y (x.map e) := by
  cases x with
  | none => simp [evO] at h; subst h; rfl
  | some x =>
    cases hx : ev x with
    | none => simp [evO, hx] at h
    | some v => simp [evO, hx] at h; subst h; exact ⟨_, rfl, he x v hx⟩

theorem fieldOf_some {t : TypeId} {f : Nat} {fd : Field} (h : fieldOf P t f = some fd) : ∃ fs, P.underlying t = some (.struct fs) ∧ fs[f]? = some fd := by
  unfold fieldOf at h
  split at h
  · rename_i fs hu; exact ⟨fs, hu, h⟩
  · simp at h

theorem hasBody_run {f : FuncId} (h : hasBody P f = true) (args : Array Value) (w : World) : (callFunc f args).run P w = .ok (.enter f args) w := by
  unfold hasBody at h
  split at h
  · rename_i fn hf
    simp only [Bool.and_eq_true, bne_iff_ne, ne_eq] at h
    simp only [callFunc, Sem.run_bind, run_program, Result.andThen_ok, hf]
    rw [if_neg (by simpa using h.2)]
    have : fn.body.isNone = false := by
      cases hb : fn.body with
      | none => rw [hb] at h; simp at h
      | some _ => rfl
    simp [this]
  · simp at h

theorem call_run {f : AV} {args : List AV} {s' : AS} {g : FuncId} {xs : List AV} {fv : Value} {argv : List Value} (h : callA P f args s = .call g xs s') (hf : rel ρ f fv) (ha : relL ρ args argv) :
    s' = s ∧ ∃ rargs, relL ρ xs rargs ∧ ∀ w, (do let d ← Deferred.ofValue fv argv.toArray; invoke d.target d.args : Sem Next).run P w = .ok (.enter g rargs.toArray) w := by
  unfold callA at h
  split at h
  · rename_i g' first captured
    rw [cond_eq_ite] at h
    split at h
    · rename_i hb
      simp only [OR.call.injEq] at h
      obtain ⟨rfl, rfl, rfl⟩ := h
      rw [rel_fn] at hf
      obtain ⟨a', c', h1, h2, rfl⟩ := hf
      refine ⟨rfl, a' ++ argv ++ c', relL_append (relL_append h1 ha) h2, fun w => ?_⟩
      simp only [Deferred.ofValue, Sem.run_bind, Sem.run_pure, Result.andThen_ok, invoke, hasBody_run hb]
      simp
    · simp at h
  · simp at h

theorem nth_eq {α : Type} : ∀ (l : List α) (n : Nat), nth l n = l[n]? := by
  intro l
  induction l with
  | nil => intro n; simp [nth]
  | cons x l ih =>
    intro n
    cases n with
    | zero => rfl
    | succ n => show nth l n = _; rw [ih]; simp

theorem arr_map (xs : Array Operand) (e : Operand → Value) : xs.map e = (xs.toList.map e).toArray := by apply Array.ext'; simp

theorem appendA_v {e : TypeId} {base x : AV} {r : OR} (h : appendA P e base x s = r) : (∃ v s', r = .v v s') ∨ r = .fail := by
  subst h
  unfold appendA
  simp only [cond_eq_ite]
  repeat' split
  all_goals simp

theorem copyA_v {e : TypeId} {base x : AV} {r : OR} (h : copyA P e base x s = r) : (∃ v s', r = .v v s') ∨ r = .fail := by
  subst h
  unfold copyA
  simp only [cond_eq_ite]
  repeat' split
  all_goals simp

theorem convA_v {a b : TypeId} {x : AV} {r : OR} (h : convA P a b x s = r) : (∃ v s', r = .v v s') ∨ r = .fail := by
  subst h
  unfold convA
  repeat' split
  all_goals simp

end

section
variable {P : Program} {ρ : Env} {s s' : AS} {w : World}

theorem ofOpt {r : Option AV} {x : AV} (h : (match r with | some x => OR.v x s | none => .fail) = .v x s') : r = some x ∧ s' = s := by
  cases r with
  | none => simp at h
  | some y => simp at h; exact ⟨by rw [h.1], h.2.symm⟩

theorem step_v (hr : R ρ s w) {o : Oper} {ev : Operand → Option AV} {e : Operand → Value} (he : OpRel ρ ev e) {x : AV} (h : stepOp P o ev s = .v x s') :
    Did P ρ s w (execOp e o) x s' := by
  obtain ⟨dst, op, type, pos, after, guard⟩ := o
  cases op
  case move y =>
    simp only [stepOp] at h
    obtain ⟨hv, rfl⟩ := ofOpt h
    exact Did.pure hr (he _ _ hv)
  case assign y =>
    simp only [stepOp] at h
    obtain ⟨hv, rfl⟩ := ofOpt h
    exact Did.pure hr (he _ _ hv)
  case pick c a b =>
    simp only [stepOp] at h
    split at h
    · rename_i hc
      obtain ⟨hv, rfl⟩ := ofOpt h
      have := he _ _ hc
      simp at this
      refine ⟨.value (e a), e a, ρ, w, ?_, .inl rfl, he _ _ hv, Step.refl hr, rfl⟩
      simp [execOp, this, asBool]
    · rename_i hc
      obtain ⟨hv, rfl⟩ := ofOpt h
      have := he _ _ hc
      simp at this
      refine ⟨.value (e b), e b, ρ, w, ?_, .inl rfl, he _ _ hv, Step.refl hr, rfl⟩
      simp [execOp, this, asBool]
    · simp at h
  case alloc t =>
    simp only [stepOp] at h
    split at h
    · rename_i z hz
      simp only [OR.v.injEq] at h
      obtain ⟨rfl, rfl⟩ := h
      obtain ⟨zv, g1, g2⟩ := run_zero (P := P) hz w
      obtain ⟨rv, ρ', w', k1, k2, k3⟩ := var_run (P := P) hr (g2 ρ) t
      refine Did.val ⟨_, ρ', w', ?_, k2, k3, rfl⟩
      simp [Instr.alloc, g1, k1]
    · simp at h
  case box t y =>
    simp only [stepOp] at h
    split at h
    · rename_i z n hz hn
      rw [cond_eq_ite] at h
      split at h
      · simp only [OR.v.injEq] at h
        obtain ⟨rfl, rfl⟩ := h
        obtain ⟨rv, ρ', w', k1, k2, k3⟩ := var_run (P := P) hr (he _ _ hz) t
        refine Did.val ⟨_, ρ', w', ?_, k2, k3, rfl⟩
        simp [Instr.box, k1]
      · simp at h
    · simp at h
  case build t parts =>
    simp only [stepOp] at h
    split at h
    · rename_i ps z hps hz
      obtain ⟨zv, g1, g2⟩ := run_zero (P := P) hz w
      have hzr := g2 ρ
      rw [rel_agg] at hzr
      obtain ⟨L, hL, rfl⟩ := hzr
      have hpr := parts_rel he hps
      have hmap : (parts.map fun (i, x) => (i, e x)).toList = parts.toList.map fun p => (p.1, e p.2) := by simp
      split at h
      · rename_i fs hu
        split at h
        · rename_i pl hpl
          split at h
          · rename_i l hl
            simp only [OR.v.injEq] at h
            obtain ⟨rfl, rfl⟩ := h
            have p1 := run_places (P := P) w fs.toList pl hpl
            obtain ⟨M, m1, m2, _⟩ := fill_run (place' := fun i => pl.toArray[i]?) (fun i q hq => by simpa [nth_eq] using hq) hl hpr hL
            refine Did.ro hr ⟨.agg M.toArray, ?_, by rw [rel_agg]; exact ⟨M, m2, rfl⟩⟩
            simp only [Instr.build, Sem.run_bind, g1, Result.andThen_ok, run_underlying hu, Array.mapM_eq_mapM_toList, Sem.run_map, bind_pure_comp, p1, Value.cells, hmap, m1, Sem.run_pure]
          · simp at h
        · simp at h
      · rename_i n et hu
        split at h
        · rename_i size hsz
          split at h
          · rename_i l hl
            simp only [OR.v.injEq] at h
            obtain ⟨rfl, rfl⟩ := h
            obtain ⟨M, m1, m2, m3⟩ := fill_run (place' := fun i => some (i * size, size)) (fun i q h => h) hl hpr hL
            refine Did.ro hr ⟨.agg M.toArray, ?_, by rw [rel_agg]; exact ⟨M, m2, rfl⟩⟩
            simp only [Instr.build, Sem.run_bind, g1, Result.andThen_ok, run_underlying hu, run_sz hsz, Value.cells, hmap, m1, Sem.run_pure]
          · simp at h
        · simp at h
      · simp at h
    · simp at h
  case buildSlice t len parts =>
    simp only [stepOp] at h
    split at h
    · rename_i et hu
      split at h
      · rename_i ps n z hps hsz hz
        rw [cond_eq_ite] at h
        split at h
        · rename_i hc
          simp only [Bool.and_eq_true] at hc
          obtain ⟨⟨c1, c2⟩, c3⟩ := hc
          have c1 := Nat.le_of_ble_eq_true c1
          have c2 := Nat.eq_of_beq_eq_true c2
          have hn0 : n ≠ 0 := by intro e; subst e; simp at c3
          split at h
          · rename_i l hl
            rw [cond_eq_ite] at h
            split at h
            · simp only [OR.v.injEq] at h
              obtain ⟨rfl, rfl⟩ := h
              obtain ⟨zv, g1, g2⟩ := run_zero (P := P) hz w
              obtain ⟨zl, z1, z2⟩ := cells_rel (g2 ρ)
              have hzl : zl.length = n := by rw [← relL_length z2]; exact c2
              have hpr := parts_rel he hps
              have hmap : (parts.map fun (i, x) => (i, e x)).toList = parts.toList.map fun p => (p.1, e p.2) := by simp
              obtain ⟨M, m1, m2, m3⟩ := fill_run (place' := fun i => some (i * n, n)) (fun i q h => h) hl hpr (repl_rel (n := len) z2)
              have hM : M.length = len * n := by rw [m3, repl_length, hzl]
              have := step_new hr m2 (C := M.toArray) (E := et) (fr := (0, 0)) (.inl (Nat.le_refl _)) (by simp) (fun k hk => by simp) w.drawn
              refine Did.val ⟨_, _, _, ?_, new_exact w.heap.size len len M.toArray.size (Nat.le_refl _) s.next, this, rfl⟩
              have hrep := repl_get len zl
              rw [hzl] at hrep
              simp only [Instr.buildSlice, Sem.run_bind, run_underlying hu, Result.andThen_ok, run_sz hsz]
              rw [if_neg (by omega)]
              have hrow : (Array.range (len * n)).map (fun i => (if len * n = 0 then #[] else zl.toArray)[i % (if len * n = 0 then #[] else zl.toArray : Array Value).size]!) = (repl len zl).toArray := by
                split
                · rename_i h0
                  have hl0 : len = 0 := by
                    rcases Nat.mul_eq_zero.1 h0 with h | h
                    · exact h
                    · exact absurd h hn0
                  subst hl0
                  simp [repl]
                · rw [← hrep]
              by_cases h0 : len * n = 0
              · rw [if_pos h0] at hrow ⊢
                simp only [Sem.run_bind, Sem.run_pure, Result.andThen_ok, hmap]
                rw [hrow, m1]
                try simp [newRow]
              · rw [if_neg h0] at hrow ⊢
                simp only [Sem.run_bind, Sem.run_pure, Result.andThen_ok, hmap, g1, z1]
                rw [hrow, m1]
                try simp [newRow]
            · simp at h
          · simp at h
        · simp at h
      · simp at h
    · simp at h
  case load t a =>
    simp only [stepOp] at h
    split at h
    · rename_i av hav
      obtain ⟨hv, rfl⟩ := ofOpt h
      exact Did.ro hr (load_some hv hr (he _ _ hav))
    · simp at h
  case store t a y =>
    simp only [stepOp] at h
    split at h
    · rename_i av xv hav hxv
      split at h
      · rename_i s2 hs2
        simp only [OR.v.injEq] at h
        obtain ⟨rfl, rfl⟩ := h
        obtain ⟨w', g1, g2, g3⟩ := store_some (P := P) hs2 hr (he _ _ hav) (he _ _ hxv)
        exact ⟨.skip, undef, ρ, w', by simp [execOp, g1], .inr ⟨rfl, rfl⟩, rel_undef, g2, g3⟩
      · simp at h
    · simp at h
  case nilCheck y =>
    simp only [stepOp] at h
    split at h
    · rename_i i o hy
      simp only [OR.v.injEq] at h
      obtain ⟨rfl, rfl⟩ := h
      have := he _ _ hy
      have h2 := this
      rw [rel_ptr] at h2
      obtain ⟨l, hl, e2⟩ := h2
      refine ⟨.value (e y), e y, ρ, w, ?_, .inl rfl, this, Step.refl hr, rfl⟩
      simp [execOp, e2]
    · rename_i f a b hy
      simp only [OR.v.injEq] at h
      obtain ⟨rfl, rfl⟩ := h
      have := he _ _ hy
      have h2 := this
      rw [rel_fn] at h2
      obtain ⟨a', b', _, _, e2⟩ := h2
      refine ⟨.value (e y), e y, ρ, w, ?_, .inl rfl, this, Step.refl hr, rfl⟩
      simp [execOp, e2]
    · simp at h
  case binOp op t a b ty =>
    simp only [stepOp] at h
    split at h
    · rename_i av bv ha hb
      obtain ⟨hv, rfl⟩ := ofOpt h
      exact Did.ro hr (bin_run hv (he _ _ ha) (he _ _ hb))
    · simp at h
  case unOp op t a =>
    simp only [stepOp] at h
    split at h
    · rename_i av ha
      obtain ⟨hv, rfl⟩ := ofOpt h
      exact Did.ro hr (un_run hv (he _ _ ha))
    · simp at h
  case convert src dst a =>
    simp only [stepOp] at h
    split at h
    · rename_i av ha
      exact Did.val (conv_run hr h (he _ _ ha))
    · simp at h
  case makeInterface t a =>
    simp only [stepOp] at h
    split at h
    · simp at h
    · rename_i av d hne ha hu
      simp only [OR.v.injEq] at h
      obtain ⟨rfl, rfl⟩ := h
      refine Did.ro hr ⟨.iface t (e a), ?_, by rw [rel_ifc]; exact ⟨_, he _ _ ha, rfl⟩⟩
      refine run_makeInterface w t (e a) ?_
      unfold Program.concrete
      rw [hu]
      cases d <;> first | rfl | exact absurd rfl (hne _)
    · simp at h
  case makeFunc fn first captured =>
    simp only [stepOp] at h
    split at h
    · rename_i a b ha hb
      simp only [OR.v.injEq] at h
      obtain ⟨rfl, rfl⟩ := h
      refine Did.ro hr ⟨.func fn (first.map e) (captured.map e), by simp [Instr.makeFunc], ?_⟩
      rw [rel_fn]
      exact ⟨_, _, evs_rel he ha, evs_rel he hb, by rw [arr_map, arr_map]⟩
    · simp at h
  case makeSlice t l c =>
    simp only [stepOp] at h
    split at h
    · rename_i lv cv et hl hc hu
      split at h
      · rename_i ln cn n b z hln hcn hsz hby hz
        rw [cond_eq_ite] at h
        split at h
        · rename_i hcnd
          simp only [Bool.and_eq_true] at hcnd
          obtain ⟨⟨⟨⟨c1, c2⟩, c3⟩, c4⟩, c5⟩ := hcnd
          have c1 := Nat.le_of_ble_eq_true c1
          have c2 := Nat.le_of_ble_eq_true c2
          have c3 := Nat.le_of_ble_eq_true c3
          have c4 := Nat.eq_of_beq_eq_true c4
          have hn0 : n ≠ 0 := by intro e; subst e; simp at c5
          simp only [OR.v.injEq] at h
          obtain ⟨rfl, rfl⟩ := h
          obtain ⟨kl, el⟩ := idx_rel hln (he _ _ hl)
          obtain ⟨kc, ec⟩ := idx_rel hcn (he _ _ hc)
          obtain ⟨i, hii, rfl⟩ : ∃ i, P.info? et = some i ∧ i.bytes = b := by
            unfold byt at hby
            cases hi : P.info? et with
            | none => simp [hi] at hby
            | some i => simp [hi] at hby; exact ⟨i, rfl, hby⟩
          obtain ⟨zv, g1, g2⟩ := run_zero (P := P) hz w
          obtain ⟨zl, z1, z2⟩ := cells_rel (g2 ρ)
          have hzl : zl.length = n := by rw [← relL_length z2]; exact c4
          have hM : (repl cn zl).length = cn * n := by rw [repl_length, hzl]
          have := step_new hr (repl_rel (n := cn) z2) (C := (repl cn zl).toArray) (E := et) (fr := (0, 0)) (.inl (Nat.le_refl _)) (by simp) (fun k hk => by simp) w.drawn
          refine Did.val ⟨_, _, _, ?_, new_exact w.heap.size ln cn (repl cn zl).toArray.size c1 s.next, this, rfl⟩
          have w1 : IntKind.i64.wrap (ln : Int) = (ln : Int) := by unfold IntKind.wrap IntKind.bits IntKind.signed; simp; omega
          have w2 : IntKind.i64.wrap (cn : Int) = (cn : Int) := by unfold IntKind.wrap IntKind.bits IntKind.signed; simp; omega
          have hsmall : ((i.bytes : Int) * (cn : Int)) ≤ 1024 * 1000000 := by
            have : i.bytes * cn ≤ 1024 * 1000000 := Nat.mul_le_mul c3 c2
            omega
          have hbig : ((decide ((cn : Int) < 0) || decide ((i.bytes : Int) * (cn : Int) > 2 ^ 48)) || decide ((ln : Int) < 0) || decide ((ln : Int) > (cn : Int))) = false := by
            simp only [Bool.or_eq_false_iff, decide_eq_false_iff_not]
            refine ⟨⟨⟨by omega, by omega⟩, by omega⟩, by omega⟩
          have hrep := repl_get cn zl
          rw [hzl] at hrep
          have hrow : (Array.range (cn * n)).map (fun i => (if cn * n = 0 then #[] else zl.toArray)[i % (if cn * n = 0 then #[] else zl.toArray : Array Value).size]!) = (repl cn zl).toArray := by
            split
            · rename_i h0
              have hl0 : cn = 0 := by
                rcases Nat.mul_eq_zero.1 h0 with h | h
                · exact h
                · exact absurd h hn0
              subst hl0
              simp [repl]
            · rw [← hrep]
          simp only [Instr.makeSlice, Sem.run_bind, run_underlying hu, Result.andThen_ok, el, ec, asInt, asIntOf, Sem.run_pure, run_info hii, w1, w2]
          rw [if_neg (by rw [Bool.not_eq_true]; exact hbig)]
          simp only [run_askRoom, Sem.run_bind, Result.andThen_ok, run_sz hsz, Int.toNat_natCast]
          by_cases h0 : cn * n = 0
          · rw [if_pos h0] at hrow ⊢
            simp only [Sem.run_bind, Sem.run_pure, Result.andThen_ok]
            rw [hrow]
            try simp [newRow]
          · rw [if_neg h0] at hrow ⊢
            simp only [Sem.run_bind, Sem.run_pure, Result.andThen_ok, g1, z1]
            rw [hrow]
            try simp [newRow]
        · simp at h
      · simp at h
    · simp at h
  case slice t y lo hi mx =>
    simp only [stepOp] at h
    split at h
    · rename_i yv lov hiv mxv hy hlo hhi hmx
      obtain ⟨hv, rfl⟩ := ofOpt h
      exact Did.ro hr (slice_run hv (he _ _ hy) (evOpt_rel he hlo) (evOpt_rel he hhi) (evOpt_rel he hmx))
    · simp at h
  case fieldAddr t y f =>
    simp only [stepOp] at h
    split at h
    · rename_i i o fd hy hf
      split at h
      · rename_i n hn
        rw [cond_eq_ite] at h
        split at h
        · simp at h
        · rename_i hn0
          simp only [OR.v.injEq] at h
          obtain ⟨rfl, rfl⟩ := h
          obtain ⟨fs, hu, hfs⟩ := fieldOf_some hf
          have h2 := he _ _ hy
          rw [rel_ptr] at h2
          obtain ⟨l, hl, e2⟩ := h2
          have hn1 : ¬ n = 0 := by intro e; subst e; simp at hn0
          refine Did.ro hr ⟨.pointer (some ⟨l.b, l.base + (o + fd.offset), none⟩), ?_, by rw [rel_ptr]; exact ⟨l, hl, rfl⟩⟩
          simp only [Instr.fieldAt, Sem.run_bind, run_underlying hu, Result.andThen_ok, hfs, e2, Instr.sureAddr, Sem.run_pure, fieldPlace, run_sz hn]
          rw [if_neg hn1]
          simp [addr_add, Nat.add_assoc]
      · simp at h
    · simp at h
  case field t y f =>
    simp only [stepOp] at h
    split at h
    · rename_i cs fd hy hf
      obtain ⟨hv, rfl⟩ := ofOpt h
      obtain ⟨fs, hu, hfs⟩ := fieldOf_some hf
      have h2 := he _ _ hy
      rw [rel_agg] at h2
      obtain ⟨L, hL, e2⟩ := h2
      obtain ⟨rv, g1, g2⟩ := part_some (w := w) hv hL
      refine Did.ro hr ⟨rv, ?_, g2⟩
      simp only [Instr.field, Sem.run_bind, run_underlying hu, Result.andThen_ok, hfs, e2, asAgg, Sem.run_pure, g1]
    · simp at h
  case indexAddr t y ix =>
    simp only [stepOp] at h
    split at h
    · rename_i i o k len et hy hk hu
      split at h
      · rename_i n hn
        rw [cond_eq_ite] at h
        split at h
        · rename_i hlt
          have hlt : k < len := Nat.lt_of_succ_le (Nat.le_of_ble_eq_true hlt)
          simp only [OR.v.injEq] at h
          obtain ⟨rfl, rfl⟩ := h
          cases hix : ev ix with
          | none => simp [hix] at hk
          | some iv =>
            simp [hix] at hk
            obtain ⟨kk, ek⟩ := idx_rel hk (he _ _ hix)
            have h2 := he _ _ hy
            rw [rel_ptr] at h2
            obtain ⟨l, hl, e2⟩ := h2
            refine Did.ro hr ⟨.pointer (some ⟨l.b, l.base + (o + k * n), none⟩), ?_, by rw [rel_ptr]; exact ⟨l, hl, rfl⟩⟩
            simp only [Instr.indexAt, Sem.run_bind, ek, asIntOf, Sem.run_pure, Result.andThen_ok, run_underlying hu, e2, Instr.sureAddr]
            rw [if_pos ⟨by omega, by omega⟩]
            simp [run_sz hn, addr_add, Nat.add_assoc]
        · simp at h
      · simp at h
    · rename_i i o len c k et hy hk hu
      split at h
      · rename_i n hn
        rw [cond_eq_ite] at h
        split at h
        · rename_i hlt
          have hlt : k < len := Nat.lt_of_succ_le (Nat.le_of_ble_eq_true hlt)
          simp only [OR.v.injEq] at h
          obtain ⟨rfl, rfl⟩ := h
          cases hix : ev ix with
          | none => simp [hix] at hk
          | some iv =>
            simp [hix] at hk
            obtain ⟨kk, ek⟩ := idx_rel hk (he _ _ hix)
            have h2 := he _ _ hy
            rw [rel_slc] at h2
            obtain ⟨l, off, rc, hl, e2, hle, hoff, hc⟩ := h2
            have hoff' := hoff.resolve_left (by omega)
            subst hoff'
            refine Did.ro hr ⟨.pointer (some ⟨l.b, l.base + (o + k * n), none⟩), ?_, by rw [rel_ptr]; exact ⟨l, hl, rfl⟩⟩
            simp only [Instr.indexAt, Sem.run_bind, ek, asIntOf, Sem.run_pure, Result.andThen_ok, run_underlying hu, e2]
            rw [if_pos ⟨by omega, by omega⟩]
            simp [run_sz hn, addr_add, Nat.add_assoc]
        · simp at h
      · simp at h
    · simp at h
  case index t y ix =>
    simp only [stepOp] at h
    split at h
    · rename_i cs k len et hy hk hu
      split at h
      · rename_i n hn
        rw [cond_eq_ite] at h
        split at h
        · rename_i hlt
          have hlt : k < len := Nat.lt_of_succ_le (Nat.le_of_ble_eq_true hlt)
          obtain ⟨hv, rfl⟩ := ofOpt h
          cases hix : ev ix with
          | none => simp [hix] at hk
          | some iv =>
            simp [hix] at hk
            obtain ⟨kk, ek⟩ := idx_rel hk (he _ _ hix)
            have h2 := he _ _ hy
            rw [rel_agg] at h2
            obtain ⟨L, hL, e2⟩ := h2
            obtain ⟨rv, g1, g2⟩ := part_some (w := w) hv hL
            refine Did.ro hr ⟨rv, ?_, g2⟩
            simp only [Instr.index, Sem.run_bind, ek, asIntOf, Sem.run_pure, Result.andThen_ok, run_underlying hu, e2]
            rw [if_pos ⟨by omega, by omega⟩]
            simp [run_sz hn, g1]
        · simp at h
      · simp at h
    · rename_i b k hy hk hu
      split at h
      · rename_i c hc
        simp only [OR.v.injEq] at h
        obtain ⟨rfl, rfl⟩ := h
        cases hix : ev ix with
        | none => simp [hix] at hk
        | some iv =>
          simp [hix] at hk
          obtain ⟨kk, ek⟩ := idx_rel hk (he _ _ hix)
          have h2 := he _ _ hy
          simp at h2
          refine Did.ro hr ⟨.int .u8 c.toNat, ?_, by simp⟩
          have hb : b[k]? = some c := by
            have hlt := (List.getElem?_eq_some_iff.1 hc).1
            have hlt' : k < b.size := by rw [Array.length_toList] at hlt; exact hlt
            have := (List.getElem?_eq_some_iff.1 hc).2
            rw [getElem?_pos b k hlt']
            congr 1
          simp only [Instr.index, Sem.run_bind, ek, asIntOf, Sem.run_pure, Result.andThen_ok, run_underlying hu, h2]
          rw [if_pos (by omega)]
          simp [hb]
      · simp at h
    · simp at h
  case extract y ix =>
    simp only [stepOp] at h
    split at h
    · rename_i vs hy
      obtain ⟨hv, rfl⟩ := ofOpt h
      have h2 := he _ _ hy
      rw [rel_tup] at h2
      obtain ⟨L, hL, e2⟩ := h2
      obtain ⟨u, hu, hrel⟩ := relL_get ix hL hv
      refine Did.ro hr ⟨u, ?_, hrel⟩
      simp [Instr.extract, e2, hu]
    · simp at h
  case call c =>
    simp only [stepOp] at h
    split at h
    · simp at h
    · rename_i args hargs
      have hrel := evs_rel he hargs
      split at h
      · rename_i f
        split at h
        · rename_i fv hf
          unfold callA at h
          split at h
          · rw [cond_eq_ite] at h
            split at h <;> simp at h
          · simp at h
        · simp at h
      · rename_i b hcallee
        have hmap : (c.args.map e) = (c.args.toList.map e).toArray := arr_map _ _
        have hres : ∀ (S : Array TypeId → TypeId → Array Value → Sem Value) , (∃ rv ρ' w', (S c.argTypes type (c.args.map e)).run P w = .ok rv w' ∧ rel ρ' x rv ∧ Step ρ s w ρ' s' w' ∧ s'.cons = s.cons) →
            (∀ cs, builtin b c.argTypes type cs (c.args.map e) = (do Pure.pure (.value (← S c.argTypes type (c.args.map e))))) →
            Did P ρ s w (execOp e ⟨dst, .call c, type, pos, after, guard⟩) x s' := by
          intro S hS hb
          obtain ⟨rv, ρ', w', k1, k2, k3, k4⟩ := hS
          refine ⟨.value rv, rv, ρ', w', ?_, .inl rfl, k2, k3, k4⟩
          simp only [execOp, resolve, hcallee, Sem.run_bind, Sem.run_pure, Result.andThen_ok, invoke, hb, k1]
        split at h
        · rename_i xa ya hargs2
          rw [relL_cons] at hrel
          obtain ⟨u, us, e1, r1, hrel⟩ := hrel
          rw [relL_cons] at hrel
          obtain ⟨v, vs, rfl, r2, hrel⟩ := hrel
          simp at hrel; subst hrel
          split at h
          · rename_i et d0 hu1 hu2
            cases h1 : c.argTypes[0]? with
            | none => simp [h1] at hu1
            | some t1 => cases h2 : c.argTypes[1]? with
              | none => simp [h2] at hu2
              | some t2 =>
                simp [h1] at hu1; simp [h2] at hu2
                refine hres Builtin.append_ ?_ (fun cs => rfl)
                rw [hmap, e1]
                exact append_run hr h h1 h2 hu1 hu2 (by simp) r1 r2
          · rename_i et hu1 hu2
            cases h1 : c.argTypes[0]? with
            | none => simp [h1] at hu1
            | some t1 => cases h2 : c.argTypes[1]? with
              | none => simp [h2] at hu2
              | some t2 =>
                simp [h1] at hu1; simp [h2] at hu2
                refine hres Builtin.append_ ?_ (fun cs => rfl)
                rw [hmap, e1]
                exact append_run hr h h1 h2 hu1 hu2 (by simp) r1 r2
          · simp at h
        · rename_i xa ya hargs2
          rw [relL_cons] at hrel
          obtain ⟨u, us, e1, r1, hrel⟩ := hrel
          rw [relL_cons] at hrel
          obtain ⟨v, vs, rfl, r2, hrel⟩ := hrel
          simp at hrel; subst hrel
          split at h
          · rename_i et hu1
            cases h1 : c.argTypes[0]? with
            | none => simp [h1] at hu1
            | some t1 =>
              simp [h1] at hu1
              refine hres Builtin.copy_ ?_ (fun cs => rfl)
              rw [hmap, e1]
              exact copy_run hr h h1 hu1 r1 r2
          · simp at h
        · rename_i xa hargs2
          rw [relL_cons] at hrel
          obtain ⟨u, us, e1, r1, hrel⟩ := hrel
          simp at hrel; subst hrel
          have hget : ∀ d, (c.argTypes[0]?).bind P.underlying = some d → ∃ t, c.argTypes[0]? = some t ∧ P.underlying t = some d := by
            intro d hd
            cases h1 : c.argTypes[0]? with
            | none => simp [h1] at hd
            | some t => simp [h1] at hd; exact ⟨t, rfl, hd⟩
          split at h
          · rename_i et hu1
            obtain ⟨t, h1, h2⟩ := hget _ hu1
            obtain ⟨hv, rfl⟩ := ofOpt h
            obtain ⟨rv, g1, g2⟩ := len_run (P := P) (w := w) h2 h1 hv r1 type
            refine hres Builtin.len_ ⟨rv, ρ, w, ?_, g2, Step.refl hr, rfl⟩ (fun cs => rfl)
            rw [hmap, e1]; exact g1
          · rename_i hu1
            obtain ⟨t, h1, h2⟩ := hget _ hu1
            split at h
            · rename_i b
              simp only [OR.v.injEq] at h
              obtain ⟨rfl, rfl⟩ := h
              simp at r1; subst r1
              refine hres Builtin.len_ ⟨.int .i64 b.size, ρ, w, ?_, by simp, Step.refl hr, rfl⟩ (fun cs => rfl)
              rw [hmap, e1]; simp [Builtin.len_, h1, run_underlying h2, goInt]
            · simp at h
          · rename_i n et hu1
            obtain ⟨t, h1, h2⟩ := hget _ hu1
            simp only [OR.v.injEq] at h
            obtain ⟨rfl, rfl⟩ := h
            refine hres Builtin.len_ ⟨.int .i64 n, ρ, w, ?_, by simp, Step.refl hr, rfl⟩ (fun cs => rfl)
            rw [hmap, e1]; simp [Builtin.len_, h1, run_underlying h2, goInt]
          · simp at h
        · rename_i i o ln n hargs2
          rw [relL_cons] at hrel
          obtain ⟨u, us, e1, r1, hrel⟩ := hrel
          simp at hrel; subst hrel
          split at h
          · rename_i et hu1
            cases h1 : c.argTypes[0]? with
            | none => simp [h1] at hu1
            | some t =>
              simp [h1] at hu1
              simp only [OR.v.injEq] at h
              obtain ⟨rfl, rfl⟩ := h
              rw [rel_slc] at r1
              obtain ⟨l, off, rc, _, rfl, _, _, hc⟩ := r1
              simp only [capOk] at hc
              subst hc
              refine hres Builtin.cap_ ⟨.int .i64 rc, ρ, w, ?_, by simp, Step.refl hr, rfl⟩ (fun cs => rfl)
              rw [hmap, e1]; simp [Builtin.cap_, h1, run_underlying hu1, goInt]
          · simp at h
        · rename_i hargs2
          rw [relL_cons] at hrel
          obtain ⟨u, us, e1, r1, hrel⟩ := hrel
          simp at hrel; subst hrel
          split at h
          · rename_i et hu1
            cases h1 : c.argTypes[0]? with
            | none => simp [h1] at hu1
            | some t =>
              simp [h1] at hu1
              simp only [OR.v.injEq] at h
              obtain ⟨rfl, rfl⟩ := h
              simp at r1; subst r1
              refine hres Builtin.cap_ ⟨.int .i64 0, ρ, w, ?_, by simp, Step.refl hr, rfl⟩ (fun cs => rfl)
              rw [hmap, e1]; simp [Builtin.cap_, h1, run_underlying hu1, goInt]
          · simp at h
        · rename_i xa xs hargs2
          rw [relL_cons] at hrel
          obtain ⟨u, us, e1, r1, hrel⟩ := hrel
          obtain ⟨hv, rfl⟩ := ofOpt h
          obtain ⟨rv, g1, g2⟩ := fold_run (P := P) (w := w) hv r1 hrel
          refine hres Builtin.min_ ⟨rv, ρ, w, ?_, g2, Step.refl hr, rfl⟩ (fun cs => rfl)
          rw [hmap, e1]; simp only [Builtin.min_]; simpa using g1
        · rename_i xa xs hargs2
          rw [relL_cons] at hrel
          obtain ⟨u, us, e1, r1, hrel⟩ := hrel
          obtain ⟨hv, rfl⟩ := ofOpt h
          obtain ⟨rv, g1, g2⟩ := fold_run (P := P) (w := w) hv r1 hrel
          refine hres Builtin.max_ ⟨rv, ρ, w, ?_, g2, Step.refl hr, rfl⟩ (fun cs => rfl)
          rw [hmap, e1]; simp only [Builtin.max_]; simpa using g1
        · simp at h
      · simp at h
  case defer c =>
    simp only [stepOp] at h
    split at h
    · split at h
      · rw [cond_eq_ite] at h
        split at h <;> simp at h
      · simp at h
    · simp at h
  case makeMap t r =>
    simp only [stepOp] at h
    split at h
    · rename_i hr0
      rw [cond_eq_ite] at h
      split at h
      · rename_i ht
        simp only [OR.v.injEq] at h
        obtain ⟨rfl, rfl⟩ := h
        have hq := evOpt_rel he hr0
        have hq : r.map e = none := by
          cases hc : r.map e with
          | none => rfl
          | some y => rw [hc] at hq; exact absurd hq (by simp [relO])
        obtain ⟨rv, ρ', w', k1, k2, k3⟩ := makeMap_run hr ht (r := r.map e) (fun v hv => by rw [hq] at hv; cases hv)
        exact Did.val ⟨rv, ρ', w', k1, k2, k3, rfl⟩
      · simp at h
    · rename_i y hr0
      split at h
      · rename_i n hn
        rw [cond_eq_ite] at h
        split at h
        · rename_i ht
          simp only [OR.v.injEq] at h
          obtain ⟨rfl, rfl⟩ := h
          have hq := evOpt_rel he hr0
          obtain ⟨rv0, hq1, hq2⟩ := hq
          obtain ⟨kk, ek⟩ := idx_rel hn hq2
          obtain ⟨rv, ρ', w', k1, k2, k3⟩ := makeMap_run hr ht (r := r.map e) (fun v hv => by rw [hq1] at hv; cases hv; exact ⟨_, _, ek⟩)
          exact Did.val ⟨rv, ρ', w', k1, k2, k3, rfl⟩
        · simp at h
      · simp at h
    · simp at h
  case lookup t y k ok =>
    simp only [stepOp] at h
    split at h
    · rename_i yv kv hy hk
      obtain ⟨hv, rfl⟩ := ofOpt h
      exact Did.ro hr (look_run hr hv (he _ _ hy) (he _ _ hk))
    · simp at h
  case mapUpdate t m k y =>
    simp only [stepOp] at h
    split at h
    · rename_i mv kv yv hm hk hy
      split at h
      · rename_i s2 hs2
        simp only [OR.v.injEq] at h
        obtain ⟨rfl, rfl⟩ := h
        obtain ⟨w', g1, g2, g3⟩ := upd_run hr hs2 (he _ _ hm) (he _ _ hk) (he _ _ hy)
        exact ⟨.skip, undef, ρ, w', by simp [execOp, g1], .inr ⟨rfl, rfl⟩, rel_undef, g2, g3⟩
      · simp at h
    · simp at h
  case insert t m k y =>
    simp only [stepOp] at h
    split at h
    · rename_i mv kv yv hm hk hy
      split at h
      · rename_i s2 hs2
        simp only [OR.v.injEq] at h
        obtain ⟨rfl, rfl⟩ := h
        obtain ⟨w', g1, g2, g3⟩ := upd_run hr hs2 (he _ _ hm) (he _ _ hk) (he _ _ hy)
        exact ⟨.skip, undef, ρ, w', by simp [execOp, g1], .inr ⟨rfl, rfl⟩, rel_undef, g2, g3⟩
      · simp at h
    · simp at h
  case typeAssert y t0 t ok =>
    simp only [stepOp] at h
    split at h
    · rename_i yv hy
      obtain ⟨hv, rfl⟩ := ofOpt h
      exact Did.ro hr (assert_run hv (he _ _ hy))
    · simp at h
  case sliceToArrayPointer arr y =>
    simp only [stepOp] at h
    split at h
    · rename_i i o len c n et hy hu
      rw [cond_eq_ite] at h
      split at h
      · rename_i hc
        simp only [Bool.and_eq_true] at hc
        obtain ⟨c1, c2⟩ := hc
        have c1 := Nat.le_of_ble_eq_true c1
        have hn0 : n ≠ 0 := by intro e; subst e; simp at c2
        simp only [OR.v.injEq] at h
        obtain ⟨rfl, rfl⟩ := h
        have h2 := he _ _ hy
        rw [rel_slc] at h2
        obtain ⟨l, off, rc, hl, e2, hle, hoff, _⟩ := h2
        have hoff' := hoff.resolve_left (by omega)
        subst hoff'
        refine Did.ro hr ⟨.pointer (some ⟨l.b, l.base + o, none⟩), ?_, by rw [rel_ptr]; exact ⟨l, hl, rfl⟩⟩
        simp only [Instr.arrayAt, Sem.run_bind, run_underlying hu, Result.andThen_ok, e2]
        rw [if_neg (by omega)]
        simp
      · simp at h
    · simp at h
  all_goals (simp [stepOp] at h)
end
end Go.Sx
