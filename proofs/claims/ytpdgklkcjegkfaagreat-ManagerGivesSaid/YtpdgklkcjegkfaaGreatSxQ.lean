/-
  A symbolic executor for the model's code, part Q: operations that write nothing.
-/
import Derived.Test.YtpdgklkcjegkfaaGreatSxP
namespace Go.Sx
open Go

/-- What an operation that writes nothing yields. -/
def RoD (P : Program) (ρ : Env) (w : World) (S : Sem Next) (x : AV) : Prop := ∃ rv, S.run P w = .ok (.value rv) w ∧ rel ρ x rv

section
variable {P : Program} {ρ : Env} {s s' : AS} {w : World}

theorem RoD.ro {S : Sem Value} {x : AV} (h : ∃ rv, S.run P w = .ok rv w ∧ rel ρ x rv) : RoD P ρ w (do pure (.value (← S))) x := by
  obtain ⟨rv, h1, h2⟩ := h
  exact ⟨rv, by simp [h1], h2⟩

theorem RoD.pure {rv : Value} {x : AV} (h : rel ρ x rv) : RoD P ρ w (Pure.pure (.value rv)) x := ⟨rv, by simp, h⟩

set_option linter.unusedVariables false in
theorem step_pure {o : Oper} {ev : Operand → Option AV} {e : Operand → Value} (he : OpRel ρ ev e) {x : AV} (hc : cls P o = .pur) (h : stepOp P o ev s = .v x s') :
    s' = s ∧ RoD P ρ w (execOp e o) x := by
  obtain ⟨dst, op, type, pos, after, guard⟩ := o
  cases op
  case move y =>
    simp only [stepOp] at h
    obtain ⟨hv, rfl⟩ := ofOpt h
    exact ⟨rfl, RoD.pure (he _ _ hv)⟩
  case assign y =>
    simp only [stepOp] at h
    obtain ⟨hv, rfl⟩ := ofOpt h
    exact ⟨rfl, RoD.pure (he _ _ hv)⟩
  case pick c a b =>
    simp only [stepOp] at h
    split at h
    · rename_i hc
      obtain ⟨hv, rfl⟩ := ofOpt h
      have := he _ _ hc
      simp at this
      refine ⟨rfl, e a, ?_, he _ _ hv⟩
      simp [execOp, this, asBool]
    · rename_i hc
      obtain ⟨hv, rfl⟩ := ofOpt h
      have := he _ _ hc
      simp at this
      refine ⟨rfl, e b, ?_, he _ _ hv⟩
      simp [execOp, this, asBool]
    · simp at h
  case build t parts =>
    simp only [stepOp] at h
    split at h
    · rename_i ps z hps hz
      obtain ⟨zv, g1, g2⟩ := run_zero (P := P) hz w
      have hzr := g2 ρ
      rw [rel_agg] at hzr
      obtain ⟨L, hL, rfl⟩ := hzr
      have hpr := parts_rel he hps
      have hmap : (parts.map fun (i, x) => (i, e x)).toList = parts.toList.map fun p => (p.1, e p.2) := by simp
      split at h
      · rename_i fs hu
        split at h
        · rename_i pl hpl
          split at h
          · rename_i l hl
            simp only [OR.v.injEq] at h
            obtain ⟨rfl, rfl⟩ := h
            have p1 := run_places (P := P) w fs.toList pl hpl
            obtain ⟨M, m1, m2, _⟩ := fill_run (place' := fun i => pl.toArray[i]?) (fun i q hq => by simpa [nth_eq] using hq) hl hpr hL
            refine ⟨rfl, RoD.ro ⟨.agg M.toArray, ?_, by rw [rel_agg]; exact ⟨M, m2, rfl⟩⟩⟩
            simp only [Instr.build, Sem.run_bind, g1, Result.andThen_ok, run_underlying hu, Array.mapM_eq_mapM_toList, Sem.run_map, bind_pure_comp, p1, Value.cells, hmap, m1, Sem.run_pure]
          · simp at h
        · simp at h
      · rename_i n et hu
        split at h
        · rename_i size hsz
          split at h
          · rename_i l hl
            simp only [OR.v.injEq] at h
            obtain ⟨rfl, rfl⟩ := h
            obtain ⟨M, m1, m2, m3⟩ := fill_run (place' := fun i => some (i * size, size)) (fun i q h => h) hl hpr hL
            refine ⟨rfl, RoD.ro ⟨.agg M.toArray, ?_, by rw [rel_agg]; exact ⟨M, m2, rfl⟩⟩⟩
            simp only [Instr.build, Sem.run_bind, g1, Result.andThen_ok, run_underlying hu, run_sz hsz, Value.cells, hmap, m1, Sem.run_pure]
          · simp at h
        · simp at h
      · simp at h
    · simp at h
  case nilCheck y =>
    simp only [stepOp] at h
    split at h
    · rename_i i o hy
      simp only [OR.v.injEq] at h
      obtain ⟨rfl, rfl⟩ := h
      have := he _ _ hy
      have h2 := this
      rw [rel_ptr] at h2
      obtain ⟨l, hl, e2⟩ := h2
      refine ⟨rfl, e y, ?_, this⟩
      simp [execOp, e2]
    · rename_i f a b hy
      simp only [OR.v.injEq] at h
      obtain ⟨rfl, rfl⟩ := h
      have := he _ _ hy
      have h2 := this
      rw [rel_fn] at h2
      obtain ⟨a', b', _, _, e2⟩ := h2
      refine ⟨rfl, e y, ?_, this⟩
      simp [execOp, e2]
    · simp at h
  case binOp op t a b ty =>
    simp only [stepOp] at h
    split at h
    · rename_i av bv ha hb
      obtain ⟨hv, rfl⟩ := ofOpt h
      exact ⟨rfl, RoD.ro (bin_run hv (he _ _ ha) (he _ _ hb))⟩
    · simp at h
  case unOp op t a =>
    simp only [stepOp] at h
    split at h
    · rename_i av ha
      obtain ⟨hv, rfl⟩ := ofOpt h
      exact ⟨rfl, RoD.ro (un_run hv (he _ _ ha))⟩
    · simp at h
  case makeInterface t a =>
    simp only [stepOp] at h
    split at h
    · simp at h
    · rename_i av d hne ha hu
      simp only [OR.v.injEq] at h
      obtain ⟨rfl, rfl⟩ := h
      refine ⟨rfl, RoD.ro ⟨.iface t (e a), ?_, by rw [rel_ifc]; exact ⟨_, he _ _ ha, rfl⟩⟩⟩
      refine run_makeInterface w t (e a) ?_
      unfold Program.concrete
      rw [hu]
      cases d <;> first | rfl | exact absurd rfl (hne _)
    · simp at h
  case makeFunc fn first captured =>
    simp only [stepOp] at h
    split at h
    · rename_i a b ha hb
      simp only [OR.v.injEq] at h
      obtain ⟨rfl, rfl⟩ := h
      refine ⟨rfl, RoD.ro ⟨.func fn (first.map e) (captured.map e), by simp [Instr.makeFunc], ?_⟩⟩
      rw [rel_fn]
      exact ⟨_, _, evs_rel he ha, evs_rel he hb, by rw [arr_map, arr_map]⟩
    · simp at h
  case slice t y lo hi mx =>
    simp only [stepOp] at h
    split at h
    · rename_i yv lov hiv mxv hy hlo hhi hmx
      obtain ⟨hv, rfl⟩ := ofOpt h
      exact ⟨rfl, RoD.ro (slice_run hv (he _ _ hy) (evOpt_rel he hlo) (evOpt_rel he hhi) (evOpt_rel he hmx))⟩
    · simp at h
  case fieldAddr t y f =>
    simp only [stepOp] at h
    split at h
    · rename_i i o fd hy hf
      split at h
      · rename_i n hn
        rw [cond_eq_ite] at h
        split at h
        · simp at h
        · rename_i hn0
          simp only [OR.v.injEq] at h
          obtain ⟨rfl, rfl⟩ := h
          obtain ⟨fs, hu, hfs⟩ := fieldOf_some hf
          have h2 := he _ _ hy
          rw [rel_ptr] at h2
          obtain ⟨l, hl, e2⟩ := h2
          have hn1 : ¬ n = 0 := by intro e; subst e; simp at hn0
          refine ⟨rfl, RoD.ro ⟨.pointer (some ⟨l.b, l.base + (o + fd.offset), none⟩), ?_, by rw [rel_ptr]; exact ⟨l, hl, rfl⟩⟩⟩
          simp only [Instr.fieldAt, Sem.run_bind, run_underlying hu, Result.andThen_ok, hfs, e2, Instr.sureAddr, Sem.run_pure, fieldPlace, run_sz hn]
          rw [if_neg hn1]
          simp [addr_add, Nat.add_assoc]
      · simp at h
    · simp at h
  case field t y f =>
    simp only [stepOp] at h
    split at h
    · rename_i cs fd hy hf
      obtain ⟨hv, rfl⟩ := ofOpt h
      obtain ⟨fs, hu, hfs⟩ := fieldOf_some hf
      have h2 := he _ _ hy
      rw [rel_agg] at h2
      obtain ⟨L, hL, e2⟩ := h2
      obtain ⟨rv, g1, g2⟩ := part_some (w := w) hv hL
      refine ⟨rfl, RoD.ro ⟨rv, ?_, g2⟩⟩
      simp only [Instr.field, Sem.run_bind, run_underlying hu, Result.andThen_ok, hfs, e2, asAgg, Sem.run_pure, g1]
    · simp at h
  case indexAddr t y ix =>
    simp only [stepOp] at h
    split at h
    · rename_i i o k len et hy hk hu
      split at h
      · rename_i n hn
        rw [cond_eq_ite] at h
        split at h
        · rename_i hlt
          have hlt : k < len := Nat.lt_of_succ_le (Nat.le_of_ble_eq_true hlt)
          simp only [OR.v.injEq] at h
          obtain ⟨rfl, rfl⟩ := h
          cases hix : ev ix with
          | none => simp [hix] at hk
          | some iv =>
            simp [hix] at hk
            obtain ⟨kk, ek⟩ := idx_rel hk (he _ _ hix)
            have h2 := he _ _ hy
            rw [rel_ptr] at h2
            obtain ⟨l, hl, e2⟩ := h2
            refine ⟨rfl, RoD.ro ⟨.pointer (some ⟨l.b, l.base + (o + k * n), none⟩), ?_, by rw [rel_ptr]; exact ⟨l, hl, rfl⟩⟩⟩
            simp only [Instr.indexAt, Sem.run_bind, ek, asIntOf, Sem.run_pure, Result.andThen_ok, run_underlying hu, e2, Instr.sureAddr]
            rw [if_pos ⟨by omega, by omega⟩]
            simp [run_sz hn, addr_add, Nat.add_assoc]
        · simp at h
      · simp at h
    · rename_i i o len c k et hy hk hu
      split at h
      · rename_i n hn
        rw [cond_eq_ite] at h
        split at h
        · rename_i hlt
          have hlt : k < len := Nat.lt_of_succ_le (Nat.le_of_ble_eq_true hlt)
          simp only [OR.v.injEq] at h
          obtain ⟨rfl, rfl⟩ := h
          cases hix : ev ix with
          | none => simp [hix] at hk
          | some iv =>
            simp [hix] at hk
            obtain ⟨kk, ek⟩ := idx_rel hk (he _ _ hix)
            have h2 := he _ _ hy
            rw [rel_slc] at h2
            obtain ⟨l, off, rc, hl, e2, hle, hoff, hc⟩ := h2
            have hoff' := hoff.resolve_left (by omega)
            subst hoff'
            refine ⟨rfl, RoD.ro ⟨.pointer (some ⟨l.b, l.base + (o + k * n), none⟩), ?_, by rw [rel_ptr]; exact ⟨l, hl, rfl⟩⟩⟩
            simp only [Instr.indexAt, Sem.run_bind, ek, asIntOf, Sem.run_pure, Result.andThen_ok, run_underlying hu, e2]
            rw [if_pos ⟨by omega, by omega⟩]
            simp [run_sz hn, addr_add, Nat.add_assoc]
        · simp at h
      · simp at h
    · simp at h
  case index t y ix =>
    simp only [stepOp] at h
    split at h
    · rename_i cs k len et hy hk hu
      split at h
      · rename_i n hn
        rw [cond_eq_ite] at h
        split at h
        · rename_i hlt
          have hlt : k < len := Nat.lt_of_succ_le (Nat.le_of_ble_eq_true hlt)
          obtain ⟨hv, rfl⟩ := ofOpt h
          cases hix : ev ix with
          | none => simp [hix] at hk
          | some iv =>
            simp [hix] at hk
            obtain ⟨kk, ek⟩ := idx_rel hk (he _ _ hix)
            have h2 := he _ _ hy
            rw [rel_agg] at h2
            obtain ⟨L, hL, e2⟩ := h2
            obtain ⟨rv, g1, g2⟩ := part_some (w := w) hv hL
            refine ⟨rfl, RoD.ro ⟨rv, ?_, g2⟩⟩
            simp only [Instr.index, Sem.run_bind, ek, asIntOf, Sem.run_pure, Result.andThen_ok, run_underlying hu, e2]
            rw [if_pos ⟨by omega, by omega⟩]
            simp [run_sz hn, g1]
        · simp at h
      · simp at h
    · rename_i b k hy hk hu
      split at h
      · rename_i c hc
        simp only [OR.v.injEq] at h
        obtain ⟨rfl, rfl⟩ := h
        cases hix : ev ix with
        | none => simp [hix] at hk
        | some iv =>
          simp [hix] at hk
          obtain ⟨kk, ek⟩ := idx_rel hk (he _ _ hix)
          have h2 := he _ _ hy
          simp at h2
          refine ⟨rfl, RoD.ro ⟨.int .u8 c.toNat, ?_, by simp⟩⟩
          have hb : b[k]? = some c := by
            have hlt := (List.getElem?_eq_some_iff.1 hc).1
            have hlt' : k < b.size := by rw [Array.length_toList] at hlt; exact hlt
            have := (List.getElem?_eq_some_iff.1 hc).2
            rw [getElem?_pos b k hlt']
            congr 1
          simp only [Instr.index, Sem.run_bind, ek, asIntOf, Sem.run_pure, Result.andThen_ok, run_underlying hu, h2]
          rw [if_pos (by omega)]
          simp [hb]
      · simp at h
    · simp at h
  case extract y ix =>
    simp only [stepOp] at h
    split at h
    · rename_i vs hy
      obtain ⟨hv, rfl⟩ := ofOpt h
      have h2 := he _ _ hy
      rw [rel_tup] at h2
      obtain ⟨L, hL, e2⟩ := h2
      obtain ⟨u, hu, hrel⟩ := relL_get ix hL hv
      refine ⟨rfl, RoD.ro ⟨u, ?_, hrel⟩⟩
      simp [Instr.extract, e2, hu]
    · simp at h
  case convert src dst a =>
    simp only [cls] at hc
    simp only [stepOp] at h
    split at h
    · rename_i av ha
      unfold convA at h
      split at hc
      · rename_i k0 k h1 h2
        simp only [h1, h2] at h
        split at h
        · simp only [OR.v.injEq] at h
          obtain ⟨rfl, rfl⟩ := h
          have hx := he _ _ ha
          simp at hx
          exact ⟨rfl, RoD.ro ⟨_, by rw [hx]; exact conv_int h1 h2 _ _, by simp⟩⟩
        · simp only [OR.v.injEq] at h
          obtain ⟨rfl, rfl⟩ := h
          have hx := he _ _ ha
          simp at hx
          exact ⟨rfl, RoD.ro ⟨_, by rw [hx]; exact conv_int h1 h2 _ _, by simp⟩⟩
        · simp at h
      · rename_i h1 h2
        simp only [h1, h2] at h
        split at h
        · rename_i b
          simp only [OR.v.injEq] at h
          obtain ⟨rfl, rfl⟩ := h
          have hx := he _ _ ha
          simp at hx
          exact ⟨rfl, RoD.ro ⟨.string b, by rw [hx]; simp [convert, run_underlying h1, run_underlying h2], by simp⟩⟩
        · simp at h
      · simp at hc
      · simp at hc
    · simp at h
  case call c =>
    simp only [stepOp] at h
    split at h
    · simp at h
    · rename_i args hargs
      have hrel := evs_rel he hargs
      split at h
      · rename_i f hcallee
        simp [cls, hcallee] at hc
      · rename_i b hcallee
        have hmap : (c.args.map e) = (c.args.toList.map e).toArray := arr_map _ _
        have hres : ∀ (S : Array TypeId → TypeId → Array Value → Sem Value) , (∃ rv, (S c.argTypes type (c.args.map e)).run P w = .ok rv w ∧ rel ρ x rv) →
            (∀ cs, builtin b c.argTypes type cs (c.args.map e) = (do Pure.pure (.value (← S c.argTypes type (c.args.map e))))) →
            RoD P ρ w (execOp e ⟨dst, .call c, type, pos, after, guard⟩) x := by
          intro S hS hb
          obtain ⟨rv, k1, k2⟩ := hS
          refine ⟨rv, ?_, k2⟩
          simp only [execOp, resolve, hcallee, Sem.run_bind, Sem.run_pure, Result.andThen_ok, invoke, hb, k1]
        split at h
        · simp [cls, hcallee] at hc
        · simp [cls, hcallee] at hc
        · rename_i xa hargs2
          rw [relL_cons] at hrel
          obtain ⟨u, us, e1, r1, hrel⟩ := hrel
          simp at hrel; subst hrel
          have hget : ∀ d, (c.argTypes[0]?).bind P.underlying = some d → ∃ t, c.argTypes[0]? = some t ∧ P.underlying t = some d := by
            intro d hd
            cases h1 : c.argTypes[0]? with
            | none => simp [h1] at hd
            | some t => simp [h1] at hd; exact ⟨t, rfl, hd⟩
          split at h
          · rename_i et hu1
            obtain ⟨t, h1, h2⟩ := hget _ hu1
            obtain ⟨hv, rfl⟩ := ofOpt h
            obtain ⟨rv, g1, g2⟩ := len_run (P := P) (w := w) h2 h1 hv r1 type
            exact ⟨rfl, hres Builtin.len_ ⟨rv, by rw [hmap, e1]; exact g1, g2⟩ (fun cs => rfl)⟩
          · rename_i hu1
            obtain ⟨t, h1, h2⟩ := hget _ hu1
            split at h
            · rename_i b
              simp only [OR.v.injEq] at h
              obtain ⟨rfl, rfl⟩ := h
              simp at r1; subst r1
              exact ⟨rfl, hres Builtin.len_ ⟨.int .i64 b.size, by rw [hmap, e1]; simp [Builtin.len_, h1, run_underlying h2, goInt], by simp⟩ (fun cs => rfl)⟩
            · simp at h
          · rename_i n et hu1
            obtain ⟨t, h1, h2⟩ := hget _ hu1
            simp only [OR.v.injEq] at h
            obtain ⟨rfl, rfl⟩ := h
            exact ⟨rfl, hres Builtin.len_ ⟨.int .i64 n, by rw [hmap, e1]; simp [Builtin.len_, h1, run_underlying h2, goInt], by simp⟩ (fun cs => rfl)⟩
          · simp at h
        · rename_i i o ln n hargs2
          rw [relL_cons] at hrel
          obtain ⟨u, us, e1, r1, hrel⟩ := hrel
          simp at hrel; subst hrel
          split at h
          · rename_i et hu1
            cases h1 : c.argTypes[0]? with
            | none => simp [h1] at hu1
            | some t =>
              simp [h1] at hu1
              simp only [OR.v.injEq] at h
              obtain ⟨rfl, rfl⟩ := h
              rw [rel_slc] at r1
              obtain ⟨l, off, rc, _, rfl, _, _, hcc⟩ := r1
              simp only [capOk] at hcc
              subst hcc
              exact ⟨rfl, hres Builtin.cap_ ⟨.int .i64 rc, by rw [hmap, e1]; simp [Builtin.cap_, h1, run_underlying hu1, goInt], by simp⟩ (fun cs => rfl)⟩
          · simp at h
        · rename_i hargs2
          rw [relL_cons] at hrel
          obtain ⟨u, us, e1, r1, hrel⟩ := hrel
          simp at hrel; subst hrel
          split at h
          · rename_i et hu1
            cases h1 : c.argTypes[0]? with
            | none => simp [h1] at hu1
            | some t =>
              simp [h1] at hu1
              simp only [OR.v.injEq] at h
              obtain ⟨rfl, rfl⟩ := h
              simp at r1; subst r1
              exact ⟨rfl, hres Builtin.cap_ ⟨.int .i64 0, by rw [hmap, e1]; simp [Builtin.cap_, h1, run_underlying hu1, goInt], by simp⟩ (fun cs => rfl)⟩
          · simp at h
        · rename_i xa xs hargs2
          rw [relL_cons] at hrel
          obtain ⟨u, us, e1, r1, hrel⟩ := hrel
          obtain ⟨hv, rfl⟩ := ofOpt h
          obtain ⟨rv, g1, g2⟩ := fold_run (P := P) (w := w) hv r1 hrel
          exact ⟨rfl, hres Builtin.min_ ⟨rv, by rw [hmap, e1]; simp only [Builtin.min_]; simpa using g1, g2⟩ (fun cs => rfl)⟩
        · rename_i xa xs hargs2
          rw [relL_cons] at hrel
          obtain ⟨u, us, e1, r1, hrel⟩ := hrel
          obtain ⟨hv, rfl⟩ := ofOpt h
          obtain ⟨rv, g1, g2⟩ := fold_run (P := P) (w := w) hv r1 hrel
          exact ⟨rfl, hres Builtin.max_ ⟨rv, by rw [hmap, e1]; simp only [Builtin.max_]; simpa using g1, g2⟩ (fun cs => rfl)⟩
        · simp at h
      · simp at h
  all_goals (simp [cls] at hc)

theorem step_read (hr : R ρ s w) {o : Oper} {ev : Operand → Option AV} {e : Operand → Value} (he : OpRel ρ ev e) {x : AV} (hc : cls P o = .read) (h : stepOp P o ev s = .v x s') :
    RoD P ρ w (execOp e o) x := by
  obtain ⟨dst, op, type, pos, after, guard⟩ := o
  cases op
  case load t a =>
    simp only [stepOp] at h
    split at h
    · rename_i av hav
      obtain ⟨hv, rfl⟩ := ofOpt h
      exact RoD.ro (load_some hv hr (he _ _ hav))
    · simp at h
  case convert src dst a =>
    simp only [cls] at hc
    simp only [stepOp] at h
    split at h
    · rename_i av ha
      split at hc
      · simp at hc
      · simp at hc
      · rename_i et h1 h2
        exact RoD.ro (bytes_str_run hr h1 h2 h (he _ _ ha)).2
      · simp at hc
    · simp at h
  case call c =>
    simp only [cls] at hc
    split at hc <;> simp at hc
  all_goals (simp [cls] at hc)
end
end Go.Sx
