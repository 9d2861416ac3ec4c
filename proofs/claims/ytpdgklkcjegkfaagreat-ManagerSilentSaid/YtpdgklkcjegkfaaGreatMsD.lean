/-
  ManagerSilent: the beat that is read.
-/
import Derived.Test.YtpdgklkcjegkfaaGreatMsC
namespace Go.Proofs.YtpdgklkcjegkfaaGreat
open Go Go.Sx

section
variable {P : Program} {ops : Array Oper} {Q : Exit → Act → World → Prop} {ρ : Env} {M : Nat} {f : Fr} {a : Act} {w : World}

theorem op_val {i : Nat} {l : List Nat} {o : Oper} (hf : FR ρ M f a) (ho : ops[i]? = some o) (hg : o.guard = none) (hd : dstOk M o = true) {x : AV} {rv : Value}
    (hr : (execOp a.eval o).run P w = .ok (.value rv) w) (hx : rel ρ x rv) (k : ∀ a', FR ρ M (f.put o.dst x) a' → wpOps P ops Q l a' w) : wpOps P ops Q (i :: l) a w := by
  have hw : Region.wanted o (yielded ops a.tmps) = true := by simp [Region.wanted, hg]
  simp only [wpOps, ho, hw, if_true, Oper.wp, hr]
  exact .inl (k _ (hf.put hd hx))

theorem op_pure {i : Nat} {l : List Nat} {o : Oper} (hf : FR ρ M f a) (ho : ops[i]? = some o) (hg : o.guard = none) (hd : dstOk M o = true) (hc : cls P o = .pur) {x : AV} {s s' : AS}
    (h : stepOp P o f.ev s = .v x s') (k : ∀ a', FR ρ M (f.put o.dst x) a' → wpOps P ops Q l a' w) : wpOps P ops Q (i :: l) a w := by
  obtain ⟨rv, h1, h2⟩ := (step_pure (w := w) hf.op hc h).2
  exact op_val hf ho hg hd h1 h2 k

theorem FR.less {f' : Fr} {fs : List (Nat × AV)} (h : FR ρ M f a) (hds : f.ds = []) (hs : ∀ t v, (t, v) ∈ fs → PT.get (Pos.slot t) f.tm = some v) (he : f' = ⟨mkF fs, []⟩) : FR ρ M f' a := by
  subst he
  exact ⟨h.size, fun d v hv => h.dom d v (hs d v (mkF_get hv)), fun d v hv => h.tm d v (hs d v (mkF_get hv)), by have := h.ds; rw [hds] at this; exact this⟩
end

noncomputable def opsI : Array Oper := match pI1 with
  | .region _ o _ => o
  | _ => #[]
noncomputable def oI (k : Nat) : Oper := opsI.getD k default
theorem pI1_eq : pI1 = .region 17 opsI false := by kernel_rfl
theorem opsI_size : opsI.size = 8 := by kernel_rfl

theorem und5 : Tryz.prog.underlying 5 = some (.int .u8) := by kernel_rfl
theorem und22 : Tryz.prog.underlying 22 = some (.slice 5) := by kernel_rfl
theorem sz5 : sz Tryz.prog 5 = some 1 := by kernel_rfl

theorem load_u8 {w : World} {B o : Nat} {z : Int} (h : w.cell? ⟨B, o, none⟩ = some (.int .u8 z)) : (Instr.loadAt 5 (.pointer (some ⟨B, o, none⟩))).run Tryz.prog w = .ok (.int .u8 z) w := by
  have ha : (isAgg 5).run Tryz.prog w = .ok false w := by
    simp only [isAgg, Sem.run_bind, run_underlying und5, Result.andThen_ok]
    rfl
  simp only [Instr.loadAt, Instr.sureAddr, loadVar, Sem.run_bind, Sem.run_pure, Result.andThen_ok, ha, Bool.false_eq_true, if_false, run_load, h]

theorem index_u8 {w : World} {B off n q i : Nat} (hi : i < n) : (Instr.indexAt 22 (.slice (some ⟨B, off, none⟩) n q) (.int .i64 i)).run Tryz.prog w = .ok (.pointer (some ⟨B, off + i, none⟩)) w := by
  have h0 : (0 : Int) ≤ i ∧ (i : Int) < n := by omega
  simp [Instr.indexAt, asIntOf, run_underlying und22, run_sz sz5, h0, addr_add]
  intro h; omega

theorem rem_u8 {w : World} {z a : Int} (ha : a ≠ 0) : (do eqGuard .rem 5 (.tmp 115) (.tmp 116) (.int .u8 z) (.int .u8 a); binOp .rem 5 (.int .u8 z) (.int .u8 a) : Sem Value).run Tryz.prog w = .ok (.int .u8 (z.tmod a)) w := by
  have h : intOp .rem .u8 z .u8 a true false = some (.sint .u8 (z.tmod a)) := by simp [intOp, mkInt, ha]
  obtain ⟨rv, h1, h2⟩ := intOp_run (ρ := fun _ => none) (P := Tryz.prog) (w := w) h 5
  rw [Sem.run_bind, run_eqGuard_int, Result.andThen_ok, h1]
  have h3 : rv = .int .u8 (z.tmod a) := by simpa using h2
  rw [h3]

theorem r17 {ρ : Env} {w : World} {act : Act} {a : Int} {b : Bool} {c : Int} {B off n q i : Nat} {z : Int} (hf : FR ρ 197 (fr (fB a b (.slice (some ⟨B, off, none⟩) n q) c i)) act)
    (hi : i < n) (hcell : w.cell? ⟨B, off + i, none⟩ = some (.int .u8 z)) (ha : a ≠ 0) {Q : Exit → Act → World → Prop}
    (k : ∀ a', FR ρ 197 (fr (fC a b (.slice (some ⟨B, off, none⟩) n q) c i (IntKind.i64.wrap (z.tmod a)))) a' → Q .normal a' w) : pI1.wp Tryz.prog Q act w := by
  rw [pI1_eq]
  refine wp_region ?_
  rw [opsI_size]
  show wpOps Tryz.prog opsI Q [0, 1, 2, 3, 4, 5, 6, 7] act w
  refine op_pure (o := oI 0) (s := sE) hf (by kernel_rfl) (by kernel_rfl) (by kernel_rfl) (by kernel_rfl) (by kernel_rfl : stepOp _ _ _ _ = .v (.raw (.slice (some ⟨B, off, none⟩) n q)) sE) fun a1 f1 => ?_
  refine op_pure (o := oI 1) (s := sE) f1 (by kernel_rfl) (by kernel_rfl) (by kernel_rfl) (by kernel_rfl) (by kernel_rfl : stepOp _ _ _ _ = .v (.sint .i64 i) sE) fun a2 f2 => ?_
  have e112 : a2.eval (.tmp 112) = .slice (some ⟨B, off, none⟩) n q := by
    have := f2.op (.tmp 112) (.raw (.slice (some ⟨B, off, none⟩) n q)) (by kernel_rfl)
    rw [rel_raw] at this; exact this.1
  have e113 : a2.eval (.tmp 113) = .int .i64 i := by
    have := f2.op (.tmp 113) (.sint .i64 i) (by kernel_rfl)
    simpa using this
  refine op_val (o := oI 2) (x := .raw (.pointer (some ⟨B, off + i, none⟩))) (rv := .pointer (some ⟨B, off + i, none⟩)) f2 (by kernel_rfl) (by kernel_rfl) (by kernel_rfl) ?_ (by rw [rel_raw]; exact ⟨rfl, rfl⟩) fun a3 f3 => ?_
  · have ho : (oI 2).op = .indexAddr 22 (.tmp 112) (.tmp 113) := by kernel_rfl
    simp only [execOp, ho, e112, e113, Sem.run_bind, index_u8 hi, Result.andThen_ok, Sem.run_pure]
  have e114 : a3.eval (.tmp 114) = .pointer (some ⟨B, off + i, none⟩) := by
    have := f3.op (.tmp 114) (.raw (.pointer (some ⟨B, off + i, none⟩))) (by kernel_rfl)
    rw [rel_raw] at this; exact this.1
  refine op_val (o := oI 3) (x := .sint .u8 z) (rv := .int .u8 z) f3 (by kernel_rfl) (by kernel_rfl) (by kernel_rfl) ?_ (by simp) fun a4 f4 => ?_
  · have ho : (oI 3).op = .load 5 (.tmp 114) := by kernel_rfl
    simp only [execOp, ho, e114, Sem.run_bind, load_u8 hcell, Result.andThen_ok, Sem.run_pure]
  refine op_pure (o := oI 4) (s := sE) f4 (by kernel_rfl) (by kernel_rfl) (by kernel_rfl) (by kernel_rfl) (by kernel_rfl : stepOp _ _ _ _ = .v (.sint .u8 a) sE) fun a5 f5 => ?_
  have e115 : a5.eval (.tmp 115) = .int .u8 z := by
    have := f5.op (.tmp 115) (.sint .u8 z) (by kernel_rfl)
    simpa using this
  have e116 : a5.eval (.tmp 116) = .int .u8 a := by
    have := f5.op (.tmp 116) (.sint .u8 a) (by kernel_rfl)
    simpa using this
  refine op_val (o := oI 5) (x := .sint .u8 (z.tmod a)) (rv := .int .u8 (z.tmod a)) f5 (by kernel_rfl) (by kernel_rfl) (by kernel_rfl) ?_ (by simp) fun a6 f6 => ?_
  · have ho : (oI 5).op = .binOp .rem 5 (.tmp 115) (.tmp 116) 5 := by kernel_rfl
    simp only [execOp, ho, e115, e116]
    rw [Sem.run_bind, rem_u8 ha]
    simp
  refine op_pure (o := oI 6) (s := sE) f6 (by kernel_rfl) (by kernel_rfl) (by kernel_rfl) (by kernel_rfl) (by kernel_rfl : stepOp _ _ _ _ = .v (.sint .i64 (IntKind.i64.wrap (z.tmod a))) sE) fun a7 f7 => ?_
  refine op_pure (o := oI 7) (s := sE) f7 (by kernel_rfl) (by kernel_rfl) (by kernel_rfl) (by kernel_rfl) (by kernel_rfl : stepOp _ _ _ _ = .v (.sint .i64 (IntKind.i64.wrap (z.tmod a))) sE) fun a8 f8 => ?_
  refine k a8 (FR.less f8 (by kernel_rfl) (fun t v hm => ?_) rfl)
  simp only [fC, fB, fA, List.mem_cons, Prod.mk.injEq, List.not_mem_nil, or_false] at hm
  rcases hm with ⟨rfl, rfl⟩ | ⟨rfl, rfl⟩ | ⟨rfl, rfl⟩ | ⟨rfl, rfl⟩ | ⟨rfl, rfl⟩ | ⟨rfl, rfl⟩ | ⟨rfl, rfl⟩
  all_goals kernel_rfl
end Go.Proofs.YtpdgklkcjegkfaaGreat
