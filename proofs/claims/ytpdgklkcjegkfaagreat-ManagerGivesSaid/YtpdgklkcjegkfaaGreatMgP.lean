/-
  ManagerGives: a node is made.
-/
import Derived.Test.YtpdgklkcjegkfaaGreatMgO
set_option linter.unusedSimpArgs false
set_option linter.unusedVariables false
namespace Go.Proofs.YtpdgklkcjegkfaaGreat
open Go Go.Sx

set_option maxRecDepth 100000 in
theorem g_N8_0 (f g i z0 z1 z2 z3 : Int) (p : Option Addr) (l q : Nat)  : Holds (fitOA (crtM f g (.slice p l q) [] (newN z0 z1 z2 z3) i) none (run8 (crt f g (.slice p l q) [] i) z0 z1 z2 z3)) := by
  have d1 : (((newN z0 z1 z2 z3).c : Bool) = (false)) := by first | assumption | rfl
  exact Holds.of (p := (((((((((((True ∧
 ((Value.slice p l q : _) = (Value.slice p l q))) ∧
 (ident (f))) ∧
 (ident (g))) ∧
 (ident (i))) ∧
 (ident (z0))) ∧
 (ident (z1))) ∧
 (ident (z2))) ∧
 (ident (z3))) ∧
 (ident (255))) ∧
 (((newN z0 z1 z2 z3).c : Bool) = (false))) ∧
 (ident (0)))) (by kernel_rfl) ⟨⟨⟨⟨⟨⟨⟨⟨⟨⟨⟨True.intro, rfl⟩, rfl⟩, rfl⟩, rfl⟩, rfl⟩, rfl⟩, rfl⟩, rfl⟩, rfl⟩, d1⟩, rfl⟩

set_option maxRecDepth 100000 in
theorem g_N8_1 (f g i z0 z1 z2 z3 : Int) (p : Option Addr) (l q : Nat) (n1 : ND)  : Holds (fitOA (crtM f g (.slice p l q) [n1] (newN z0 z1 z2 z3) i) none (run8 (crt f g (.slice p l q) [n1] i) z0 z1 z2 z3)) := by
  have d1 : (((newN z0 z1 z2 z3).c : Bool) = (false)) := by first | assumption | rfl
  exact Holds.of (p := ((((((((((((((((((True ∧
 ((Value.slice p l q : _) = (Value.slice p l q))) ∧
 (ident (f))) ∧
 (ident (g))) ∧
 (ident (i))) ∧
 (ident (n1.i0))) ∧
 (ident (n1.i1))) ∧
 (ident (n1.i2))) ∧
 (ident (n1.i3))) ∧
 (ident (n1.x))) ∧
 ((n1.c : Bool) = (n1.c))) ∧
 (ident (n1.pl))) ∧
 (ident (z0))) ∧
 (ident (z1))) ∧
 (ident (z2))) ∧
 (ident (z3))) ∧
 (ident (255))) ∧
 (((newN z0 z1 z2 z3).c : Bool) = (false))) ∧
 (ident (0)))) (by kernel_rfl) ⟨⟨⟨⟨⟨⟨⟨⟨⟨⟨⟨⟨⟨⟨⟨⟨⟨⟨True.intro, rfl⟩, rfl⟩, rfl⟩, rfl⟩, rfl⟩, rfl⟩, rfl⟩, rfl⟩, rfl⟩, rfl⟩, rfl⟩, rfl⟩, rfl⟩, rfl⟩, rfl⟩, rfl⟩, d1⟩, rfl⟩

set_option maxRecDepth 100000 in
theorem g_N8_2 (f g i z0 z1 z2 z3 : Int) (p : Option Addr) (l q : Nat) (n1 n2 : ND)  : Holds (fitOA (crtM f g (.slice p l q) [n1, n2] (newN z0 z1 z2 z3) i) none (run8 (crt f g (.slice p l q) [n1, n2] i) z0 z1 z2 z3)) := by
  have d1 : (((newN z0 z1 z2 z3).c : Bool) = (false)) := by first | assumption | rfl
  exact Holds.of (p := (((((((((((((((((((((((((True ∧
 ((Value.slice p l q : _) = (Value.slice p l q))) ∧
 (ident (f))) ∧
 (ident (g))) ∧
 (ident (i))) ∧
 (ident (n1.i0))) ∧
 (ident (n1.i1))) ∧
 (ident (n1.i2))) ∧
 (ident (n1.i3))) ∧
 (ident (n1.x))) ∧
 ((n1.c : Bool) = (n1.c))) ∧
 (ident (n1.pl))) ∧
 (ident (n2.i0))) ∧
 (ident (n2.i1))) ∧
 (ident (n2.i2))) ∧
 (ident (n2.i3))) ∧
 (ident (n2.x))) ∧
 ((n2.c : Bool) = (n2.c))) ∧
 (ident (n2.pl))) ∧
 (ident (z0))) ∧
 (ident (z1))) ∧
 (ident (z2))) ∧
 (ident (z3))) ∧
 (ident (255))) ∧
 (((newN z0 z1 z2 z3).c : Bool) = (false))) ∧
 (ident (0)))) (by kernel_rfl) ⟨⟨⟨⟨⟨⟨⟨⟨⟨⟨⟨⟨⟨⟨⟨⟨⟨⟨⟨⟨⟨⟨⟨⟨⟨True.intro, rfl⟩, rfl⟩, rfl⟩, rfl⟩, rfl⟩, rfl⟩, rfl⟩, rfl⟩, rfl⟩, rfl⟩, rfl⟩, rfl⟩, rfl⟩, rfl⟩, rfl⟩, rfl⟩, rfl⟩, rfl⟩, rfl⟩, rfl⟩, rfl⟩, rfl⟩, rfl⟩, d1⟩, rfl⟩

end Go.Proofs.YtpdgklkcjegkfaaGreat

namespace Go.Proofs.YtpdgklkcjegkfaaGreat
open Go Go.Sx

section
variable {P : Program} {ops : Array Oper} {Q : Exit → Act → World → Prop} {ρ : Env} {M : Nat} {f : Fr} {a : Act} {w : World}

theorem op_val {i : Nat} {l : List Nat} {o : Oper} (hf : FR ρ M f a) (ho : ops[i]? = some o) (hg : o.guard = none) (hd : dstOk M o = true) {x : AV} {rv : Value}
    (hr : (execOp a.eval o).run P w = .ok (.value rv) w) (hx : rel ρ x rv) (k : ∀ a', FR ρ M (f.put o.dst x) a' → wpOps P ops Q l a' w) : wpOps P ops Q (i :: l) a w := by
  have hw : Region.wanted o (yielded ops a.tmps) = true := by simp [Region.wanted, hg]
  simp only [wpOps, ho, hw, if_true, Oper.wp, hr]
  exact .inl (k _ (hf.put hd hx))

theorem op_pure {i : Nat} {l : List Nat} {o : Oper} (hf : FR ρ M f a) (ho : ops[i]? = some o) (hg : o.guard = none) (hd : dstOk M o = true) (hc : cls P o = .pur) {x : AV} {s s' : AS}
    (h : stepOp P o f.ev s = .v x s') (k : ∀ a', FR ρ M (f.put o.dst x) a' → wpOps P ops Q l a' w) : wpOps P ops Q (i :: l) a w := by
  obtain ⟨rv, h1, h2⟩ := (step_pure (w := w) hf.op hc h).2
  exact op_val hf ho hg hd h1 h2 k

theorem FR.less {f' : Fr} {fs : List (Nat × AV)} (h : FR ρ M f a) (hds : f.ds = []) (hs : ∀ t v, (t, v) ∈ fs → PT.get (Pos.slot t) f.tm = some v) (he : f' = ⟨mkF fs, []⟩) : FR ρ M f' a := by
  subst he
  exact ⟨h.size, fun d v hv => h.dom d v (hs d v (mkF_get hv)), fun d v hv => h.tm d v (hs d v (mkF_get hv)), by have := h.ds; rw [hds] at this; exact this⟩

/-- What is left of a region comes to a template. -/
theorem rest_fit {K : FuncId → List AV → AS → Option CR} (hK : CallOK P fun g args s => (K g args s).getD .fail) (hm : P.follows .mixedOrders = true) {n : Nat} {os : List Oper} {l : List Nat}
    (hl : l.map (fun i => ops[i]?) = os.map some) (hd : os.all (dstOk M) = true) {s : AS} {t : Tm} (hh : Holds (fitOA t none (ofRR (runF (fast P K n).2 ops (os.map (cI P)) f s)))) {w0 : World}
    (g : Got w0 ρ s w) (hf : FR ρ M f a) (k : ∀ ρ' a' w' orc, Got w0 ρ' ⟨t.heap, t.next, orc, True⟩ w' → FR ρ' M ⟨mkF t.tms, []⟩ a' → Q .normal a' w') : wpOps P ops Q l a w := by
  have hh := hh.h
  rw [runF_eq, (fast_eq (P := P) (K := K) n).2] at hh
  have hs := runOps_sound (P := P) (callAt_sound hK hm n) ops M os l hl hd f s
  cases hr : runOps P (callAt P K n) ops os f s with
  | fail => rw [hr] at hh; exact hh.elim
  | pan v f' s' => rw [hr] at hh; exact hh.elim
  | go f' s' =>
    rw [hr] at hh hs
    simp only [ofRR, fitOA, fitOR, cond_eq_ite] at hh
    split at hh
    · rename_i hx
      simp only [Bool.and_eq_true] at hx
      obtain ⟨_, hap⟩ := hx
      split at hh
      · rename_i ps hps
        split at hh
        · rename_i rs hrs
          split at hh
          · rename_i qs hqs
            split at hh
            · rename_i hds
              have hh : allP ps (allP rs (allP qs s'.cons)) := hh
              obtain ⟨h1, h2⟩ := allP_out hh
              obtain ⟨h3, h4⟩ := allP_out h1
              obtain ⟨h5, h6⟩ := allP_out h3
              refine hs.2 h5 ρ w a Q g.r hf fun ρ' a' w' k2 k3 => ?_
              obtain ⟨g1, g2⟩ := fitR_sound hap hps hrs hqs h2 h4 h6 hds [] True (g.step k3) k2
              exact k _ a' w' [] g1 g2
            · exact hh.elim
          · exact hh.elim
        · exact hh.elim
      · exact hh.elim
    · exact hh.elim
end

theorem ops8_size : ops8.size = 10 := by kernel_rfl
noncomputable def o8 (k : Nat) : Oper := ops8.getD k default

theorem und51 : Tryz.prog.underlying 51 = some (.slice 29) := by kernel_rfl
theorem sz29 : sz Tryz.prog 29 = some 4 := by kernel_rfl
theorem agg29 (w : World) : (isAgg 29).run Tryz.prog w = .ok true w := by kernel_rfl

theorem index_id {w : World} {B off n q i : Nat} (hi : i < n) : (Instr.indexAt 51 (.slice (some ⟨B, off, none⟩) n q) (.int .i64 i)).run Tryz.prog w = .ok (.pointer (some ⟨B, off + i * 4, none⟩)) w := by
  have h0 : (0 : Int) ≤ i ∧ (i : Int) < n := by omega
  simp [Instr.indexAt, asIntOf, run_underlying und51, run_sz sz29, h0, addr_add]
  intro h; omega

theorem load_id {w : World} {B o : Nat} {z0 z1 z2 z3 : Int} (h0 : w.cell? ⟨B, o, none⟩ = some (.int .u32 z0)) (h1 : w.cell? ⟨B, o + 1, none⟩ = some (.int .u32 z1))
    (h2 : w.cell? ⟨B, o + 2, none⟩ = some (.int .u32 z2)) (h3 : w.cell? ⟨B, o + 3, none⟩ = some (.int .u32 z3)) :
    (Instr.loadAt 29 (.pointer (some ⟨B, o, none⟩))).run Tryz.prog w = .ok (.agg #[.int .u32 z0, .int .u32 z1, .int .u32 z2, .int .u32 z3]) w := by
  have hld : (loadCells ⟨B, o, none⟩ 4).run Tryz.prog w = .ok #[.int .u32 z0, .int .u32 z1, .int .u32 z2, .int .u32 z3] w := by
    have := run_loadCells_list (P := Tryz.prog) w ⟨B, o, none⟩ [.int .u32 z0, .int .u32 z1, .int .u32 z2, .int .u32 z3] (fun j v hj => by
      rw [addr_add]
      rcases j with _ | _ | _ | _ | j
      · simpa using hj ▸ h0
      · simpa using hj ▸ h1
      · simpa using hj ▸ h2
      · simpa using hj ▸ h3
      · simp at hj)
    simpa using this
  simp only [Instr.loadAt, Instr.sureAddr, loadVar, Sem.run_bind, Sem.run_pure, Result.andThen_ok, agg29, if_true, run_sz sz29, hld]

theorem r8 {hK : CallOK Tryz.prog fun g args s => (kG g args s).getD .fail} {W : World} {ρ : Env} {w : World} {act : Act} {f g : Int} {B off l q i : Nat} {ns : List ND} {orc : List Bool} {z0 z1 z2 z3 : Int}
    (hg : Got W ρ ⟨(crt f g (.slice (some ⟨B, off, none⟩) l q) ns i).heap, pZ, orc, True⟩ w) (hf : FR ρ 216 ⟨mkF (crt f g (.slice (some ⟨B, off, none⟩) l q) ns i).tms, []⟩ act) (hi : i < l) (hn : ns.length ≤ 2)
    (h0 : w.cell? ⟨B, off + i * 4, none⟩ = some (.int .u32 z0)) (h1 : w.cell? ⟨B, off + i * 4 + 1, none⟩ = some (.int .u32 z1))
    (h2 : w.cell? ⟨B, off + i * 4 + 2, none⟩ = some (.int .u32 z2)) (h3 : w.cell? ⟨B, off + i * 4 + 3, none⟩ = some (.int .u32 z3)) {Q : Exit → Act → World → Prop}
    (k : ∀ ρ' a' w' orc, Got W ρ' ⟨(crtM f g (.slice (some ⟨B, off, none⟩) l q) ns (newN z0 z1 z2 z3) i).heap, pZ, orc, True⟩ w' →
      FR ρ' 216 ⟨mkF (crtM f g (.slice (some ⟨B, off, none⟩) l q) ns (newN z0 z1 z2 z3) i).tms, []⟩ a' → Q .normal a' w') : n8.wp Tryz.prog Q act w := by
  rw [n8_eq]
  refine wp_region ?_
  rw [ops8_size]
  show wpOps Tryz.prog ops8 Q [0, 1, 2, 3, 4, 5, 6, 7, 8, 9] act w
  refine op_pure (o := o8 0) (s := sE) hf (by kernel_rfl) (by kernel_rfl) (by kernel_rfl) (by kernel_rfl) (by kernel_rfl : stepOp _ _ _ _ = .v (.raw (.slice (some ⟨B, off, none⟩) l q)) sE) fun a1 f1 => ?_
  refine op_pure (o := o8 1) (s := sE) f1 (by kernel_rfl) (by kernel_rfl) (by kernel_rfl) (by kernel_rfl) (by kernel_rfl : stepOp _ _ _ _ = .v (.sint .i64 i) sE) fun a2 f2 => ?_
  have e50 : a2.eval (.tmp 50) = .slice (some ⟨B, off, none⟩) l q := by
    have := f2.op (.tmp 50) (.raw (.slice (some ⟨B, off, none⟩) l q)) (by kernel_rfl)
    rw [rel_raw] at this; exact this.1
  have e51 : a2.eval (.tmp 51) = .int .i64 i := by
    have := f2.op (.tmp 51) (.sint .i64 i) (by kernel_rfl)
    simpa using this
  refine op_val (o := o8 2) (x := .raw (.pointer (some ⟨B, off + i * 4, none⟩))) (rv := .pointer (some ⟨B, off + i * 4, none⟩)) f2 (by kernel_rfl) (by kernel_rfl) (by kernel_rfl) ?_ (by rw [rel_raw]; exact ⟨rfl, rfl⟩) fun a3 f3 => ?_
  · have ho : (o8 2).op = .indexAddr 51 (.tmp 50) (.tmp 51) := by kernel_rfl
    simp only [execOp, ho, e50, e51, Sem.run_bind, index_id hi, Result.andThen_ok, Sem.run_pure]
  have e52 : a3.eval (.tmp 52) = .pointer (some ⟨B, off + i * 4, none⟩) := by
    have := f3.op (.tmp 52) (.raw (.pointer (some ⟨B, off + i * 4, none⟩))) (by kernel_rfl)
    rw [rel_raw] at this; exact this.1
  refine op_val (o := o8 3) (x := .agg [.sint .u32 z0, .sint .u32 z1, .sint .u32 z2, .sint .u32 z3]) (rv := .agg #[.int .u32 z0, .int .u32 z1, .int .u32 z2, .int .u32 z3]) f3 (by kernel_rfl) (by kernel_rfl) (by kernel_rfl) ?_ ?_ fun a4 f4 => ?_
  · have ho : (o8 3).op = .load 29 (.tmp 52) := by kernel_rfl
    simp only [execOp, ho, e52, Sem.run_bind, load_id h0 h1 h2 h3, Result.andThen_ok, Sem.run_pure]
  · rw [rel_agg]
    refine ⟨[.int .u32 z0, .int .u32 z1, .int .u32 z2, .int .u32 z3], ?_, rfl⟩
    rw [relL_cons]; refine ⟨_, _, rfl, by simp, ?_⟩
    rw [relL_cons]; refine ⟨_, _, rfl, by simp, ?_⟩
    rw [relL_cons]; refine ⟨_, _, rfl, by simp, ?_⟩
    rw [relL_cons]; exact ⟨_, _, rfl, by simp, by simp⟩
  have f5 : FR ρ 216 ⟨mkF ((53, .agg [.sint .u32 z0, .sint .u32 z1, .sint .u32 z2, .sint .u32 z3]) :: (crt f g (.slice (some ⟨B, off, none⟩) l q) ns i).tms), []⟩ a4 := by
    refine FR.less f4 (by kernel_rfl) (fun t v hm => ?_) rfl
    simp only [crt, List.mem_cons, Prod.mk.injEq, List.not_mem_nil, or_false] at hm
    rcases hm with ⟨rfl, rfl⟩ | ⟨rfl, rfl⟩ | ⟨rfl, rfl⟩ | ⟨rfl, rfl⟩ | ⟨rfl, rfl⟩ | ⟨rfl, rfl⟩ | ⟨rfl, rfl⟩
    all_goals kernel_rfl
  have hh : Holds (fitOA (crtM f g (.slice (some ⟨B, off, none⟩) l q) ns (newN z0 z1 z2 z3) i) none (run8 (crt f g (.slice (some ⟨B, off, none⟩) l q) ns i) z0 z1 z2 z3)) := by
    match ns, hn with
    | [], _ => exact g_N8_0 f g i z0 z1 z2 z3 _ l q
    | [n1], _ => exact g_N8_1 f g i z0 z1 z2 z3 _ l q n1
    | [n1, n2], _ => exact g_N8_2 f g i z0 z1 z2 z3 _ l q n1 n2
    | _ :: _ :: _ :: _, h => simp at h
  have e8 : run8 (crt f g (.slice (some ⟨B, off, none⟩) l q) ns i) z0 z1 z2 z3 = ofRR (runF (fast Tryz.prog kG 10000).2 ops8 ((ops8.toList.drop 4).map (cI Tryz.prog))
      ⟨mkF ((53, .agg [.sint .u32 z0, .sint .u32 z1, .sint .u32 z2, .sint .u32 z3]) :: (crt f g (.slice (some ⟨B, off, none⟩) l q) ns i).tms), []⟩ ⟨(crt f g (.slice (some ⟨B, off, none⟩) l q) ns i).heap, pZ, [], True⟩) := by kernel_rfl
  exact rest_fit hK mixed (l := [4, 5, 6, 7, 8, 9]) (os := ops8.toList.drop 4) (by kernel_rfl) (by kernel_rfl) (hh.cast (congrArg (fitOA _ none) e8)) hg.notes f5 k
end Go.Proofs.YtpdgklkcjegkfaaGreat
