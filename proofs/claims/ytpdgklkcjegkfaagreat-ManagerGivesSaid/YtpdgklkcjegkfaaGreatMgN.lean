/-
  ManagerGives: the loop.
-/
import Derived.Test.YtpdgklkcjegkfaaGreatMgM
set_option linter.unusedSimpArgs false
set_option linter.unusedVariables false
namespace Go.Proofs.YtpdgklkcjegkfaaGreat
open Go Go.Sx

/-- How many have an address. -/
def used : List ND → Nat
  | [] => 0
  | n :: l => (if n.x = 255 then 0 else 1) + used l

theorem used_le : ∀ ns : List ND, used ns ≤ ns.length := by
  intro ns
  induction ns with
  | nil => simp [used]
  | cons n l ih => simp only [used, List.length_cons]; split <;> omega

theorem used_lt : ∀ {ns : List ND} {m : ND}, m ∈ ns → m.x = 255 → used ns < ns.length := by
  intro ns
  induction ns with
  | nil => intro m h; simp at h
  | cons n l ih =>
    intro m h hx
    have hl := used_le l
    simp only [List.mem_cons] at h
    simp only [used, List.length_cons]
    rcases h with rfl | h
    · rw [if_pos hx]; omega
    · have := ih h hx
      split <;> omega

theorem used_map (g : ND → ND) (hg : ∀ m, (g m).x = m.x) : ∀ ns : List ND, used (ns.map g) = used ns := by
  intro ns
  induction ns with
  | nil => rfl
  | cons n l ih => simp only [List.map_cons, used, hg, ih]

theorem used_set {u : Int} (hu : u ≠ 255) : ∀ {ns : List ND}, (∀ m ∈ ns, m.c = true → m.x = 255) → used ns ≤ used (setL ns u) ∧ (ns.any (·.c) = true → used ns + 1 ≤ used (setL ns u)) := by
  intro ns
  induction ns with
  | nil => intro _; simp [used, setL]
  | cons n l ih =>
    intro h
    obtain ⟨i1, i2⟩ := ih (fun m hm => h m (by simp [hm]))
    have e : setL (n :: l) u = n.set u n.c :: setL l u := rfl
    rw [e]
    simp only [used, List.any_cons, Bool.or_eq_true]
    cases hc : n.c with
    | true =>
      have hx := h n (by simp) hc
      have : (n.set u true).x = u := rfl
      rw [if_pos hx, this, if_neg hu]
      constructor <;> omega
    | false =>
      have : (n.set u false).x = n.x := rfl
      rw [this]
      constructor
      · omega
      · intro q
        rcases q with q | q
        · cases q
        · have := i2 q; omega

theorem hears_x (m : ND) (d : Bool) (b u t : Int) : (m.hears d b u t).x = m.x := by cases d <;> rfl

def Gv (f : Int) (gs : List GV) : Prop := ∀ (i : Nat) (g : GV), gs[i]? = some g → g.a = f + i ∧ g.kp = true

theorem Gv.snoc {f : Int} {gs : List GV} {g : GV} (h : Gv f gs) (h1 : g.a = f + gs.length) (h2 : g.kp = true) : Gv f (gs ++ [g]) := by
  intro i x hx
  by_cases hi : i < gs.length
  · rw [List.getElem?_append_left hi] at hx; exact h i x hx
  · rw [List.getElem?_append_right (by omega)] at hx
    have : i - gs.length = 0 := by
      cases hq : i - gs.length with
      | zero => rfl
      | succ k => rw [hq] at hx; simp at hx
    rw [this] at hx
    simp only [List.getElem?_cons_zero, Option.some.injEq] at hx
    subst hx
    have : i = gs.length := by omega
    subst this
    exact ⟨h1, h2⟩

def topH (f : Int) (c : Nat) : Int := if c = 0 then 0 else f + c - 1

structure Com (f0 g0 : Int) (n : Nat) (b : BS) (ns : List ND) (gs : List GV) : Prop where
  f : b.f = f0
  g : b.g = g0
  now : b.now = 10 * b.k
  k0 : 0 ≤ b.k
  n : ns.length = n
  gv : Gv f0 gs
  f1 : 1 ≤ f0

def Ph (f0 : Int) (b : BS) (s : SR) (ns : List ND) (gs : List GV) : PH → Prop
  | .s a1 a2 a3 a4 fb fu ft => (s.ask = .s a1 a2 a3 a4 fb fu ft ∧ b.ak = b.now ∧ b.nx = f0 + gs.length ∧ b.nx ≤ 127 ∧ b.h = topH f0 gs.length) ∧ (∀ m ∈ ns, m.c = false) ∧
      (0 ≤ s.p ∧ s.p ≤ 3 ∧ -1 ≤ s.b ∧ s.b ≤ 32 ∧ (s.b = 32 → s.p = 0) ∧ s.o = false ∧ s.f = false) ∧ gs.length ≤ used ns ∧ b.k ≤ 136 * gs.length + 33 * s.p + 32 - s.b
  | .a u => (u = b.nx ∧ b.ak = b.now ∧ b.nx = f0 + gs.length ∧ b.nx ≤ 127 ∧ b.h = b.nx) ∧ ns.any (·.c) = true ∧ (∀ m ∈ ns, m.c = true → m.x = 255) ∧ gs.length ≤ used ns ∧ b.k ≤ 136 * gs.length + 133
  | .k => (b.ak = b.now ∧ b.nx = f0 + gs.length ∧ b.nx ≤ 127 ∧ b.h = b.nx) ∧ ns.any (·.c) = true ∧ gs.length + 1 ≤ used ns ∧ b.k ≤ 136 * gs.length + 134
  | .w => (b.kp = true ∧ b.ak = b.now ∧ b.nx = f0 + gs.length ∧ b.nx ≤ 127 ∧ b.h = b.nx) ∧ gs.length + 1 ≤ used ns ∧ b.k ≤ 136 * gs.length + 135
  | .d _ => b.h = topH f0 gs.length ∧ f0 + gs.length ≤ 128 ∧ gs.length ≤ used ns ∧ b.k ≤ 136 * gs.length + 135

theorem ok_x {m : ND} {a1 a2 a3 a4 fb fu : Int} (h : m.ok a1 a2 a3 a4 fb fu = true) : m.x = 255 := by
  unfold ND.ok hearOk at h
  simp only [Bool.and_eq_true, beq_iff_eq] at h
  exact h.1

/-- What a search becomes. -/
theorem told_go {s : SR} {y : Bool} (h : 0 ≤ s.p ∧ s.p ≤ 3 ∧ -1 ≤ s.b ∧ s.b ≤ 32 ∧ (s.b = 32 → s.p = 0) ∧ s.o = false ∧ s.f = false)
    (h1 : y = true → ¬ (s.p = 3 ∧ s.b = -1)) (h2 : y = false → s.b ≠ -1 ∧ s.b ≠ 32) :
    HT (s.told y) ∧ ((s.told y).b = 32 → (s.told y).p = 0) ∧ 33 * (s.told y).p + 32 - (s.told y).b = 33 * s.p + 32 - s.b + 1 := by
  obtain ⟨p0, p3, b1, b2, b3, _, _⟩ := h
  cases y with
  | true =>
    have h1 := h1 rfl
    have eP : (s.told true).p = if s.b = -1 then s.p + 1 else s.p := by simp [SR.told, toldP]
    have eB : (s.told true).b = if s.b = -1 then 31 else s.b - 1 := by simp [SR.told, toldB]
    have eF : (s.told true).f = false := by
      simp only [SR.told, toldF, Bool.true_and, Bool.and_eq_false_iff, decide_eq_false_iff_not]
      by_cases hb : s.b = -1
      · right; intro hp; exact h1 ⟨hp, hb⟩
      · exact .inl hb
    have eO : (s.told true).o = false := by
      have : (s.told true).o = (s.told true).f := by simp [SR.told, toldO]
      rw [this, eF]
    by_cases hb : s.b = -1
    · rw [if_pos hb] at eP eB
      refine ⟨⟨eF, eO, by omega, ?_, by omega, by omega⟩, by omega, by omega⟩
      have : s.p ≠ 3 := fun hp => h1 ⟨hp, hb⟩
      omega
    · rw [if_neg hb] at eP eB
      exact ⟨⟨eF, eO, by omega, by omega, by omega, by omega⟩, by omega, by omega⟩
  | false =>
    obtain ⟨q1, q2⟩ := h2 rfl
    have eP : (s.told false).p = s.p := by simp [SR.told, toldP]
    have eB : (s.told false).b = s.b - 1 := by simp [SR.told, toldB, q1, q2]
    have eF : (s.told false).f = false := by simp [SR.told, toldF]
    have eO : (s.told false).o = false := by simp [SR.told, toldO, toldF, q1, q2]
    exact ⟨⟨eF, eO, by omega, by omega, by omega, by omega⟩, by omega, by omega⟩

theorem told_over {s : SR} (h : s.b = -1 ∨ s.b = 32) : (s.told false).f = false ∧ (s.told false).o = true := by
  constructor
  · simp [SR.told, toldF]
  · rcases h with h | h <;> simp [SR.told, toldO, toldF, h]

theorem bits_range {b : Int} : 0 ≤ bitsF b := by
  unfold bitsF
  split
  · omega
  · split
    · omega
    · rw [IntKind.wrap_u8]; omega

/-- Who is configured by a last step. -/
theorem hearC_iff {s : SR} (hp : 0 ≤ s.p ∧ s.p ≤ 3) : hearC (bitsF s.b) s.p (nextF s.p s.b) = (decide (s.p = 3) && decide (s.b = -1)) := by
  unfold hearC
  by_cases h3 : s.p = 3
  · by_cases hb : s.b = -1
    · simp [h3, hb, bitsF, nextF]
    · have : nextF s.p s.b = 3 := by simp [nextF, hb, h3]
      simp [h3, hb, nextF]
  · simp [h3]

theorem runB_eq (b : BS) (ph : PH) (s : SR) (ns : List ND) (gs : List GV) (orc : List Bool) :
    runB b ph s ns gs orc = (fast Tryz.prog kG 10000).1 (cC Tryz.prog mB) ⟨mkF (head b ph s ns gs).tms, []⟩ ⟨(head b ph s ns gs).heap, pZ, orc, True⟩ := by kernel_rfl

theorem dMB : dOk 216 mB = true := by kernel_rfl

def cnt (act : Act) (_ : World) : Nat := match act.tmps.getD 16 undef with
  | .int _ i => (2000 - i).toNat
  | _ => 0

theorem cnt_eq {ρ : Env} {b : BS} {ph : PH} {s : SR} {ns : List ND} {gs : List GV} {act : Act} (w : World) (hf : FR ρ 216 ⟨mkF (head b ph s ns gs).tms, []⟩ act) : cnt act w = (2000 - b.k).toNat := by
  have := hf.tm 16 (.sint .i64 b.k) (by kernel_rfl)
  simp only [rel_sint] at this
  simp only [cnt, this]

theorem loop_ok {W : World} {f0 g0 : Int} {n : Nat} (hn : n ≤ 3) {ρ : Env} {a : Act} {w : World} {b : BS} {ph : PH} {s : SR} {ns : List ND} {gs : List GV}
    (g : Got W ρ ⟨(head b ph s ns gs).heap, pZ, [], True⟩ w) (hf : FR ρ 216 ⟨mkF (head b ph s ns gs).tms, []⟩ a) (hc : Com f0 g0 n b ns gs) (hp : Ph f0 b s ns gs ph) {Q : Exit → Act → World → Prop}
    (k : ∀ ρ' a' w' b e s gs, Got W ρ' ⟨(fin b e s gs).heap, pZ, [], True⟩ w' → FR ρ' 216 ⟨mkF (fin b e s gs).tms, []⟩ a' → b.f = f0 → b.g = g0 → 0 ≤ b.now → b.now ≤ 30000 → Gv f0 gs → gs.length ≤ 3 →
      b.h = topH f0 gs.length → f0 + gs.length ≤ 128 → Q (.exit 2) a' w') : (Code.loop mB).wp Tryz.prog Q a w := by
  refine wp_loop (fun act w => ∃ ρ b ph s ns gs, Got W ρ ⟨(head b ph s ns gs).heap, pZ, [], True⟩ w ∧ FR ρ 216 ⟨mkF (head b ph s ns gs).tms, []⟩ act ∧ Com f0 g0 n b ns gs ∧ Ph f0 b s ns gs ph) cnt
    ⟨ρ, b, ph, s, ns, gs, g, hf, hc, hp⟩ ?_
  clear g hf hc hp
  rintro act w ⟨ρ, b, ph, s, ns, gs, g, hf, hc, hp⟩
  have hul := used_le ns
  have hnl := hc.n
  have hk0 := hc.k0
  have hnow := hc.now
  have hf1 := hc.f1
  have next : ∀ b' ph' s' ns' gs' orc, Holds (fitOA (head b' ph' s' ns' gs') none (runB b ph s ns gs orc)) → Com f0 g0 n b' ns' gs' → Ph f0 b' s' ns' gs' ph' → b'.k = b.k + 1 → b.k < 2000 →
      mB.wp Tryz.prog (Exit.then (fun a' w' => (∃ ρ b ph s ns gs, Got W ρ ⟨(head b ph s ns gs).heap, pZ, [], True⟩ w' ∧ FR ρ 216 ⟨mkF (head b ph s ns gs).tms, []⟩ a' ∧ Com f0 g0 n b ns gs ∧ Ph f0 b s ns gs ph) ∧ cnt a' w' < cnt act w) Q) act w := by
    intro b' ph' s' ns' gs' orc hh hc' hp' hk hlt
    refine code_fitH (n := 10000) (x := none) hK mixed dMB (hh.cast (congrArg (fitOA (head b' ph' s' ns' gs') none) (runB_eq b ph s ns gs orc))) g.notes hf fun ρ1 a1 w1 o1 g1 f1 => ?_
    refine ⟨⟨ρ1, b', ph', s', ns', gs', g1.notes, f1, hc', hp'⟩, ?_⟩
    rw [cnt_eq w1 f1, cnt_eq w hf, hk]
    omega
  cases ph with
  | s a1 a2 a3 a4 fb fu ft =>
    obtain ⟨⟨e1, e2, e3, e4, e5⟩, hcs, hs, hu, hk⟩ := hp
    have hs' := hs
    obtain ⟨p0, p3, b1, b2, b3, so, sf⟩ := hs'
    have efb : fb = bitsF s.b := by simp only [SR.ask, PH.s.injEq] at e1; exact e1.2.2.2.2.1.symm
    have efu : fu = s.p := by simp only [SR.ask, PH.s.injEq] at e1; exact e1.2.2.2.2.2.1.symm
    have eft : ft = nextF s.p s.b := by simp only [SR.ask, PH.s.injEq] at e1; exact e1.2.2.2.2.2.2.symm
    have H : HB b := ⟨by omega, by omega, by omega, by omega, e2⟩
    have h : HS s fb fu := ⟨by omega, by omega, by rw [efb]; exact bits_range, p0, p3, b1, b2, so, sf⟩
    have hx : anyOk ns a1 a2 a3 a4 fb fu = true → gs.length < ns.length := by
      intro hy
      unfold anyOk at hy
      rw [List.any_eq_true] at hy
      obtain ⟨m, hm, hok⟩ := hy
      have := used_lt hm (ok_x hok)
      omega
    obtain ⟨q1, q2, q3⟩ := rS b s ns gs a1 a2 a3 a4 fb fu ft H h hcs hx (by omega) (by omega)
    have hlen : (hearsL ns a1 a2 a3 a4 fb fu ft).length = n := by simp [hearsL, hnl]
    have hused : used (hearsL ns a1 a2 a3 a4 fb fu ft) = used ns := used_map _ (fun m => hears_x m _ _ _ _) ns
    have hC : hearC fb fu ft = (decide (s.p = 3) && decide (s.b = -1)) := by rw [efb, efu, eft]; exact hearC_iff ⟨p0, p3⟩
    have goOn : ∀ y, anyOk ns a1 a2 a3 a4 fb fu = y → (y = true → ¬ (s.p = 3 ∧ s.b = -1)) → (y = false → s.b ≠ -1 ∧ s.b ≠ 32) →
        mB.wp Tryz.prog (Exit.then (fun a' w' => (∃ ρ b ph s ns gs, Got W ρ ⟨(head b ph s ns gs).heap, pZ, [], True⟩ w' ∧ FR ρ 216 ⟨mkF (head b ph s ns gs).tms, []⟩ a' ∧ Com f0 g0 n b ns gs ∧ Ph f0 b s ns gs ph) ∧ cnt a' w' < cnt act w) Q) act w := by
      intro y hy h1 h2
      obtain ⟨t, t1, t2⟩ := told_go (y := y) hs h1 h2
      rw [hy] at q1
      obtain ⟨orc, hh⟩ := q1 t
      refine next _ _ _ _ _ orc hh ⟨hc.f, hc.g, ?_, ?_, hlen, hc.gv, hf1⟩ ?_ rfl (by omega)
      · show b.now + 10 = 10 * (b.k + 1); omega
      · show 0 ≤ b.k + 1; omega
      · refine ⟨⟨rfl, rfl, e3, e4, e5⟩, ?_, ⟨t.p0, t.p3, t.b1, t.b32, t1, t.o, t.f⟩, by omega, ?_⟩
        · intro m hm
          simp only [hearsL, List.mem_map] at hm
          obtain ⟨m', hm', rfl⟩ := hm
          cases hok : m'.ok a1 a2 a3 a4 fb fu with
          | false => rfl
          | true =>
            show hearC fb fu ft = false
            rw [hC]
            have hyt : y = true := by
              rw [← hy]; unfold anyOk; rw [List.any_eq_true]; exact ⟨m', hm', hok⟩
            have := h1 hyt
            simp only [Bool.and_eq_false_iff, decide_eq_false_iff_not]
            by_cases hp : s.p = 3
            · right; exact fun hb => this ⟨hp, hb⟩
            · exact .inl hp
        · show b.k + 1 ≤ _; omega
    cases hy : anyOk ns a1 a2 a3 a4 fb fu with
    | true =>
      by_cases hfnd : s.p = 3 ∧ s.b = -1
      · obtain ⟨orc, hh⟩ := q2 hy (by simp [SR.told, toldF, hfnd])
        refine next _ _ _ _ _ orc hh ⟨hc.f, hc.g, ?_, ?_, hlen, hc.gv, hf1⟩ ?_ rfl (by omega)
        · show b.now + 10 = 10 * (b.k + 1); omega
        · show 0 ≤ b.k + 1; omega
        · have hCt : hearC fb fu ft = true := by rw [hC]; simp [hfnd]
          refine ⟨⟨rfl, rfl, e3, e4, rfl⟩, ?_, ?_, by omega, ?_⟩
          · unfold anyOk at hy
            rw [List.any_eq_true] at hy ⊢
            obtain ⟨m, hm, hok⟩ := hy
            refine ⟨m.hears (m.ok a1 a2 a3 a4 fb fu) fb fu ft, by simp only [hearsL, List.mem_map]; exact ⟨m, hm, rfl⟩, ?_⟩
            rw [hok]; exact hCt
          · intro m hm hmc
            simp only [hearsL, List.mem_map] at hm
            obtain ⟨m', hm', rfl⟩ := hm
            cases hok : m'.ok a1 a2 a3 a4 fb fu with
            | false => rw [hok] at hmc; cases hmc
            | true => rw [hears_x]; exact ok_x hok
          · show b.k + 1 ≤ _; omega
      · exact goOn true hy (fun _ => hfnd) (fun q => by cases q)
    | false =>
      by_cases hov : s.b = -1 ∨ s.b = 32
      · obtain ⟨t1, t2⟩ := told_over hov
        obtain ⟨e, orc, hh⟩ := q3 hy t1 t2
        refine next _ _ _ _ _ orc hh ⟨hc.f, hc.g, ?_, ?_, hlen, hc.gv, hf1⟩ ?_ rfl (by omega)
        · show b.now + 10 = 10 * (b.k + 1); omega
        · show 0 ≤ b.k + 1; omega
        · refine ⟨e5, by omega, by omega, ?_⟩
          show b.k + 1 ≤ _; omega
      · exact goOn false hy (fun q => by cases q) (fun _ => ⟨fun q => hov (.inl q), fun q => hov (.inr q)⟩)
  | a u =>
    obtain ⟨⟨e1, e2, e3, e4, e5⟩, hany, hx, hu, hk⟩ := hp
    have H : HB b := ⟨by omega, by omega, by omega, by omega, e2⟩
    have hlt : gs.length < ns.length := by
      have hany' := hany
      rw [List.any_eq_true] at hany'
      obtain ⟨m, hm, hmc⟩ := hany'
      have := used_lt hm (hx m hm hmc)
      omega
    obtain ⟨orc, hh⟩ := rA b s ns gs u H (by omega) (by omega) hany (by omega) hlt
    have hset := (used_set (u := u) (by omega) hx).2 hany
    refine next _ _ _ _ _ orc hh ⟨hc.f, hc.g, ?_, ?_, by simp [setL, hnl], hc.gv, hf1⟩ ?_ rfl (by omega)
    · show b.now + 10 = 10 * (b.k + 1); omega
    · show 0 ≤ b.k + 1; omega
    · refine ⟨⟨rfl, e3, e4, e5⟩, ?_, by omega, ?_⟩
      · rw [List.any_eq_true] at hany ⊢
        obtain ⟨m, hm, hmc⟩ := hany
        refine ⟨m.set u m.c, by simp only [setL, List.mem_map]; exact ⟨m, hm, rfl⟩, ?_⟩
        rw [hmc]; rfl
      · show b.k + 1 ≤ _; omega
  | k =>
    obtain ⟨⟨e2, e3, e4, e5⟩, hany, hu, hk⟩ := hp
    have H : HB b := ⟨by omega, by omega, by omega, by omega, e2⟩
    obtain ⟨orc, hh⟩ := rK b s ns gs H hany (by omega) (by omega)
    refine next _ _ _ _ _ orc hh ⟨hc.f, hc.g, ?_, ?_, hnl, hc.gv, hf1⟩ ?_ rfl (by omega)
    · show b.now + 10 = 10 * (b.k + 1); omega
    · show 0 ≤ b.k + 1; omega
    · refine ⟨⟨rfl, rfl, e3, e4, e5⟩, hu, ?_⟩
      show b.k + 1 ≤ _; omega
  | w =>
    obtain ⟨⟨e1, e2, e3, e4, e5⟩, hu, hk⟩ := hp
    have H : HB b := ⟨by omega, by omega, by omega, by omega, e2⟩
    obtain ⟨q1, q2⟩ := rW b s ns gs H (by omega) (by omega)
    have hgv : Gv f0 (gs ++ [gvOf b s]) := hc.gv.snoc e3 e1
    have hgl : (gs ++ [gvOf b s]).length = gs.length + 1 := by simp
    have hused : used (ns.map ND.off) = used ns := used_map ND.off (fun _ => rfl) ns
    have htop : b.h = topH f0 (gs ++ [gvOf b s]).length := by
      rw [hgl]; unfold topH; rw [if_neg (by omega), e5, e3]; push_cast; omega
    by_cases h127 : b.nx = 127
    · obtain ⟨orc, hh⟩ := q2 h127
      refine next _ _ _ _ _ orc hh ⟨hc.f, hc.g, ?_, ?_, by simp [hnl], hgv, hf1⟩ ?_ rfl (by omega)
      · show b.now + 10 = 10 * (b.k + 1); omega
      · show 0 ≤ b.k + 1; omega
      · refine ⟨htop, by rw [hgl]; push_cast; omega, by rw [hgl]; omega, ?_⟩
        show b.k + 1 ≤ _
        rw [hgl]; push_cast; omega
    · obtain ⟨orc, hh⟩ := q1 ⟨by omega, by omega⟩
      refine next _ _ _ _ _ orc hh ⟨hc.f, hc.g, ?_, ?_, by simp [hnl], hgv, hf1⟩ ?_ rfl (by omega)
      · show b.now + 10 = 10 * (b.k + 1); omega
      · show 0 ≤ b.k + 1; omega
      · refine ⟨⟨rfl, rfl, ?_, ?_, htop⟩, ?_, ⟨by decide, by decide, by decide, by decide, fun _ => rfl, rfl, rfl⟩, by rw [hgl]; omega, ?_⟩
        · show b.nx + 1 = _; rw [hgl]; push_cast; omega
        · show b.nx + 1 ≤ 127; omega
        · intro m hm
          simp only [List.mem_map] at hm
          obtain ⟨m', _, rfl⟩ := hm
          rfl
        · show b.k + 1 ≤ 136 * ((gs ++ [gvOf b s]).length : Int) + 33 * 0 + 32 - 32
          rw [hgl]; push_cast; omega
  | d e =>
    obtain ⟨e1, e2, hu, hk⟩ := hp
    obtain ⟨orc, hh⟩ := rD b s ns gs e (decide_eq_true (by omega)) (by omega) (by omega)
    refine code_fitH (n := 10000) (x := some 2) hK mixed dMB (hh.cast (congrArg (fitOA (fin b e s gs) (some 2)) (runB_eq b (.d e) s ns gs orc))) g.notes hf fun ρ1 a1 w1 o1 g1 f1 => ?_
    exact k ρ1 a1 w1 b e s gs g1.notes f1 hc.f hc.g (by omega) (by omega) hc.gv (by omega) e1 e2
end Go.Proofs.YtpdgklkcjegkfaaGreat
