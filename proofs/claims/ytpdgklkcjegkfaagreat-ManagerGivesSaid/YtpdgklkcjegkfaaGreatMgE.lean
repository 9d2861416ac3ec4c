/-
  ManagerGives: the contracts.
-/
import Derived.Test.YtpdgklkcjegkfaaGreatMgC
set_option linter.unusedSimpArgs false
set_option linter.unusedVariables false
namespace Go.Proofs.YtpdgklkcjegkfaaGreat
open Go Go.Sx

theorem noKt : CallOK Tryz.prog fun g args s => ((noK : FuncId → List AV → AS → Option CR) g args s).getD .fail := noK_ok

/-- A list of truths. -/
def allT : List Prop → Prop
  | [] => True
  | p :: ps => p ∧ allT ps

theorem allT_mem : ∀ {l : List Prop}, allT l → ∀ p ∈ l, p := by
  intro l
  induction l with
  | nil => intro _ p hp; simp at hp
  | cons a l ih =>
    rintro ⟨h1, h2⟩ p hp
    simp only [List.mem_cons] at hp
    rcases hp with rfl | hp
    · exact h1
    · exact ih h2 p hp

set_option maxRecDepth 100000 in
theorem askW {i0 i1 i2 i3 p b : Int} (h : 0 ≤ p ∧ p ≤ 3 ∧ -1 ≤ b ∧ b ≤ 32) :
    OneW Tryz.prog 163 (srch i0 i1 i2 i3 (.sint .i64 p) (.sint .i64 b)) [] (askV i0 i1 i2 i3 p b) (srch i0 i1 i2 i3 (.sint .i64 p) (.sint .i64 b)) := by
  have key : ∀ q : Int, (∀ v cs, OneW Tryz.prog 163 (srch i0 i1 i2 i3 (.int .i64 q) (.sint .i64 b)) [] v cs → OneW Tryz.prog 163 (srch i0 i1 i2 i3 (.sint .i64 q) (.sint .i64 b)) [] v cs) :=
    fun q v cs h => h.sim (ps := [i0 = i0, i1 = i1, i2 = i2, i3 = i3, q = q, b = b]) (qs := []) rfl rfl (allT_mem ⟨rfl, rfl, rfl, rfl, rfl, rfl, trivial⟩) (allT_mem trivial)
  obtain ⟨h1, h2, h3, h4⟩ := h
  have hp : p = 0 ∨ p = 1 ∨ p = 2 ∨ p = 3 := by omega
  by_cases hb : b = 32
  · subst hb
    rcases hp with rfl | rfl | rfl | rfl
    · exact key _ _ _ (one_ok noKt mixed (g_Ask0f i0 i1 i2 i3) rfl rfl)
    · exact key _ _ _ (one_ok noKt mixed (g_Ask1f i0 i1 i2 i3) rfl rfl)
    · exact key _ _ _ (one_ok noKt mixed (g_Ask2f i0 i1 i2 i3) rfl rfl)
    · exact key _ _ _ (one_ok noKt mixed (g_Ask3f i0 i1 i2 i3) rfl rfl)
  · by_cases hl : b = -1
    · subst hl
      rcases hp with rfl | rfl | rfl | rfl
      · exact key _ _ _ (one_ok noKt mixed (g_Ask0l i0 i1 i2 i3) rfl rfl)
      · exact key _ _ _ (one_ok noKt mixed (g_Ask1l i0 i1 i2 i3) rfl rfl)
      · exact key _ _ _ (one_ok noKt mixed (g_Ask2l i0 i1 i2 i3) rfl rfl)
      · exact key _ _ _ (one_ok noKt mixed (g_Ask3l i0 i1 i2 i3) rfl rfl)
    · rcases hp with rfl | rfl | rfl | rfl
      · exact key _ _ _ (one_ok noKt mixed (g_Ask0m i0 i1 i2 i3 b hb hl) rfl rfl)
      · exact key _ _ _ (one_ok noKt mixed (g_Ask1m i0 i1 i2 i3 b hb hl) rfl rfl)
      · exact key _ _ _ (one_ok noKt mixed (g_Ask2m i0 i1 i2 i3 b hb hl) rfl rfl)
      · exact key _ _ _ (one_ok noKt mixed (g_Ask3m i0 i1 i2 i3 b hb hl) rfl rfl)

/-- What a search is behind an answer. -/
def toldP (y : Bool) (p b : Int) : Int := if y = true ∧ b = -1 then p + 1 else p
def toldB (y : Bool) (b : Int) : Int := if y = true then (if b = -1 then 31 else b - 1) else (if b = -1 ∨ b = 32 then b else b - 1)
def toldI (y : Bool) (p b : Int) (k i : Int) : Int := if y = false ∧ p = k ∧ b ≠ -1 ∧ b ≠ 32 then setB i b else i
def toldF (y : Bool) (p b : Int) : Bool := y && decide (b = -1) && decide (p = 3)
def toldO (y : Bool) (p b : Int) : Bool := toldF y p b || (!y && (decide (b = -1) || decide (b = 32)))
def toldC (y : Bool) (i0 i1 i2 i3 p b : Int) : List AV := srchT (toldI y p b 0 i0) (toldI y p b 1 i1) (toldI y p b 2 i2) (toldI y p b 3 i3) (toldP y p b) (toldB y b) (toldO y p b) (toldF y p b)

set_option maxRecDepth 100000 in
theorem toldW {i0 i1 i2 i3 p b : Int} {y : Bool} (h : 0 ≤ p ∧ p ≤ 3 ∧ -1 ≤ b ∧ b ≤ 32) :
    OneW Tryz.prog 214 (srch i0 i1 i2 i3 (.sint .i64 p) (.sint .i64 b)) [.bool y] e0 (toldC y i0 i1 i2 i3 p b) := by
  have key : ∀ q : Int, (∀ xs v cs, OneW Tryz.prog 214 (srch i0 i1 i2 i3 (.int .i64 q) (.sint .i64 b)) [.bool xs] v cs → OneW Tryz.prog 214 (srch i0 i1 i2 i3 (.sint .i64 q) (.sint .i64 b)) [.bool xs] v cs) :=
    fun q xs v cs h => h.sim (ps := [i0 = i0, i1 = i1, i2 = i2, i3 = i3, q = q, b = b]) (qs := []) rfl (by cases xs <;> rfl) (allT_mem ⟨rfl, rfl, rfl, rfl, rfl, rfl, trivial⟩) (allT_mem trivial)
  obtain ⟨h1, h2, h3, h4⟩ := h
  cases y with
  | true =>
    by_cases hl : b = -1
    · subst hl
      by_cases hp : p = 3
      · subst hp
        have := one_ok noKt mixed (g_Yes2 i0 i1 i2 i3) rfl rfl
        simpa [toldC, toldI, toldP, toldB, toldO, toldF] using this
      · have := one_ok noKt mixed (g_Yes1 i0 i1 i2 i3 p h1 (by omega)) rfl rfl
        simpa [toldC, toldI, toldP, toldB, toldO, toldF, hp] using this
    · have := one_ok noKt mixed (g_Yes0 i0 i1 i2 i3 p b (by omega) h4 h2) rfl rfl
      simpa [toldC, toldI, toldP, toldB, toldO, toldF, hl] using this
  | false =>
    by_cases hl : b = -1
    · subst hl
      have := one_ok noKt mixed (g_No0 i0 i1 i2 i3 p) rfl rfl
      simpa [toldC, toldI, toldP, toldB, toldO, toldF] using this
    · by_cases hb : b = 32
      · subst hb
        have := one_ok noKt mixed (g_No1 i0 i1 i2 i3 p) rfl rfl
        simpa [toldC, toldI, toldP, toldB, toldO, toldF] using this
      · have hp : p = 0 ∨ p = 1 ∨ p = 2 ∨ p = 3 := by omega
        rcases hp with rfl | rfl | rfl | rfl
        · have := key _ _ _ _ (one_ok noKt mixed (g_NoC0 i0 i1 i2 i3 b (by omega) (by omega)) rfl rfl)
          simpa [toldC, toldI, toldP, toldB, toldO, toldF, hl, hb] using this
        · have := key _ _ _ _ (one_ok noKt mixed (g_NoC1 i0 i1 i2 i3 b (by omega) (by omega)) rfl rfl)
          simpa [toldC, toldI, toldP, toldB, toldO, toldF, hl, hb] using this
        · have := key _ _ _ _ (one_ok noKt mixed (g_NoC2 i0 i1 i2 i3 b (by omega) (by omega)) rfl rfl)
          simpa [toldC, toldI, toldP, toldB, toldO, toldF, hl, hb] using this
        · have := key _ _ _ _ (one_ok noKt mixed (g_NoC3 i0 i1 i2 i3 b (by omega) (by omega)) rfl rfl)
          simpa [toldC, toldI, toldP, toldB, toldO, toldF, hl, hb] using this

/-- What is asked of a node in a search. -/
def askF (a1 a2 a3 a4 b u t : Int) : AV := frm 2021 8 81 [.sint .u8 a1, .sint .u8 a2, .sint .u8 a3, .sint .u8 a4, .sint .u8 b, .sint .u8 u, .sint .u8 t]
def hearP (pl b t : Int) : Int := if b = 128 then 0 else if b = 0 then t else pl
def hearC (b u t : Int) : Bool := b == 0 && u == 3 && t == 0

set_option maxRecDepth 100000 in
theorem hearW {i0 i1 i2 i3 x pl a1 a2 a3 a4 b u t : Int} {c d : Bool} (h : c = false ∧ 0 ≤ u ∧ u ≤ 3 ∧ 0 ≤ b ∧ hearOk i0 i1 i2 i3 x pl a1 a2 a3 a4 b u = d) :
    OneW Tryz.prog 20 (nodeC i0 i1 i2 i3 x (.sbool c) pl (.bool false)) [askF a1 a2 a3 a4 b u t] (if d then foundV else noV)
      (if d then nodeC i0 i1 i2 i3 x (.sbool (hearC b u t)) (hearP pl b t) (.bool false) else nodeC i0 i1 i2 i3 x (.sbool false) pl (.bool false)) := by
  obtain ⟨rfl, hu1, hu2, hb, hd⟩ := h
  have key : ∀ v cs, OneW Tryz.prog 20 (nodeC i0 i1 i2 i3 x (.bool false) pl (.bool false)) [askF a1 a2 a3 a4 b u t] v cs → OneW Tryz.prog 20 (nodeC i0 i1 i2 i3 x (.sbool false) pl (.bool false)) [askF a1 a2 a3 a4 b u t] v cs :=
    fun v cs h => h.sim (ps := [i0 = i0, i1 = i1, i2 = i2, i3 = i3, x = x, false = false, pl = pl]) (qs := [a1 = a1, a2 = a2, a3 = a3, a4 = a4, b = b, u = u, t = t]) rfl rfl
      (allT_mem ⟨rfl, rfl, rfl, rfl, rfl, rfl, rfl, trivial⟩) (allT_mem ⟨rfl, rfl, rfl, rfl, rfl, rfl, rfl, trivial⟩)
  have key2 : ∀ u : Int, ∀ v cs, OneW Tryz.prog 20 (nodeC i0 i1 i2 i3 x (.bool false) pl (.bool false)) [frm 2021 8 81 [.sint .u8 a1, .sint .u8 a2, .sint .u8 a3, .sint .u8 a4, .sint .u8 b, .int .u8 u, .sint .u8 t]] v cs →
      OneW Tryz.prog 20 (nodeC i0 i1 i2 i3 x (.sbool false) pl (.bool false)) [askF a1 a2 a3 a4 b u t] v cs :=
    fun u v cs h => h.sim (ps := [i0 = i0, i1 = i1, i2 = i2, i3 = i3, x = x, false = false, pl = pl]) (qs := [a1 = a1, a2 = a2, a3 = a3, a4 = a4, b = b, u = u, t = t]) rfl rfl
      (allT_mem ⟨rfl, rfl, rfl, rfl, rfl, rfl, rfl, trivial⟩) (allT_mem ⟨rfl, rfl, rfl, rfl, rfl, rfl, rfl, trivial⟩)
  by_cases hx : x = 255
  · subst hx
    by_cases hb1 : b = 128
    · subst hb1
      have : d = true := by rw [← hd]; simp [hearOk]
      subst this
      have := key _ _ (one_ok noKt mixed (g_HB i0 i1 i2 i3 a1 a2 a3 a4 u t pl) rfl rfl)
      simpa [hearC, hearP] using this
    · by_cases hb2 : b > 31
      · have : d = false := by
          rw [← hd]; simp [hearOk, hb1]
          intro h; omega
        subst this
        have := key _ _ (one_ok noKt mixed (g_HC1 i0 i1 i2 i3 a1 a2 a3 a4 u t pl b hb1 hb2) rfl rfl)
        simpa using this
      · by_cases hup : u = pl
        · subst hup
          have hsel : ∀ k : Int, selI i0 i1 i2 i3 k = if k = 0 then i0 else if k = 1 then i1 else if k = 2 then i2 else i3 := fun k => rfl
          have fin : ∀ (i : Int), selI i0 i1 i2 i3 u = i → 
              ((xorT a1 a2 a3 a4 i b != 0) = true → OneW Tryz.prog 20 (nodeC i0 i1 i2 i3 255 (.sbool false) u (.bool false)) [askF a1 a2 a3 a4 b u t] noV (nodeC i0 i1 i2 i3 255 (.sbool false) u (.bool false))) →
              ((xorT a1 a2 a3 a4 i b != 0) = false → b ≠ 0 → OneW Tryz.prog 20 (nodeC i0 i1 i2 i3 255 (.sbool false) u (.bool false)) [askF a1 a2 a3 a4 b u t] foundV (nodeC i0 i1 i2 i3 255 (.sbool false) u (.bool false))) →
              ((xorT a1 a2 a3 a4 i b != 0) = false → b = 0 → OneW Tryz.prog 20 (nodeC i0 i1 i2 i3 255 (.sbool false) u (.bool false)) [askF a1 a2 a3 a4 b u t] foundV (nodeC i0 i1 i2 i3 255 (.sbool (u == 3 && t == 0)) t (.bool false))) →
              OneW Tryz.prog 20 (nodeC i0 i1 i2 i3 255 (.sbool false) u (.bool false)) [askF a1 a2 a3 a4 b u t] (if d then foundV else noV)
                (if d then nodeC i0 i1 i2 i3 255 (.sbool (hearC b u t)) (hearP u b t) (.bool false) else nodeC i0 i1 i2 i3 255 (.sbool false) u (.bool false)) := by
            intro i hi k1 k2 k3
            cases hq : (xorT a1 a2 a3 a4 i b != 0) with
            | true =>
              have : d = false := by
                rw [← hd]; simp only [hearOk, hi, hq]; simp [hb1]
              subst this
              simpa using k1 hq
            | false =>
              have : d = true := by
                rw [← hd]; simp only [hearOk, hi, hq]; simp; omega
              subst this
              by_cases hb0 : b = 0
              · have := k3 hq hb0
                subst hb0
                simpa [hearC, hearP] using this
              · have := k2 hq hb0
                have e : hearC b u t = false := by simp [hearC, hb0]
                simpa [e, hearP, hb0, hb1] using this
          have hu : u = 0 ∨ u = 1 ∨ u = 2 ∨ u = 3 := by omega
          rcases hu with rfl | rfl | rfl | rfl
          · refine fin i0 rfl (fun h => ?_) (fun h h0 => ?_) (fun h h0 => ?_)
            · exact key2 0 _ _ (one_ok noKt mixed (g_HN0 i0 i1 i2 i3 a1 a2 a3 a4 t b hb (by omega) h) rfl rfl)
            · exact key2 0 _ _ (one_ok noKt mixed (g_HY0 i0 i1 i2 i3 a1 a2 a3 a4 t b hb (by omega) h h0) rfl rfl)
            · subst h0; exact key2 0 _ _ (one_ok noKt mixed (g_HZ0 i0 i1 i2 i3 a1 a2 a3 a4 t h) rfl rfl)
          · refine fin i1 rfl (fun h => ?_) (fun h h0 => ?_) (fun h h0 => ?_)
            · exact key2 1 _ _ (one_ok noKt mixed (g_HN1 i0 i1 i2 i3 a1 a2 a3 a4 t b hb (by omega) h) rfl rfl)
            · exact key2 1 _ _ (one_ok noKt mixed (g_HY1 i0 i1 i2 i3 a1 a2 a3 a4 t b hb (by omega) h h0) rfl rfl)
            · subst h0; exact key2 1 _ _ (one_ok noKt mixed (g_HZ1 i0 i1 i2 i3 a1 a2 a3 a4 t h) rfl rfl)
          · refine fin i2 rfl (fun h => ?_) (fun h h0 => ?_) (fun h h0 => ?_)
            · exact key2 2 _ _ (one_ok noKt mixed (g_HN2 i0 i1 i2 i3 a1 a2 a3 a4 t b hb (by omega) h) rfl rfl)
            · exact key2 2 _ _ (one_ok noKt mixed (g_HY2 i0 i1 i2 i3 a1 a2 a3 a4 t b hb (by omega) h h0) rfl rfl)
            · subst h0; exact key2 2 _ _ (one_ok noKt mixed (g_HZ2 i0 i1 i2 i3 a1 a2 a3 a4 t h) rfl rfl)
          · refine fin i3 rfl (fun h => ?_) (fun h h0 => ?_) (fun h h0 => ?_)
            · exact key2 3 _ _ (one_ok noKt mixed (g_HN3 i0 i1 i2 i3 a1 a2 a3 a4 t b hb (by omega) h) rfl rfl)
            · exact key2 3 _ _ (one_ok noKt mixed (g_HY3 i0 i1 i2 i3 a1 a2 a3 a4 t b hb (by omega) h h0) rfl rfl)
            · subst h0; exact key2 3 _ _ (one_ok noKt mixed (g_HZ3 i0 i1 i2 i3 a1 a2 a3 a4 t h) rfl rfl)
        · have : d = false := by
            rw [← hd]; simp [hearOk, hb1, hup]
          subst this
          have := key _ _ (one_ok noKt mixed (g_HC2 i0 i1 i2 i3 a1 a2 a3 a4 u t pl b (by omega) hup) rfl rfl)
          simpa using this
  · have : d = false := by
      rw [← hd]; simp [hearOk, hx]
    subst this
    have := key _ _ (one_ok noKt mixed (g_HA i0 i1 i2 i3 a1 a2 a3 a4 u t pl x b hx) rfl rfl)
    simpa using this
end Go.Proofs.YtpdgklkcjegkfaaGreat

namespace Go.Proofs.YtpdgklkcjegkfaaGreat
open Go Go.Sx

set_option maxRecDepth 100000 in
theorem setW {i0 i1 i2 i3 x pl u : Int} {c d : Bool} (h : c = d ∧ (d = true → 1 ≤ u ∧ u ≤ 127)) :
    OneW Tryz.prog 20 (nodeC i0 i1 i2 i3 x (.sbool c) pl (.bool false)) [frm 2021 8 17 [.sint .u8 u, z0, z0, z0, z0, z0, z0]] (if d then setV else noV)
      (if d then nodeC i0 i1 i2 i3 u (.sbool true) pl (.bool false) else nodeC i0 i1 i2 i3 x (.sbool false) pl (.bool false)) := by
  obtain ⟨rfl, h⟩ := h
  cases c with
  | true =>
    obtain ⟨h1, h2⟩ := h rfl
    have := one_ok noKt mixed (g_SetY i0 i1 i2 i3 x u pl h1 h2) rfl rfl
    simpa using this
  | false =>
    have := one_ok noKt mixed (g_SetN i0 i1 i2 i3 x u pl) rfl rfl
    simpa using this

theorem oneW_out {P : Program} {g : FuncId} {cs xs : List AV} {v : AV} {cs1 cs2 : List AV} (h : OneW P g cs xs v cs1) {ps : List Prop} (h1 : simL cs2 cs1 = some ps) (hp : ∀ p ∈ ps, p) : OneW P g cs xs v cs2 := by
  intro ρ l w rs ho hl hxs
  refine (h ρ l w rs ho hl hxs).mono ?_
  rintro e w' ⟨rv, rfl, hv, ⟨C, E, fr, L, b1, b2, b3, b4, b5, b6⟩, hr⟩
  exact ⟨rv, rfl, hv, ⟨C, E, fr, L, b1, b2, b3, (simL_sound _ _ _ _ h1 hp).2 b4, b5, b6⟩, hr⟩

set_option maxRecDepth 100000 in
theorem keepW {i0 i1 i2 i3 x pl : Int} {c d : Bool} (h : c = d) :
    OneW Tryz.prog 20 (nodeC i0 i1 i2 i3 x (.sbool c) pl (.bool false)) [frm 2021 8 23 [z0, z0, z0, z0, z0, z0, z0]] noV (nodeC i0 i1 i2 i3 x (.sbool c) pl (.bool d)) := by
  subst h
  cases c with
  | true =>
    exact oneW_out (one_ok noKt mixed (g_KeepY i0 i1 i2 i3 x pl) rfl rfl) (ps := [i0 = i0, i1 = i1, i2 = i2, i3 = i3, x = x, true = true, pl = pl, true = true]) rfl (allT_mem ⟨rfl, rfl, rfl, rfl, rfl, rfl, rfl, rfl, trivial⟩)
  | false =>
    exact oneW_out (one_ok noKt mixed (g_KeepN i0 i1 i2 i3 x pl) rfl rfl) (ps := [i0 = i0, i1 = i1, i2 = i2, i3 = i3, x = x, false = false, pl = pl, false = false]) rfl (allT_mem ⟨rfl, rfl, rfl, rfl, rfl, rfl, rfl, rfl, trivial⟩)

set_option maxRecDepth 100000 in
theorem swW {i0 i1 i2 i3 x pl : Int} {c : Bool} :
    OneW Tryz.prog 20 (nodeC i0 i1 i2 i3 x (.sbool c) pl (.bool false)) [frm 2021 8 4 [z0, z0, z0, z0, z0, z0, z0]] noV (nodeC i0 i1 i2 i3 x (.sbool false) pl (.bool false)) :=
  one_ok noKt mixed (g_Sw i0 i1 i2 i3 x pl c) rfl rfl

/-! ### For the executor -/

/-- A search's cells. -/
def rdS : List AV → Option (Int × Int × Int × Int × Int × Int × Bool × Bool)
  | [.sint .u32 i0, .sint .u32 i1, .sint .u32 i2, .sint .u32 i3, .sint .i64 p, .sint .i64 b, .sbool o, .sbool f] => some (i0, i1, i2, i3, p, b, o, f)
  | _ => none

theorem rdS_eq {cs : List AV} {i0 i1 i2 i3 p b : Int} {o f : Bool} (h : rdS cs = some (i0, i1, i2, i3, p, b, o, f)) : cs = srchT i0 i1 i2 i3 p b o f := by
  unfold rdS at h
  split at h
  · simp only [Option.some.injEq, Prod.mk.injEq] at h
    obtain ⟨rfl, rfl, rfl, rfl, rfl, rfl, rfl, rfl⟩ := h
    rfl
  · cases h

theorem srchT_sim {i0 i1 i2 i3 p b : Int} {o f : Bool} (ho : o = false) (hf : f = false) {g : FuncId} {xs : List AV} {v : AV} {cs : List AV}
    (h : OneW Tryz.prog g (srch i0 i1 i2 i3 (.sint .i64 p) (.sint .i64 b)) xs v cs) {qs : List Prop} (hq : simL xs xs = some qs) (hqs : ∀ q ∈ qs, q) : OneW Tryz.prog g (srchT i0 i1 i2 i3 p b o f) xs v cs := by
  refine h.sim (ps := [i0 = i0, i1 = i1, i2 = i2, i3 = i3, p = p, b = b, o = false, f = false]) (qs := qs) rfl hq (allT_mem ⟨rfl, rfl, rfl, rfl, rfl, rfl, ho, hf, trivial⟩) hqs

def askS (cs xs : List AV) (orc : List Bool) : Option One :=
  match rdS cs, xs with
  | some (i0, i1, i2, i3, p, b, o, f), [] => some ⟨askV i0 i1 i2 i3 p b, srch i0 i1 i2 i3 (.sint .i64 p) (.sint .i64 b), orc, 0 ≤ p ∧ p ≤ 3 ∧ -1 ≤ b ∧ b ≤ 32 ∧ o = false ∧ f = false⟩
  | _, _ => none

def toldS (cs xs : List AV) (orc : List Bool) : Option One :=
  match rdS cs, xs with
  | some (i0, i1, i2, i3, p, b, o, f), [.bool y] => some ⟨e0, toldC y i0 i1 i2 i3 p b, orc, 0 ≤ p ∧ p ≤ 3 ∧ -1 ≤ b ∧ b ≤ 32 ∧ o = false ∧ f = false⟩
  | _, _ => none

/-- A node's cells. -/
def rdN : List AV → Option (Int × Int × Int × Int × Int × Bool × Int)
  | [.sint .u32 i0, .sint .u32 i1, .sint .u32 i2, .sint .u32 i3, .int .u8 (.ofNat 255), .sint .u8 x, .int .u8 (.ofNat 0), .int .u8 (.ofNat 0), .sbool c, .int .u8 (.ofNat 0), .sint .u8 pl, .bool false] => some (i0, i1, i2, i3, x, c, pl)
  | _ => none

theorem rdN_eq {cs : List AV} {i0 i1 i2 i3 x pl : Int} {c : Bool} (h : rdN cs = some (i0, i1, i2, i3, x, c, pl)) : cs = nodeC i0 i1 i2 i3 x (.sbool c) pl (.bool false) := by
  unfold rdN at h
  split at h
  · simp only [Option.some.injEq, Prod.mk.injEq] at h
    obtain ⟨rfl, rfl, rfl, rfl, rfl, rfl, rfl⟩ := h
    rfl
  · cases h

inductive HK where
  | ask (a1 a2 a3 a4 b u t : Int)
  | set (u : Int)
  | keep
  | sw

def HK.frame : HK → AV
  | .ask a1 a2 a3 a4 b u t => askF a1 a2 a3 a4 b u t
  | .set u => frm 2021 8 17 [.sint .u8 u, z0, z0, z0, z0, z0, z0]
  | .keep => frm 2021 8 23 [z0, z0, z0, z0, z0, z0, z0]
  | .sw => frm 2021 8 4 [z0, z0, z0, z0, z0, z0, z0]

/-- What is asked. -/
def rdF : List AV → Option HK
  | [.agg [.int .u16 (.ofNat 2021), .int .i64 (.ofNat 8), .int .u8 (.ofNat 81), .sint .u8 a1, .sint .u8 a2, .sint .u8 a3, .sint .u8 a4, .sint .u8 b, .sint .u8 u, .sint .u8 t, .bool false]] => some (.ask a1 a2 a3 a4 b u t)
  | [.agg [.int .u16 (.ofNat 2021), .int .i64 (.ofNat 8), .int .u8 (.ofNat 17), .sint .u8 u, .int .u8 (.ofNat 0), .int .u8 (.ofNat 0), .int .u8 (.ofNat 0), .int .u8 (.ofNat 0), .int .u8 (.ofNat 0), .int .u8 (.ofNat 0), .bool false]] => some (.set u)
  | [.agg [.int .u16 (.ofNat 2021), .int .i64 (.ofNat 8), .int .u8 (.ofNat 23), .int .u8 (.ofNat 0), .int .u8 (.ofNat 0), .int .u8 (.ofNat 0), .int .u8 (.ofNat 0), .int .u8 (.ofNat 0), .int .u8 (.ofNat 0), .int .u8 (.ofNat 0), .bool false]] => some .keep
  | [.agg [.int .u16 (.ofNat 2021), .int .i64 (.ofNat 8), .int .u8 (.ofNat 4), .int .u8 (.ofNat 0), .int .u8 (.ofNat 0), .int .u8 (.ofNat 0), .int .u8 (.ofNat 0), .int .u8 (.ofNat 0), .int .u8 (.ofNat 0), .int .u8 (.ofNat 0), .bool false]] => some .sw
  | _ => none

theorem rdF_eq {xs : List AV} {h : HK} (e : rdF xs = some h) : xs = [h.frame] := by
  unfold rdF at e
  split at e
  all_goals first | (simp only [Option.some.injEq] at e; subst e; rfl) | cases e

def hearS (cs xs : List AV) (orc : List Bool) : Option One :=
  match rdN cs, rdF xs with
  | some (i0, i1, i2, i3, x, c, pl), some h => match h with
    | .ask a1 a2 a3 a4 b u t => match orc with
      | true :: r => some ⟨foundV, nodeC i0 i1 i2 i3 x (.sbool (hearC b u t)) (hearP pl b t) (.bool false), r, c = false ∧ 0 ≤ u ∧ u ≤ 3 ∧ 0 ≤ b ∧ hearOk i0 i1 i2 i3 x pl a1 a2 a3 a4 b u = true⟩
      | false :: r => some ⟨noV, nodeC i0 i1 i2 i3 x (.sbool false) pl (.bool false), r, c = false ∧ 0 ≤ u ∧ u ≤ 3 ∧ 0 ≤ b ∧ hearOk i0 i1 i2 i3 x pl a1 a2 a3 a4 b u = false⟩
      | [] => none
    | .set u => match orc with
      | true :: r => some ⟨setV, nodeC i0 i1 i2 i3 u (.sbool true) pl (.bool false), r, c = true ∧ 1 ≤ u ∧ u ≤ 127⟩
      | false :: r => some ⟨noV, nodeC i0 i1 i2 i3 x (.sbool false) pl (.bool false), r, c = false⟩
      | [] => none
    | .keep => match orc with
      | d :: r => some ⟨noV, nodeC i0 i1 i2 i3 x (.sbool c) pl (.bool d), r, c = d⟩
      | [] => none
    | .sw => some ⟨noV, nodeC i0 i1 i2 i3 x (.sbool false) pl (.bool false), orc, True⟩
  | _, _ => none

theorem askS_ok : ∀ cs xs orc r, askS cs xs orc = some r → r.q → OneW Tryz.prog 163 cs xs r.v r.cs := by
  intro cs xs orc r h hq
  unfold askS at h
  split at h
  · rename_i i0 i1 i2 i3 p b o f hr
    simp only [Option.some.injEq] at h
    subst h
    obtain ⟨h1, h2, h3, h4, h5, h6⟩ := hq
    rw [rdS_eq hr]
    exact srchT_sim h5 h6 (askW ⟨h1, h2, h3, h4⟩) (qs := []) rfl (allT_mem trivial)
  · cases h

theorem toldS_ok : ∀ cs xs orc r, toldS cs xs orc = some r → r.q → OneW Tryz.prog 214 cs xs r.v r.cs := by
  intro cs xs orc r h hq
  unfold toldS at h
  split at h
  · rename_i i0 i1 i2 i3 p b o f y hr
    simp only [Option.some.injEq] at h
    subst h
    obtain ⟨h1, h2, h3, h4, h5, h6⟩ := hq
    rw [rdS_eq hr]
    exact srchT_sim h5 h6 (toldW ⟨h1, h2, h3, h4⟩) (qs := []) (by cases y <;> rfl) (allT_mem trivial)
  · cases h

set_option maxRecDepth 100000 in
theorem hearS_ok : ∀ cs xs orc r, hearS cs xs orc = some r → r.q → OneW Tryz.prog 20 cs xs r.v r.cs := by
  intro cs xs orc r h hq
  unfold hearS at h
  split at h
  · rename_i i0 i1 i2 i3 x c pl k hn hf
    rw [rdN_eq hn, rdF_eq hf]
    split at h
    · rename_i a1 a2 a3 a4 b u t
      split at h
      · simp only [Option.some.injEq] at h
        subst h
        have := hearW (t := t) hq
        simpa [HK.frame] using this
      · simp only [Option.some.injEq] at h
        subst h
        have := hearW (t := t) hq
        simpa [HK.frame] using this
      · cases h
    · rename_i u
      split at h
      · simp only [Option.some.injEq] at h
        subst h
        have := setW (u := u) (i0 := i0) (i1 := i1) (i2 := i2) (i3 := i3) (x := x) (pl := pl) (d := true) ⟨hq.1, fun _ => hq.2⟩
        simpa [HK.frame] using this
      · simp only [Option.some.injEq] at h
        subst h
        have := setW (i0 := i0) (i1 := i1) (i2 := i2) (i3 := i3) (x := x) (pl := pl) (d := false) (u := u) ⟨hq, fun h => by cases h⟩
        simpa [HK.frame] using this
      · cases h
    · split at h
      · simp only [Option.some.injEq] at h
        subst h
        exact keepW hq
      · cases h
    · simp only [Option.some.injEq] at h
      subst h
      exact swW
  · cases h

noncomputable def kG : FuncId → List AV → AS → Option CR := orK (trueK 9) (orK (oneK 163 askS) (orK (oneK 214 toldS) (oneK 20 hearS)))

set_option maxRecDepth 100000 in
theorem works_true (w : World) : Calls Tryz.prog 9 #[] w fun e w' => e = .returned (.bool true) ∧ Still w w' := by
  refine closed_fast noKt mixed (n := 10000) (s0 := sE) ?_ w
  refine Eq.mpr ?_ (⟨trivial, rfl⟩ : True ∧ true = true)
  kernel_rfl

theorem hK : CallOK Tryz.prog fun g args s => (kG g args s).getD .fail :=
  orK_ok (trueK_ok works_true) (orK_ok (oneK_ok askS_ok) (orK_ok (oneK_ok toldS_ok) (oneK_ok hearS_ok)))
end Go.Proofs.YtpdgklkcjegkfaaGreat
