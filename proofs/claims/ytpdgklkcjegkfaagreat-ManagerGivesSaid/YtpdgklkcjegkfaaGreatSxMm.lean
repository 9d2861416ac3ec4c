/-
  A symbolic executor for the model's code, part Mm: maps, assertions, shifts by a symbolic number.
-/
import Derived.Test.YtpdgklkcjegkfaaGreatSxM
import Derived.MapKept
namespace Go.Sx
open Go

section
variable {P : Program} {ρ : Env} {s s' : AS} {w : World}

theorem bytes_list (a b : ByteArray) : (a == b) = (a.data.toList == b.data.toList) := by
  rw [Bool.eq_iff_iff, MapKept.bytes_beq]
  constructor
  · rintro rfl; simp
  · intro h
    have h : a.data.toList = b.data.toList := by simpa using h
    obtain ⟨x⟩ := a
    obtain ⟨y⟩ := b
    have : x = y := Array.ext' h
    rw [this]

theorem keyEq_now {kt : TypeId} {d : TypeDesc} {k k' : AV} {rk rk' : Value} {b : Bool} (hd : P.underlying kt = some d) (h : keyEq P kt k k' = some b) (h1 : rel ρ k rk) (h2 : rel ρ k' rk') :
    Instr.sameNow d rk rk' = some b := by
  unfold keyEq at h
  rw [hd] at h
  split at h
  · rename_i kd a n c m e
    injection e with e; subst e
    simp at h1 h2; subst h1 h2
    rw [cond_eq_ite] at h
    split at h
    · rename_i hab
      have hab := of_decide_eq_true hab
      simp only [Option.some.injEq] at h
      simp [Instr.sameNow, hab, h]
    · simp at h
  · rename_i a c e
    injection e with e; subst e
    simp at h1 h2; subst h1 h2
    simp only [Option.some.injEq] at h
    simp [Instr.sameNow, ← h, bytes_list]
  · simp at h

/-- Two keys that are one. -/
theorem keyEq_one {kt : TypeId} {k k' : AV} {rk rk' : Value} (h : keyEq P kt k k' = some true) (h1 : rel ρ k rk) (h2 : rel ρ k' rk') : rk' = rk := by
  unfold keyEq at h
  split at h
  · rename_i kd a n c m e
    simp at h1 h2; subst h1 h2
    rw [cond_eq_ite] at h
    split at h
    · rename_i hab
      have hab := of_decide_eq_true hab
      simp at h
      rw [hab, h]
    · simp at h
  · rename_i a c e
    simp at h1 h2; subst h1 h2
    simp only [Option.some.injEq] at h
    rw [← bytes_list, MapKept.bytes_beq] at h
    rw [h]
  · simp at h

theorem keyOk_is {kt : TypeId} {d : TypeDesc} {k : AV} {rk : Value} (hd : P.underlying kt = some d) (h : keyOk P kt k = true) (h1 : rel ρ k rk) : MapKept.IsKey d rk := by
  unfold keyOk at h
  rw [hd] at h
  split at h
  · rename_i kd a n e
    injection e with e; subst e
    simp at h1; subst h1
    have := of_decide_eq_true h
    subst this
    simp [MapKept.IsKey]
  · rename_i a e
    injection e with e; subst e
    simp at h1; subst h1
    simp [MapKept.IsKey]
  · simp at h

theorem find_now {kt : TypeId} {d : TypeDesc} {k : AV} {rk : Value} (hd : P.underlying kt = some d) (h1 : rel ρ k rk) : ∀ {es : List (AV × AV)} {r : Option AV} {M : List MapEntry} {n : Nat} (i : Nat), findA P kt k es = some r → entRel ρ es M n →
    (r = none ∧ Instr.findNow d rk M i = some none) ∨ ∃ y j e, r = some y ∧ Instr.findNow d rk M i = some (some (j, e)) ∧ rel ρ y e := by
  intro es
  induction es with
  | nil =>
    intro r M n i h he
    simp only [findA, Option.some.injEq] at h
    have he : M = [] := he
    subst he
    exact .inl ⟨h.symm, rfl⟩
  | cons x xs ih =>
    rintro r M n i h ⟨e, t, rfl, k1, k2, k3, k4⟩
    simp only [findA] at h
    split at h
    · rename_i hk
      simp only [Option.some.injEq] at h
      exact .inr ⟨x.2, i, e.val, h.symm, by simp [Instr.findNow, keyEq_now hd hk h1 k1], k2⟩
    · rename_i hk
      rcases ih (i + 1) h k4 with ⟨q1, q2⟩ | ⟨y, j, v, q1, q2, q3⟩
      · exact .inl ⟨q1, by simp [Instr.findNow, keyEq_now hd hk h1 k1, q2]⟩
      · exact .inr ⟨y, j, v, q1, by simp [Instr.findNow, keyEq_now hd hk h1 k1, q2], q3⟩
    · simp at h

theorem entRel_length : ∀ {es : List (AV × AV)} {M : List MapEntry} {n : Nat}, entRel ρ es M n → es.length = M.length := by
  intro es
  induction es with
  | nil => intro M n h; have h : M = [] := h; subst h; rfl
  | cons x xs ih => rintro M n ⟨e, t, rfl, _, _, _, h⟩; simp [ih h]

theorem put_now {kt : TypeId} {d : TypeDesc} {k v : AV} {rk rv : Value} (hd : P.underlying kt = some d) (h1 : rel ρ k rk) (hv : rel ρ v rv) : ∀ {es es' : List (AV × AV)} {M : List MapEntry} {n : Nat} (i : Nat), putA P kt k v es = some es' → entRel ρ es M n →
    (Instr.findNow d rk M i = some none ∧ entRel ρ es' (M ++ [{ key := rk, val := rv, born := n + M.length }]) n) ∨
    ∃ j e, Instr.findNow d rk M i = some (some (i + j, e.val)) ∧ M[j]? = some e ∧ e.key = rk ∧ entRel ρ es' (M.modify j fun e => { e with key := rk, val := rv }) n := by
  intro es
  induction es with
  | nil =>
    intro es' M n i h he
    simp only [putA, Option.some.injEq] at h
    have he : M = [] := he
    subst he h
    exact .inl ⟨rfl, _, _, rfl, h1, hv, by simp, rfl⟩
  | cons x xs ih =>
    rintro es' M n i h ⟨e, t, rfl, k1, k2, k3, k4⟩
    simp only [putA] at h
    split at h
    · rename_i hk
      simp only [Option.some.injEq] at h
      subst h
      refine .inr ⟨0, e, by simp [Instr.findNow, keyEq_now hd hk h1 k1], rfl, keyEq_one hk h1 k1, ?_⟩
      exact ⟨{ key := rk, val := rv, born := e.born }, t, by simp, h1, hv, k3, k4⟩
    · rename_i hk
      split at h
      · rename_i l hl
        simp only [Option.some.injEq] at h
        subst h
        rcases ih (i + 1) hl k4 with ⟨q1, q2⟩ | ⟨j, e2, q1, q2, q3, q4⟩
        · refine .inl ⟨by simp [Instr.findNow, keyEq_now hd hk h1 k1, q1], ?_⟩
          refine ⟨e, _, rfl, k1, k2, k3, ?_⟩
          have : n + 1 + t.length = n + (e :: t).length := by simp; omega
          rw [this] at q2
          exact q2
        · refine .inr ⟨j + 1, e2, ?_, by simpa using q2, q3, ?_⟩
          · simp [Instr.findNow, keyEq_now hd hk h1 k1, q1]; omega
          · exact ⟨e, _, by simp, k1, k2, k3, q4⟩
      · simp at h
    · simp at h

theorem mapAt_obj (hr : R ρ s w) {i : Pos} {l : Loc} {es : List (AV × AV)} (h : s.mapAt i = some es) (hl : ρ i = some l) :
    PT.get i s.heap = some (.map es) ∧ ∃ M : Array MapEntry, w.heap[l.b]? = some (.map M M.size) ∧ entRel ρ es M.toList 0 := by
  unfold AS.mapAt at h
  split at h
  · rename_i es' hg
    simp only [Option.some.injEq] at h
    subst h
    exact ⟨hg, hr.ob i _ l hg hl⟩
  · simp at h

theorem look_run (hr : R ρ s w) {t : TypeId} {x k v : AV} {ok : Bool} {xv kv : Value} (h : lookA P t x k ok s = some v) (hx : rel ρ x xv) (hk : rel ρ k kv) :
    ∃ rv, (Instr.lookup t xv kv ok).run P w = .ok rv w ∧ rel ρ v rv := by
  unfold lookA at h
  split at h
  · rename_i kt e hu
    rw [cond_eq_ite] at h
    split at h
    · simp at h
    · rename_i hok
      have hok : keyOk P kt k = true := by simpa using hok
      split at h
      · rename_i z es hz hes
        obtain ⟨d, hd⟩ : ∃ d, P.underlying kt = some d := by
          unfold keyOk at hok
          cases hq : P.underlying kt with
          | none => rw [hq] at hok; simp at hok
          | some d => exact ⟨d, rfl⟩
        have hkey := keyOk_is hd hok hk
        obtain ⟨zv, g1, g2⟩ := run_zero (P := P) hz w
        have fin0 : ∀ (M : Array MapEntry), entRel ρ es M.toList 0 → ∀ r, findA P kt k es = some r → v = (match r with | some y => (bif ok then .tup [y, .bool true] else y) | none => (bif ok then .tup [z, .bool false] else z)) →
            ∃ rv, (do
              Instr.checkKey M.isEmpty 10000 kt kv
              let (v, ok') ← match ← Instr.findKey kt kv M.toList with
                | some (_, v) => pure (v, true)
                | none => pure (← zeroValue e, false)
              pure (if ok then .tuple #[v, .bool ok'] else v) : Sem Value).run P w = .ok rv w ∧ rel ρ v rv := by
          intro M m2 r hfr hv
          simp only [Sem.run_bind, MapKept.run_checkKey hd hkey, Result.andThen_ok]
          rcases find_now (ρ := ρ) hd hk 0 hfr m2 with ⟨rfl, q2⟩ | ⟨y, j, ev, rfl, q2, q3⟩
          · simp only [MapKept.run_findKey hd q2, Result.andThen_ok, Sem.run_bind, g1, Sem.run_pure]
            cases ok
            · exact ⟨zv, rfl, by rw [hv]; exact g2 ρ⟩
            · refine ⟨_, rfl, ?_⟩
              rw [hv]; simp only [cond_true]
              rw [rel_tup]
              exact ⟨[zv, .bool false], by rw [relL_cons]; exact ⟨_, _, rfl, g2 ρ, by rw [relL_cons]; exact ⟨_, _, rfl, by simp, by simp⟩⟩, rfl⟩
          · simp only [MapKept.run_findKey hd q2, Result.andThen_ok]
            cases ok
            · exact ⟨ev, rfl, by rw [hv]; exact q3⟩
            · refine ⟨_, rfl, ?_⟩
              rw [hv]; simp only [cond_true]
              rw [rel_tup]
              exact ⟨[ev, .bool true], by rw [relL_cons]; exact ⟨_, _, rfl, q3, by rw [relL_cons]; exact ⟨_, _, rfl, by simp, by simp⟩⟩, rfl⟩
        have fin : ∀ r, findA P kt k es = some r → v = (match r with | some y => (bif ok then .tup [y, .bool true] else y) | none => (bif ok then .tup [z, .bool false] else z)) →
            ∃ rv, (Instr.lookup t xv kv ok).run P w = .ok rv w ∧ rel ρ v rv := by
          intro r hfr hv
          unfold mapOf at hes
          split at hes
          · simp only [Option.some.injEq] at hes
            subst hes
            simp at hx; subst hx
            obtain ⟨rv, q1, q2⟩ := fin0 #[] rfl r hfr hv
            refine ⟨rv, ?_, q2⟩
            rw [← q1]
            unfold Instr.lookup
            simp only [Sem.run_bind, run_underlying hu, Result.andThen_ok, Sem.run_pure]
            rfl
          · rename_i i
            rw [rel_map] at hx
            obtain ⟨l, hl, rfl⟩ := hx
            obtain ⟨_, M, m1, m2⟩ := mapAt_obj hr hes hl
            obtain ⟨rv, q1, q2⟩ := fin0 M m2 r hfr hv
            refine ⟨rv, ?_, q2⟩
            rw [← q1]
            unfold Instr.lookup
            simp only [Sem.run_bind, run_underlying hu, Result.andThen_ok, Sem.run_pure, MapKept.run_getObj_map m1]
            rfl
          · simp at hes
        split at h
        · rename_i y hy
          simp only [Option.some.injEq] at h
          exact fin _ hy h.symm
        · rename_i hy
          simp only [Option.some.injEq] at h
          exact fin _ hy h.symm
        · simp at h
      · simp at h
  · simp at h

theorem upd_run (hr : R ρ s w) {t : TypeId} {x k v : AV} {xv kv vv : Value} (h : updA P t x k v s = some s') (hx : rel ρ x xv) (hk : rel ρ k kv) (hv : rel ρ v vv) :
    ∃ w', (Instr.mapUpdate t xv kv vv).run P w = .ok () w' ∧ Step ρ s w ρ s' w' ∧ s'.cons = s.cons := by
  unfold updA at h
  split at h
  · rename_i kt e i hu
    rw [cond_eq_ite] at h
    split at h
    · simp at h
    · rename_i hok
      have hok : keyOk P kt k = true := by simpa using hok
      split at h
      · rename_i es hes
        split at h
        · rename_i es' hput
          simp only [Option.some.injEq] at h
          subst h
          obtain ⟨d, hd⟩ : ∃ d, P.underlying kt = some d := by
            unfold keyOk at hok
            cases hq : P.underlying kt with
            | none => rw [hq] at hok; simp at hok
            | some d => exact ⟨d, rfl⟩
          have hkey := keyOk_is hd hok hk
          rw [rel_map] at hx
          obtain ⟨l, hl, rfl⟩ := hx
          obtain ⟨hg, M, m1, m2⟩ := mapAt_obj hr hes hl
          have hlt : l.b < w.heap.size := (Array.getElem?_eq_some_iff.1 m1).1
          rcases put_now (ρ := ρ) hd hk hv 0 hput m2 with ⟨q1, q2⟩ | ⟨j, e, q1, q2, q3, q4⟩
          · refine ⟨_, ?_, step_putO hr hl hg rfl (O := .map (M.push { key := kv, val := vv, born := M.size }) (M.size + 1)) ?_ rfl, rfl⟩
            · simp [Instr.mapUpdate, run_underlying hu, MapKept.run_getObj_map m1, MapKept.run_checkKey hd hkey, MapKept.run_findKey hd q1, MapKept.run_setObj_map _ m1, Result.andThen]
            · refine ⟨M.push { key := kv, val := vv, born := M.size }, by simp [hlt], ?_⟩
              simpa using q2
          · have hj : M[j]? = some e := by simpa using q2
            refine ⟨_, ?_, step_putO hr hl hg rfl (O := .map (M.modify j fun e => { e with key := kv, val := vv }) M.size) ?_ rfl, rfl⟩
            · have q1' : Instr.findNow d kv M.toList 0 = some (some (j, e.val)) := by simpa using q1
              simp [Instr.mapUpdate, run_underlying hu, MapKept.run_getObj_map m1, MapKept.run_checkKey hd hkey, MapKept.run_findKey hd q1', hj, q3, MapKept.run_keyThatStays hkey, MapKept.run_setObj_map _ m1, Result.andThen]
            · refine ⟨M.modify j fun e => { e with key := kv, val := vv }, by simp [hlt], ?_⟩
              simpa [Array.toList_modify] using q4
        · simp at h
      · simp at h
  · simp at h

theorem new_map (hr : R ρ s w) : Step ρ s w (ρ.put s.next ⟨w.heap.size, 0, 0⟩) (s.new (.map [])) { w with heap := w.heap.push (.map #[] 0), drawn := w.drawn } :=
  step_newO hr w.drawn fun _ _ => ⟨#[], by simp, rfl⟩

theorem makeMap_run (hr : R ρ s w) {t : TypeId} (ht : isMapT P t = true) {r : Option Value} (hr2 : ∀ v, r = some v → ∃ k n, v = .int k n) :
    ∃ rv ρ' w', (Instr.makeMap t r).run P w = .ok rv w' ∧ rel ρ' (.map s.next) rv ∧ Step ρ s w ρ' (s.new (.map [])) w' := by
  unfold isMapT at ht
  split at ht
  · rename_i kt e hu
    refine ⟨.map (some w.heap.size), _, _, ?_, ?_, new_map hr⟩
    · cases r with
      | none => simp [Instr.makeMap, newObj, Sem.run]
      | some v =>
        obtain ⟨k, n, rfl⟩ := hr2 v rfl
        simp [Instr.makeMap, run_underlying hu, asInt, asIntOf, newObj, Sem.run, Result.andThen]
    · rw [rel_map]; exact ⟨⟨w.heap.size, 0, 0⟩, by simp [Env.put], rfl⟩
  · simp at ht

theorem assert_run {t t0 : TypeId} {ok : Bool} {x v : AV} {xv : Value} (h : assertA P t ok x = some v) (hx : rel ρ x xv) :
    ∃ rv, (Instr.typeAssert xv t0 t ok).run P w = .ok rv w ∧ rel ρ v rv := by
  unfold assertA at h
  split at h
  · simp at h
  · simp at h
  · rename_i d hni hu
    have zero : ∀ u, (zeroA P t).map (fun z => AV.tup [z, .bool false]) = some u → ∃ zv, (zeroValue t).run P w = .ok zv w ∧ rel ρ u (.tuple #[zv, .bool false]) := by
      intro u hz
      cases hq : zeroA P t with
      | none => simp [hq] at hz
      | some z =>
        simp [hq] at hz; subst hz
        obtain ⟨zv, g1, g2⟩ := run_zero (P := P) hq w
        refine ⟨zv, g1, ?_⟩
        rw [rel_tup]
        exact ⟨[zv, .bool false], by rw [relL_cons]; exact ⟨_, _, rfl, g2 ρ, by rw [relL_cons]; exact ⟨_, _, rfl, by simp, by simp⟩⟩, rfl⟩
    split at h
    · rename_i u y
      rw [rel_ifc] at hx
      obtain ⟨yv, hy, rfl⟩ := hx
      rw [cond_eq_ite] at h
      split at h
      · rename_i hut
        have hut := Nat.eq_of_beq_eq_true hut
        subst hut
        simp only [Option.some.injEq] at h
        cases ok
        · refine ⟨yv, ?_, by rw [← h]; exact hy⟩
          unfold Instr.typeAssert
          simp only [Sem.run_bind, run_underlying hu, Result.andThen_ok]
          cases d <;> first | exact absurd rfl (hni _) | simp
        · refine ⟨.tuple #[yv, .bool true], ?_, ?_⟩
          · unfold Instr.typeAssert
            simp only [Sem.run_bind, run_underlying hu, Result.andThen_ok]
            cases d <;> first | exact absurd rfl (hni _) | simp
          · rw [← h]; simp only [cond_true]; rw [rel_tup]
            exact ⟨[yv, .bool true], by rw [relL_cons]; exact ⟨_, _, rfl, hy, by rw [relL_cons]; exact ⟨_, _, rfl, by simp, by simp⟩⟩, rfl⟩
      · rename_i hut
        have hut : ¬ u = t := fun e => hut (by subst e; simp)
        cases ok
        · simp at h
        · obtain ⟨zv, g1, g2⟩ := zero _ (by simpa using h)
          refine ⟨_, ?_, g2⟩
          unfold Instr.typeAssert
          simp only [Sem.run_bind, run_underlying hu, Result.andThen_ok]
          cases d <;> first | exact absurd rfl (hni _) | (simp [hut, g1, Result.andThen])
    · simp at hx; subst hx
      cases ok
      · simp at h
      · obtain ⟨zv, g1, g2⟩ := zero _ (by simpa using h)
        refine ⟨_, ?_, g2⟩
        unfold Instr.typeAssert
        simp only [Sem.run_bind, run_underlying hu, Result.andThen_ok]
        cases d <;> first | exact absurd rfl (hni _) | (simp [g1, Result.andThen])
    · simp at h
end
end Go.Sx
