/-
  A symbolic executor for the model's code, part J: append and copy.
-/
import Derived.Test.YtpdgklkcjegkfaaGreatSxI
namespace Go.Sx
open Go

section
variable {P : Program} {ρ : Env} {s : AS} {w : World}

theorem run_loadCells_zero (a : Addr) : (loadCells a 0).run P w = .ok #[] w := by
  simp [loadCells, loadCellsFrom]

/-- The cells of a part of a block. -/
theorem loadN (hr : R ρ s w) {i : Pos} {l : Loc} (hl : ρ i = some l) {cs xs : List AV} (hcs : s.cellsAt i = some cs) {o n : Nat} (ho : sliceL o n cs = some xs) {off : Nat}
    (hoff : n = 0 ∨ off = l.base + o) : ∃ vs, (loadCells ⟨l.b, off, none⟩ n).run P w = .ok vs.toArray w ∧ relL ρ xs vs ∧ vs.length = n := by
  obtain ⟨C, E, fr, L, h1, h2, h3, h4, h5, h6⟩ := hr.lookup hcs hl
  have hs := relL_slice h4 ho
  have hlen : ((L.drop o).take n).length = n := by simp; omega
  refine ⟨_, ?_, hs.2, hlen⟩
  rcases hoff with rfl | rfl
  · rw [run_loadCells_zero]; simp
  · have := run_loadCells_list (P := P) w ⟨l.b, l.base + o, none⟩ ((L.drop o).take n) (fun j v hj => by
      rw [addr_add, cell_at h1]
      have hj' := (List.getElem?_eq_some_iff.1 hj).1
      rw [hlen] at hj'
      have : C[l.base + (o + j)]? = L[o + j]? := h6 (o + j) (by omega)
      rw [Nat.add_assoc, this]
      rw [List.getElem?_take_of_lt hj', List.getElem?_drop] at hj
      exact hj)
    rwa [hlen] at this

theorem bytes_rel (l : List UInt8) : relL ρ (l.map fun c => AV.int .u8 c.toNat) (l.map fun c => Value.int .u8 c.toNat) := by
  induction l with
  | nil => simp
  | cons c l ih => rw [List.map_cons, List.map_cons, relL_cons]; exact ⟨_, _, rfl, by simp, ih⟩

theorem elems_run (hr : R ρ s w) {size : Nat} {x : AV} {n : Nat} {new : List AV} {xv : Value} (h : elemsOf size x s = some (n, new)) (hx : rel ρ x xv) :
    (Builtin.lenOf xv).run P w = .ok n w ∧ ∃ vs, (Builtin.firstCells size n xv).run P w = .ok vs.toArray w ∧ relL ρ new vs ∧ vs.length = n * size := by
  unfold elemsOf at h
  split at h
  · simp only [Option.some.injEq, Prod.mk.injEq] at h
    obtain ⟨rfl, rfl⟩ := h
    simp at hx; subst hx
    exact ⟨by simp [Builtin.lenOf], [], by simp [Builtin.firstCells], by simp, by simp⟩
  · rename_i i o m c
    rw [rel_slc] at hx
    obtain ⟨l, off, rc, hl, rfl, hn, hoff, hc⟩ := hx
    split at h
    · simp at h
    · rename_i cs hcs
      split at h
      · rename_i xs hxs
        simp only [Option.some.injEq, Prod.mk.injEq] at h
        obtain ⟨rfl, rfl⟩ := h
        have hz : m * size = 0 ∨ off = l.base + o := by
          rcases hoff with h0 | h0
          · left; have : m = 0 := by omega
            subst this; simp
          · exact .inr h0
        obtain ⟨vs, h1, h2, h3⟩ := loadN (P := P) hr hl hcs hxs hz
        exact ⟨by simp [Builtin.lenOf], vs, by simpa [Builtin.firstCells] using h1, h2, h3⟩
      · simp at h
  · rename_i b
    rw [cond_eq_ite] at h
    split at h
    · rename_i hs1
      have hs1 := Nat.eq_of_beq_eq_true hs1
      subst hs1
      simp only [Option.some.injEq, Prod.mk.injEq] at h
      obtain ⟨rfl, rfl⟩ := h
      simp at hx; subst hx
      refine ⟨by simp [Builtin.lenOf], b.data.toList.map fun c => Value.int .u8 c.toNat, ?_, bytes_rel _, by show _ = b.data.size * 1; simp⟩
      simp only [Builtin.firstCells, Sem.run_pure]
      congr 1
      have : b.extract 0 b.size = b := by simp
      rw [this]
      apply Array.ext'
      simp
    · simp at h
  · simp at h

theorem nextcap_le {need old : Nat} (h : old < need) : Builtin.nextslicecap need old ≤ 4 * need + 4096 := by
  unfold Builtin.nextslicecap
  split
  · omega
  · split
    · omega
    · have g : ∀ (r c : Nat), c < need → Builtin.growBy need r c ≤ 2 * need + 768 := by
        intro r
        induction r with
        | zero => intro c hc; simp [Builtin.growBy]; omega
        | succ r ih =>
          intro c hc
          simp only [Builtin.growBy]
          split
          · omega
          · by_cases h2 : c + (c + 768) / 4 < need
            · exact ih _ h2
            · cases r with
              | zero => simp [Builtin.growBy]; omega
              | succ r => simp only [Builtin.growBy]; split <;> omega
      have := g 4 old h
      omega

/-- `append` where there is room. -/
theorem run_append_room {argTypes : Array TypeId} {sType xType e ty : TypeId} {d : TypeDesc} (h0 : argTypes[0]? = some sType) (h1 : argTypes[1]? = some xType) (hs : P.underlying sType = some (.slice e))
    (hx : P.underlying xType = some d) (hd : ∀ k, d ≠ .int k) {size n len cap : Nat} (hsz : sz P e = some size) {a : Option Addr} {xv : Value} (hlen : (Builtin.lenOf xv).run P w = .ok n w) {vs : List Value}
    (hv : (Builtin.firstCells size n xv).run P w = .ok vs.toArray w) (hroom : len + n ≤ cap) {w' : World}
    (hst : ((match a with | some a => storeCells (a.add (len * size)) vs | none => pure ()) : Sem Unit).run P w = .ok () w') :
    (Builtin.append_ argTypes ty #[.slice a len cap, xv]).run P w = .ok (.slice a (len + n) cap) w' := by
  unfold Builtin.append_
  simp only [h0, h1, List.getElem?_toArray, List.getElem?_cons_zero, List.getElem?_cons_succ, Sem.run_bind, run_underlying hs, Result.andThen_ok, run_sz hsz, run_underlying hx, Sem.run_pure]
  simp only [Bool.false_eq_true, if_false, hlen, Result.andThen_ok, hroom, if_true, Bool.not_false, Sem.run_bind, hv]
  cases a with
  | none => simp at hst; subst hst; simp
  | some a => simp only at hst; simp [hst]

/-- `append` where there is none. -/
theorem run_append_grow {argTypes : Array TypeId} {sType xType e ty : TypeId} {d : TypeDesc} (h0 : argTypes[0]? = some sType) (h1 : argTypes[1]? = some xType) (hs : P.underlying sType = some (.slice e))
    (hx : P.underlying xType = some d) (hd : ∀ k, d ≠ .int k) {size bytes n len cap : Nat} (hsz : sz P e = some size) (hby : byt P e = some bytes) (hb0 : bytes ≠ 0) (hb1 : bytes < 1024) {z : AV} (hz : zeroA P e = some z)
    (hzl : z.cells.length = size) {a : Option Addr} {xv : Value} (hlen : (Builtin.lenOf xv).run P w = .ok n w) {os vs : List Value}
    (hv : (Builtin.firstCells size n xv).run P { w with drawn := w.drawn + 1 } = .ok vs.toArray { w with drawn := w.drawn + 1 })
    (ho : (Builtin.firstCells size len (.slice a len cap)).run P { w with drawn := w.drawn + 1 } = .ok os.toArray { w with drawn := w.drawn + 1 })
    (hol : os.length = len * size) (hvl : vs.length = n * size) (hroom : ¬ len + n ≤ cap) (hneed : len + n ≤ 1000000) :
    ∃ (newCap : Nat) (C : Array Value), len + n ≤ newCap ∧ C.size = newCap * size ∧ (∀ k, k < (os ++ vs).length → C[k]? = (os ++ vs)[k]?) ∧
      (Builtin.append_ argTypes ty #[.slice a len cap, xv]).run P w = .ok (.slice (some ⟨w.heap.size, 0, none⟩) (len + n) newCap) { w with heap := w.heap.push (.cells C e (0, 0)), drawn := w.drawn + 1 } := by
  obtain ⟨zv, hzv, hzr⟩ := run_zero (P := P) hz { w with drawn := w.drawn + 1 }
  obtain ⟨i, hii, rfl⟩ : ∃ i, P.info? e = some i ∧ i.bytes = bytes := by
    unfold byt at hby
    cases hi : P.info? e with
    | none => simp [hi] at hby
    | some i => simp [hi] at hby; exact ⟨i, rfl, hby⟩
  have hi : ∀ w', (typeInfo e).run P w' = .ok i w' := fun w' => run_info hii w'
  obtain ⟨zl, hzc, hzrel⟩ := cells_rel (hzr (fun _ => none))
  have hzs : zv.cells.size = size := by rw [hzc]; simp [← relL_length hzrel, hzl]
  let q : Nat := w.tape w.drawn (.appendCap (len + n) cap e)
  refine ⟨len + n + q % (2 ^ 63 - (len + n)), (os.toArray ++ vs.toArray ++ Builtin.zeroCells zv.cells (len + n + q % (2 ^ 63 - (len + n)) - (len + n))), Nat.le_add_right _ _, ?_, ?_, ?_⟩
  · simp only [Array.size_append, List.size_toArray, Builtin.zeroCells, Array.size_map, Array.size_range, hol, hvl, hzs]
    rw [← Nat.add_mul, ← Nat.add_mul]
    congr 1
    omega
  · intro k hk
    rw [Array.getElem?_append_left (by simpa using hk)]
    simp
  · have hcap : ¬ (Builtin.nextslicecap (len + n) cap * i.bytes > 2 ^ 48) := by
      have := nextcap_le (need := len + n) (old := cap) (by omega)
      have h2 : Builtin.nextslicecap (len + n) cap * i.bytes ≤ (4 * 1000000 + 4096) * 1024 := Nat.mul_le_mul (by omega) (by omega)
      omega
    have hbig : ¬ ((((len + n : Nat) : Int) > IntKind.i64.max) ∧ (False ∨ i.bytes = 0)) := by
      rintro ⟨_, h⟩
      rcases h with h | h
      · exact h
      · exact hb0 h
    unfold Builtin.append_
    simp only [h0, h1, List.getElem?_toArray, List.getElem?_cons_zero, List.getElem?_cons_succ, Sem.run_bind, run_underlying hs, Result.andThen_ok, run_sz hsz, run_underlying hx, Sem.run_pure]
    simp only [Bool.false_eq_true, if_false, hlen, Result.andThen_ok, hroom, Bool.not_false, Sem.run_bind, hi]
    rw [if_neg hbig]
    simp only [hcap, if_false, Sem.run_bind, Sem.run_pure, Result.andThen_ok, run_choose, Question.forced, Bool.false_eq_true, Question.cut, run_askRoom, hi, ho, hv, if_true, hzv, newRow, run_newObj]
    rfl
end
end Go.Sx
