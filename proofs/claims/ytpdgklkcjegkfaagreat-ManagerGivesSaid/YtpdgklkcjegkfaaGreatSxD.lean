/-
  A symbolic executor for the model's code, part D: what an abstract value, an abstract memory say of the model's own.
-/
import Derived.Test.YtpdgklkcjegkfaaGreatSxC
namespace Go.Sx
open Go

/-! ### Tries -/

theorem Pos.nat_pos (p : Pos) : 0 < p.nat := by
  induction p <;> simp [Pos.nat] <;> omega

theorem Pos.nat_inj : ∀ {p q : Pos}, p.nat = q.nat → p = q := by
  intro p
  induction p with
  | h =>
    intro q h
    cases q with
    | h => rfl
    | o q => have := q.nat_pos; simp [Pos.nat] at h; omega
    | i q => have := q.nat_pos; simp [Pos.nat] at h; omega
  | o p ih =>
    intro q h
    cases q with
    | h => have := p.nat_pos; simp [Pos.nat] at h; omega
    | o q => simp [Pos.nat] at h; rw [ih (q := q) (by omega)]
    | i q => simp [Pos.nat] at h; omega
  | i p ih =>
    intro q h
    cases q with
    | h => have := p.nat_pos; simp [Pos.nat] at h; omega
    | o q => simp [Pos.nat] at h; omega
    | i q => simp [Pos.nat] at h; rw [ih (q := q) (by omega)]

theorem Pos.nat_succ (p : Pos) : p.succ.nat = p.nat + 1 := by
  induction p with
  | h => rfl
  | o p _ => rfl
  | i p ih => simp [Pos.succ, Pos.nat, ih]; omega

theorem Pos.nat_ofN : ∀ (f n : Nat), 1 ≤ n → n ≤ f → (Pos.ofN f n).nat = n := by
  intro f
  induction f with
  | zero => intro n h1 h2; omega
  | succ f ih =>
    intro n h1 h2
    simp only [Pos.ofN, cond_eq_ite]
    by_cases h : n ≤ 1
    · have : n = 1 := by omega
      subst this; rfl
    · have hb : Nat.ble n 1 = false := by
        cases hh : Nat.ble n 1 with
        | false => rfl
        | true => have := Nat.le_of_ble_eq_true hh; omega
      rw [hb]
      by_cases h0 : n % 2 = 0
      · have hq : Nat.beq (Nat.mod n 2) 0 = true := by rw [Nat.beq_eq]; exact h0
        simp only [hq]
        simp only [Bool.false_eq_true, if_false, if_true, Pos.nat]
        have := ih (n / 2) (by omega) (by omega)
        show 2 * (Pos.ofN f (n / 2)).nat = n
        rw [this]; omega
      · have hq : Nat.beq (Nat.mod n 2) 0 = false := by
          cases hh : Nat.beq (Nat.mod n 2) 0 with
          | false => rfl
          | true => exact absurd (Nat.eq_of_beq_eq_true hh) h0
        simp only [hq]
        simp only [Bool.false_eq_true, if_false, Pos.nat]
        have := ih (n / 2) (by omega) (by omega)
        show 2 * (Pos.ofN f (n / 2)).nat + 1 = n
        rw [this]; omega

theorem Pos.slot_inj {a b : Nat} (h : Pos.slot a = Pos.slot b) : a = b := by
  have ha := Pos.nat_ofN (a + 1) (a + 1) (by omega) (by omega)
  have hb := Pos.nat_ofN (b + 1) (b + 1) (by omega) (by omega)
  unfold Pos.slot at h
  rw [h] at ha
  omega

theorem Pos.eqb_iff : ∀ {p q : Pos}, Pos.eqb p q = true ↔ p = q := by
  intro p
  induction p with
  | h => intro q; cases q <;> simp [Pos.eqb]
  | o p ih => intro q; cases q <;> simp [Pos.eqb, ih]
  | i p ih => intro q; cases q <;> simp [Pos.eqb, ih]

section
variable {α : Type}

@[simp] theorem PT.get_e (p : Pos) : PT.get p (.e : PT α) = none := by cases p <;> rfl

theorem PT.get_set_same (x : α) : ∀ (p : Pos) (t : PT α), PT.get p (PT.set x p t) = some x := by
  intro p
  induction p with
  | h => intro t; cases t <;> rfl
  | o p ih => intro t; cases t <;> exact ih _
  | i p ih => intro t; cases t <;> exact ih _

theorem PT.get_set_other (x : α) : ∀ (p q : Pos) (t : PT α), q ≠ p → PT.get q (PT.set x p t) = PT.get q t := by
  intro p
  induction p with
  | h =>
    intro q t hq
    cases q with
    | h => exact absurd rfl hq
    | o q => cases t <;> simp [PT.set, PT.get]
    | i q => cases t <;> simp [PT.set, PT.get]
  | o p ih =>
    intro q t hq
    cases q with
    | h => cases t <;> simp [PT.set, PT.get]
    | o q =>
      have : q ≠ p := fun e => hq (e ▸ rfl)
      cases t with
      | e => simp [PT.set, PT.get, ih q .e this]
      | n l v r => simp [PT.set, PT.get, ih q l this]
    | i q => cases t <;> simp [PT.set, PT.get]
  | i p ih =>
    intro q t hq
    cases q with
    | h => cases t <;> simp [PT.set, PT.get]
    | o q => cases t <;> simp [PT.set, PT.get]
    | i q =>
      have : q ≠ p := fun e => hq (e ▸ rfl)
      cases t with
      | e => simp [PT.set, PT.get, ih q .e this]
      | n l v r => simp [PT.set, PT.get, ih q r this]
end

/-! ### Values -/

/-- A value of one cell. -/
def oneV : Value → Bool
  | .agg _ | .tuple _ => false
  | _ => true


/-- Where a block of the abstract memory lies: the model's block, the first cell, how many cells that block has. -/
structure Loc where
  b : Nat
  base : Nat
  size : Nat

abbrev Env := Pos → Option Loc

/-- What is known of a slice's capacity. -/
def capOk (l : Loc) (o rc : Nat) : Cap → Prop
  | .exact m => rc = m
  | .toEnd z => rc = 0 ∨ l.base + o + rc * z = l.size

mutual
def rel (ρ : Env) : AV → Value → Prop
  | .int k n, v => v = .int k n
  | .sint k n, v => v = .int k n
  | .bool b, v => v = .bool b
  | .sbool b, v => v = .bool b
  | .str s, v => v = .string s
  | .nilp, v => v = .pointer none
  | .ptr i o, v => ∃ l, ρ i = some l ∧ v = .pointer (some ⟨l.b, l.base + o, none⟩)
  | .nils, v => v = .slice none 0 0
  | .slc i o n c, v => ∃ l off rc, ρ i = some l ∧ v = .slice (some ⟨l.b, off, none⟩) n rc ∧ n ≤ rc ∧ (rc = 0 ∨ off = l.base + o) ∧ capOk l o rc c
  | .nilm, v => v = .map none
  | .map i, v => ∃ l, ρ i = some l ∧ v = .map (some l.b)
  | .fn f a c, v => ∃ a' c', relL ρ a a' ∧ relL ρ c c' ∧ v = .func f a'.toArray c'.toArray
  | .nilf, v => v = .nilFunc
  | .ifc t x, v => ∃ y, rel ρ x y ∧ v = .iface t y
  | .nili, v => v = .nilIface
  | .agg cs, v => ∃ l, relL ρ cs l ∧ v = .agg l.toArray
  | .tup cs, v => ∃ l, relL ρ cs l ∧ v = .tuple l.toArray
  | .raw u, v => v = u ∧ oneV u = true
def relL (ρ : Env) : List AV → List Value → Prop
  | [], l => l = []
  | x :: xs, l => ∃ y ys, l = y :: ys ∧ rel ρ x y ∧ relL ρ xs ys
end

def Sub (ρ ρ' : Env) : Prop := ∀ i l, ρ i = some l → ρ' i = some l
theorem Sub.refl (ρ : Env) : Sub ρ ρ := fun _ _ h => h
theorem Sub.trans {a b c : Env} (h : Sub a b) (k : Sub b c) : Sub a c := fun i l e => k i l (h i l e)

mutual
theorem rel.mono {ρ ρ' : Env} (h : Sub ρ ρ') : ∀ (x : AV) (v : Value), rel ρ x v → rel ρ' x v
  | .int _ _, _, r | .sint _ _, _, r | .bool _, _, r | .sbool _, _, r | .str _, _, r | .nilp, _, r | .nils, _, r | .nilm, _, r | .nilf, _, r | .nili, _, r | .raw _, _, r => by
    simp only [rel] at r ⊢; exact r
  | .ptr i o, v, r => by simp only [rel] at r ⊢; obtain ⟨l, hl, e⟩ := r; exact ⟨l, h _ _ hl, e⟩
  | .map i, v, r => by simp only [rel] at r ⊢; obtain ⟨l, hl, e⟩ := r; exact ⟨l, h _ _ hl, e⟩
  | .slc i o n c, v, r => by simp only [rel] at r ⊢; obtain ⟨l, off, rc, hl, e⟩ := r; exact ⟨l, off, rc, h _ _ hl, e⟩
  | .fn f a c, v, r => by
    simp only [rel] at r ⊢; obtain ⟨a', c', h1, h2, e⟩ := r; exact ⟨a', c', relL.mono h a a' h1, relL.mono h c c' h2, e⟩
  | .ifc t x, v, r => by simp only [rel] at r ⊢; obtain ⟨y, h1, e⟩ := r; exact ⟨y, rel.mono h x y h1, e⟩
  | .agg cs, v, r => by simp only [rel] at r ⊢; obtain ⟨l, h1, e⟩ := r; exact ⟨l, relL.mono h cs l h1, e⟩
  | .tup cs, v, r => by simp only [rel] at r ⊢; obtain ⟨l, h1, e⟩ := r; exact ⟨l, relL.mono h cs l h1, e⟩
theorem relL.mono {ρ ρ' : Env} (h : Sub ρ ρ') : ∀ (x : List AV) (v : List Value), relL ρ x v → relL ρ' x v
  | [], _, r => by simp only [relL] at r ⊢; exact r
  | x :: xs, l, r => by
    simp only [relL] at r ⊢; obtain ⟨y, ys, e, h1, h2⟩ := r; exact ⟨y, ys, e, rel.mono h x y h1, relL.mono h xs ys h2⟩
end

section
variable {ρ : Env}
@[simp] theorem rel_int {k n v} : rel ρ (.int k n) v ↔ v = .int k n := by simp only [rel]
@[simp] theorem rel_sint {k n v} : rel ρ (.sint k n) v ↔ v = .int k n := by simp only [rel]
@[simp] theorem rel_bool {b v} : rel ρ (.bool b) v ↔ v = .bool b := by simp only [rel]
@[simp] theorem rel_sbool {b v} : rel ρ (.sbool b) v ↔ v = .bool b := by simp only [rel]
@[simp] theorem rel_str {s v} : rel ρ (.str s) v ↔ v = .string s := by simp only [rel]
@[simp] theorem rel_nilp {v} : rel ρ .nilp v ↔ v = .pointer none := by simp only [rel]
@[simp] theorem rel_nils {v} : rel ρ .nils v ↔ v = .slice none 0 0 := by simp only [rel]
@[simp] theorem rel_nilm {v} : rel ρ .nilm v ↔ v = .map none := by simp only [rel]
@[simp] theorem rel_nilf {v} : rel ρ .nilf v ↔ v = .nilFunc := by simp only [rel]
@[simp] theorem rel_nili {v} : rel ρ .nili v ↔ v = .nilIface := by simp only [rel]
theorem rel_ptr {i o v} : rel ρ (.ptr i o) v ↔ ∃ l, ρ i = some l ∧ v = .pointer (some ⟨l.b, l.base + o, none⟩) := by simp only [rel]
theorem rel_map {i v} : rel ρ (.map i) v ↔ ∃ l, ρ i = some l ∧ v = .map (some l.b) := by simp only [rel]
theorem rel_slc {i o n c v} : rel ρ (.slc i o n c) v ↔ ∃ l off rc, ρ i = some l ∧ v = .slice (some ⟨l.b, off, none⟩) n rc ∧ n ≤ rc ∧ (rc = 0 ∨ off = l.base + o) ∧ capOk l o rc c := by simp only [rel]
theorem rel_fn {f a c v} : rel ρ (.fn f a c) v ↔ ∃ a' c', relL ρ a a' ∧ relL ρ c c' ∧ v = .func f a'.toArray c'.toArray := by simp only [rel]
theorem rel_ifc {t x v} : rel ρ (.ifc t x) v ↔ ∃ y, rel ρ x y ∧ v = .iface t y := by simp only [rel]
theorem rel_agg {cs v} : rel ρ (.agg cs) v ↔ ∃ l, relL ρ cs l ∧ v = .agg l.toArray := by simp only [rel]
theorem rel_tup {cs v} : rel ρ (.tup cs) v ↔ ∃ l, relL ρ cs l ∧ v = .tuple l.toArray := by simp only [rel]
theorem rel_raw {u v} : rel ρ (.raw u) v ↔ v = u ∧ oneV u = true := by simp only [rel]
@[simp] theorem relL_nil {l} : relL ρ [] l ↔ l = [] := by simp only [relL]
theorem relL_cons {x xs l} : relL ρ (x :: xs) l ↔ ∃ y ys, l = y :: ys ∧ rel ρ x y ∧ relL ρ xs ys := by simp only [relL]

theorem rel_undef : rel ρ undefA undef := by
  unfold undefA undef; rw [rel_tup]; exact ⟨[], by simp, rfl⟩

theorem relL_length : ∀ {xs : List AV} {l : List Value}, relL ρ xs l → xs.length = l.length := by
  intro xs
  induction xs with
  | nil => intro l h; simp at h; subst h; rfl
  | cons x xs ih =>
    intro l h
    rw [relL_cons] at h
    obtain ⟨y, ys, rfl, _, h2⟩ := h
    simp [ih h2]

theorem relL_append : ∀ {xs ys : List AV} {l m : List Value}, relL ρ xs l → relL ρ ys m → relL ρ (xs ++ ys) (l ++ m) := by
  intro xs
  induction xs with
  | nil => intro ys l m h k; simp at h; subst h; simpa using k
  | cons x xs ih =>
    intro ys l m h k
    rw [relL_cons] at h
    obtain ⟨y, ys', rfl, h1, h2⟩ := h
    rw [List.cons_append, relL_cons]
    exact ⟨y, _, rfl, h1, ih h2 k⟩

theorem relL_get : ∀ {xs : List AV} {l : List Value} (n : Nat) {x : AV}, relL ρ xs l → nth xs n = some x → ∃ v, l[n]? = some v ∧ rel ρ x v := by
  intro xs
  induction xs with
  | nil => intro l n x _ h; simp [nth] at h
  | cons y ys ih =>
    intro l n x h hn
    rw [relL_cons] at h
    obtain ⟨v, vs, rfl, h1, h2⟩ := h
    cases n with
    | zero => simp [nth] at hn; subst hn; exact ⟨v, rfl, h1⟩
    | succ n => simp [nth] at hn; simpa using ih n h2 hn

theorem relL_drop : ∀ (n : Nat) {xs ys : List AV} {l : List Value}, relL ρ xs l → dropN n xs = some ys → n ≤ l.length ∧ relL ρ ys (l.drop n) := by
  intro n
  induction n with
  | zero => intro xs ys l h k; simp [dropN] at k; subst k; simpa using h
  | succ n ih =>
    intro xs ys l h k
    cases xs with
    | nil => simp [dropN] at k
    | cons x xs =>
      rw [relL_cons] at h
      obtain ⟨v, vs, rfl, h1, h2⟩ := h
      simp only [dropN] at k
      have := ih h2 k
      simpa using this

theorem relL_take : ∀ (n : Nat) {xs ys : List AV} {l : List Value}, relL ρ xs l → takeN n xs = some ys → n ≤ l.length ∧ relL ρ ys (l.take n) := by
  intro n
  induction n with
  | zero => intro xs ys l h k; simp [takeN] at k; subst k; simp
  | succ n ih =>
    intro xs ys l h k
    cases xs with
    | nil => simp [takeN] at k
    | cons x xs =>
      rw [relL_cons] at h
      obtain ⟨v, vs, rfl, h1, h2⟩ := h
      simp only [takeN] at k
      split at k
      · simp at k
      · rename_i z hz
        simp at k; subst k
        have := ih h2 hz
        refine ⟨by simp; omega, ?_⟩
        rw [List.take_succ_cons, relL_cons]
        exact ⟨v, _, rfl, h1, this.2⟩

theorem relL_slice {o n : Nat} {xs ys : List AV} {l : List Value} (h : relL ρ xs l) (k : sliceL o n xs = some ys) : o + n ≤ l.length ∧ relL ρ ys ((l.drop o).take n) := by
  unfold sliceL at k
  split at k
  · simp at k
  · rename_i z hz
    have h1 := relL_drop o h hz
    have h2 := relL_take n h1.2 k
    simp at h2
    exact ⟨by omega, h2.2⟩

/-- `ys` over the values from `o` on. -/
def overV (o : Nat) (l m : List Value) : List Value := l.take o ++ m ++ l.drop (o + m.length)

theorem relL_over : ∀ (o : Nat) {xs ys zs : List AV} {l m : List Value}, relL ρ xs l → relL ρ ys m → over o xs ys = some zs →
    o + m.length ≤ l.length ∧ relL ρ zs (overV o l m) := by
  intro o
  induction o with
  | zero =>
    intro xs ys
    induction ys generalizing xs with
    | nil => intro zs l m h k e; simp at k; subst k; cases xs <;> simp [over] at e <;> subst e <;> simpa [overV] using h
    | cons y ys ih =>
      intro zs l m h k e
      cases xs with
      | nil => simp [over] at e
      | cons x xs =>
        rw [relL_cons] at h k
        obtain ⟨v, vs, rfl, h1, h2⟩ := h
        obtain ⟨u, us, rfl, k1, k2⟩ := k
        simp only [over] at e
        split at e
        · simp at e
        · rename_i z hz
          simp at e; subst e
          have := ih h2 k2 hz
          refine ⟨by simp; omega, ?_⟩
          simp only [overV, List.take_zero, List.nil_append, List.length_cons, Nat.zero_add, List.drop_succ_cons, List.cons_append] at this ⊢
          rw [relL_cons]
          exact ⟨u, _, rfl, k1, this.2⟩
  | succ o ih =>
    intro xs ys zs l m h k e
    cases xs with
    | nil => simp [over] at e
    | cons x xs =>
      rw [relL_cons] at h
      obtain ⟨v, vs, rfl, h1, h2⟩ := h
      simp only [over] at e
      split at e
      · simp at e
      · rename_i z hz
        simp at e; subst e
        have := ih h2 k hz
        refine ⟨by simp; omega, ?_⟩
        have e2 : overV (o + 1) (v :: vs) m = v :: overV o vs m := by
          simp [overV, List.take_succ_cons, show o + 1 + m.length = (o + m.length) + 1 by omega]
        rw [e2, relL_cons]
        exact ⟨v, _, rfl, h1, this.2⟩

theorem one_rel : ∀ {x : AV} {v : Value}, AV.one x = true → rel ρ x v → oneV v = true := by
  intro x v h r
  cases x <;> simp [AV.one] at h
  case ptr => rw [rel_ptr] at r; obtain ⟨_, _, rfl⟩ := r; rfl
  case slc => rw [rel_slc] at r; obtain ⟨_, _, _, _, rfl, _⟩ := r; rfl
  case map => rw [rel_map] at r; obtain ⟨_, _, rfl⟩ := r; rfl
  case fn => rw [rel_fn] at r; obtain ⟨_, _, _, _, rfl⟩ := r; rfl
  case ifc => rw [rel_ifc] at r; obtain ⟨_, _, rfl⟩ := r; rfl
  case raw => rw [rel_raw] at r; obtain ⟨rfl, h⟩ := r; exact h
  all_goals (simp at r; subst r; rfl)

theorem cells_rel : ∀ {x : AV} {v : Value}, rel ρ x v → ∃ l, v.cells = l.toArray ∧ relL ρ x.cells l := by
  intro x v r
  cases x
  case agg cs => rw [rel_agg] at r; obtain ⟨l, h, rfl⟩ := r; exact ⟨l, rfl, h⟩
  case tup cs =>
    refine ⟨[v], ?_, ?_⟩
    · rw [rel_tup] at r; obtain ⟨l, _, rfl⟩ := r; rfl
    · simp only [AV.cells]; rw [relL_cons]; exact ⟨v, [], rfl, r, by simp⟩
  all_goals
    refine ⟨[v], ?_, ?_⟩
    · have := one_rel (by rfl) r
      cases v <;> simp [oneV] at this <;> rfl
    · simp only [AV.cells]; rw [relL_cons]; exact ⟨v, [], rfl, r, by simp⟩
end

/-! ### Memory -/

/-- A map's entries: each is as old as its place. -/
def entRel (ρ : Env) : List (AV × AV) → List MapEntry → Nat → Prop
  | [], l, _ => l = []
  | x :: xs, l, n => ∃ e t, l = e :: t ∧ rel ρ x.1 e.key ∧ rel ρ x.2 e.val ∧ e.born = n ∧ entRel ρ xs t (n + 1)

theorem entRel.mono {ρ ρ' : Env} (h : Sub ρ ρ') : ∀ {xs : List (AV × AV)} {l : List MapEntry} {n : Nat}, entRel ρ xs l n → entRel ρ' xs l n := by
  intro xs
  induction xs with
  | nil => intro l n r; exact r
  | cons x xs ih =>
    rintro l n ⟨e, t, rfl, h1, h2, h3, h4⟩
    exact ⟨e, t, rfl, rel.mono h _ _ h1, rel.mono h _ _ h2, h3, ih h4⟩

def objRel (ρ : Env) (w : World) : AObj → Loc → Prop
  | .cells cs, l => ∃ C E fr L, w.heap[l.b]? = some (.cells C E fr) ∧ C.size = l.size ∧ (fr.2 ≤ fr.1 ∨ C.size ≤ fr.1) ∧ relL ρ cs L ∧
      l.base + L.length ≤ C.size ∧ ∀ k, k < L.length → C[l.base + k]? = L[k]?
  | .map es, l => ∃ M : Array MapEntry, w.heap[l.b]? = some (.map M M.size) ∧ entRel ρ es M.toList 0
  | .dead, _ => True

def AObj.live : AObj → Bool
  | .dead => false
  | _ => true

/-- The model's block is one that an abstract block stands for. -/
def Live (ρ : Env) (s : AS) (b : Nat) : Prop := ∃ i o l, PT.get i s.heap = some o ∧ o.live = true ∧ ρ i = some l ∧ l.b = b

structure R (ρ : Env) (s : AS) (w : World) : Prop where
  ob : ∀ i o l, PT.get i s.heap = some o → ρ i = some l → objRel ρ w o l
  inj : ∀ i j o o' l l', PT.get i s.heap = some o → o.live = true → PT.get j s.heap = some o' → o'.live = true → ρ i = some l → ρ j = some l' → l.b = l'.b → i = j
  dom : ∀ i l, ρ i = some l → i.nat < s.next.nat ∧ l.b < w.heap.size

/-- One step: what was stays, what is new is new, what is touched is what the abstract memory has. -/
structure Step (ρ : Env) (s : AS) (w : World) (ρ' : Env) (s' : AS) (w' : World) : Prop where
  r : R ρ' s' w'
  same : ∀ i, i.nat < s.next.nat → ρ' i = ρ i
  next : s.next.nat ≤ s'.next.nat
  lv : ∀ b, Live ρ' s' b → w.heap.size ≤ b ∨ Live ρ s b
  size : w.heap.size ≤ w'.heap.size
  frame : ∀ b, b < w.heap.size → ¬ Live ρ s b → w'.heap[b]? = w.heap[b]?
  os : w'.os = w.os
  tape : w'.tape = w.tape
  output : w'.output = w.output

theorem Step.sub {ρ s w ρ' s' w'} (h : Step ρ s w ρ' s' w') (hr : R ρ s w) : Sub ρ ρ' := fun i l e => by
  rw [h.same i (hr.dom i l e).1]; exact e

theorem Step.refl {ρ s w} (h : R ρ s w) : Step ρ s w ρ s w :=
  ⟨h, fun _ _ => rfl, Nat.le_refl _, fun _ h => .inr h, Nat.le_refl _, fun _ _ _ => rfl, rfl, rfl, rfl⟩

theorem Step.trans {ρ s w ρ₁ s₁ w₁ ρ₂ s₂ w₂} (h : Step ρ s w ρ₁ s₁ w₁) (k : Step ρ₁ s₁ w₁ ρ₂ s₂ w₂) : Step ρ s w ρ₂ s₂ w₂ where
  r := k.r
  same i hi := by rw [k.same i (Nat.lt_of_lt_of_le hi h.next), h.same i hi]
  next := Nat.le_trans h.next k.next
  lv b hb := by
    rcases k.lv b hb with h1 | h1
    · exact .inl (Nat.le_trans h.size h1)
    · exact h.lv b h1
  size := Nat.le_trans h.size k.size
  frame b hb hl := by
    rw [k.frame b (Nat.lt_of_lt_of_le hb h.size) (fun h1 => by rcases h.lv b h1 with h2 | h2; omega; exact hl h2), h.frame b hb hl]
  os := k.os.trans h.os
  tape := k.tape.trans h.tape
  output := k.output.trans h.output

/-- A step that only asks: the oracle, the notes. -/
theorem R.notes {ρ s w} (h : R ρ s w) (s' : AS) (hh : s'.heap = s.heap) (hn : s'.next = s.next) : R ρ s' w :=
  ⟨fun i o l e => h.ob i o l (hh ▸ e), fun i j o o' l l' e e2 e3 => h.inj i j o o' l l' (hh ▸ e) e2 (hh ▸ e3), fun i l e => hn ▸ h.dom i l e⟩

theorem Step.notes {ρ s w} (h : R ρ s w) (s' : AS) (hh : s'.heap = s.heap) (hn : s'.next = s.next) : Step ρ s w ρ s' w :=
  ⟨h.notes s' hh hn, fun _ _ => rfl, by rw [hn]; exact Nat.le_refl _, fun b hb => .inr (by
    obtain ⟨i, o, l, e, r⟩ := hb; exact ⟨i, o, l, hh ▸ e, r⟩), Nat.le_refl _, fun _ _ _ => rfl, rfl, rfl, rfl⟩

/-- The model draws: nothing of memory turns. -/
theorem R.drawn {ρ s w} (h : R ρ s w) (n : Nat) : R ρ s { w with drawn := n } :=
  ⟨fun i o l e e2 => by
    have := h.ob i o l e e2
    cases o <;> exact this, h.inj, h.dom⟩

theorem Step.drawn {ρ s w} (h : R ρ s w) (n : Nat) : Step ρ s w ρ s { w with drawn := n } :=
  ⟨h.drawn n, fun _ _ => rfl, Nat.le_refl _, fun _ h => .inr h, Nat.le_refl _, fun _ _ _ => rfl, rfl, rfl, rfl⟩

/-- A new block. -/
theorem R.lookup {ρ s w} (h : R ρ s w) {i cs l} (hc : s.cellsAt i = some cs) (hl : ρ i = some l) :
    ∃ C E fr L, w.heap[l.b]? = some (.cells C E fr) ∧ C.size = l.size ∧ (fr.2 ≤ fr.1 ∨ C.size ≤ fr.1) ∧ relL ρ cs L ∧
      l.base + L.length ≤ C.size ∧ ∀ k, k < L.length → C[l.base + k]? = L[k]? := by
  unfold AS.cellsAt at hc
  split at hc
  · rename_i cs' hg
    simp at hc; subst hc
    exact h.ob i _ l hg hl
  · simp at hc

theorem objRel_grow {ρ ρ' : Env} {w w' : World} {o : AObj} {l : Loc} (hs : Sub ρ ρ') (hb : w'.heap[l.b]? = w.heap[l.b]?) (h : objRel ρ w o l) : objRel ρ' w' o l := by
  cases o with
  | cells cs =>
    obtain ⟨C, E, fr, L, h1, h2, h3, h4, h5⟩ := h
    exact ⟨C, E, fr, L, hb.trans h1, h2, h3, relL.mono hs _ _ h4, h5⟩
  | map es => obtain ⟨M, h1, h2⟩ := h; exact ⟨M, hb.trans h1, h2.mono hs⟩
  | dead => trivial

def Env.put (ρ : Env) (i : Pos) (l : Loc) : Env := fun j => if j = i then some l else ρ j

theorem step_newO {ρ s w} (h : R ρ s w) {no : AObj} {O : Obj} {sz : Nat} (n : Nat)
    (hno : ∀ ρ', Sub ρ ρ' → objRel ρ' { w with heap := w.heap.push O, drawn := n } no ⟨w.heap.size, 0, sz⟩) :
    Step ρ s w (ρ.put s.next ⟨w.heap.size, 0, sz⟩) (s.new no) { w with heap := w.heap.push O, drawn := n } := by
  have hnew : ρ s.next = none := by
    cases e : ρ s.next with
    | none => rfl
    | some l => have := (h.dom _ _ e).1; omega
  have hsub : Sub ρ (ρ.put s.next ⟨w.heap.size, 0, sz⟩) := fun i l e => by
    unfold Env.put
    by_cases hi : i = s.next
    · subst hi; rw [hnew] at e; cases e
    · rw [if_neg hi]; exact e
  have hlv : ∀ b, Live (ρ.put s.next ⟨w.heap.size, 0, sz⟩) (s.new no) b → w.heap.size ≤ b ∨ Live ρ s b := by
    rintro b ⟨i, o, l, e, ho, hl, rfl⟩
    unfold Env.put at hl
    by_cases hi : i = s.next
    · rw [if_pos hi] at hl; injection hl with hl; subst hl; exact .inl (Nat.le_refl _)
    · rw [if_neg hi] at hl
      exact .inr ⟨i, o, l, by simpa [AS.new, PT.get_set_other _ _ _ _ hi] using e, ho, hl, rfl⟩
  refine ⟨⟨?_, ?_, ?_⟩, ?_, ?_, hlv, ?_, ?_, rfl, rfl, rfl⟩
  · intro i o l e hl
    unfold Env.put at hl
    by_cases hi : i = s.next
    · rw [if_pos hi] at hl; injection hl with hl; subst hl
      subst hi
      simp only [AS.new, PT.get_set_same] at e
      injection e with e; subst e
      exact hno _ hsub
    · rw [if_neg hi] at hl
      have e' : PT.get i s.heap = some o := by simpa [AS.new, PT.get_set_other _ _ _ _ hi] using e
      refine objRel_grow hsub ?_ (h.ob i o l e' hl)
      have := (h.dom i l hl).2
      simp [Array.getElem?_push, Nat.ne_of_lt this]
  · intro i j o o' l l' e ho e2 ho' hl hl' hb
    unfold Env.put at hl hl'
    by_cases hi : i = s.next
    · by_cases hj : j = s.next
      · rw [hi, hj]
      · rw [if_pos hi] at hl; rw [if_neg hj] at hl'
        injection hl with hl; subst hl
        have := (h.dom j l' hl').2
        simp at hb; omega
    · by_cases hj : j = s.next
      · rw [if_neg hi] at hl; rw [if_pos hj] at hl'
        injection hl' with hl'; subst hl'
        have := (h.dom i l hl).2
        simp at hb; omega
      · rw [if_neg hi] at hl; rw [if_neg hj] at hl'
        exact h.inj i j o o' l l' (by simpa [AS.new, PT.get_set_other _ _ _ _ hi] using e) ho (by simpa [AS.new, PT.get_set_other _ _ _ _ hj] using e2) ho' hl hl' hb
  · intro i l hl
    unfold Env.put at hl
    by_cases hi : i = s.next
    · rw [if_pos hi] at hl; injection hl with hl; subst hl; subst hi
      simp [AS.new, Pos.nat_succ]
    · rw [if_neg hi] at hl
      have := h.dom i l hl
      simp [AS.new, Pos.nat_succ]; omega
  · intro i hi
    unfold Env.put
    rw [if_neg (fun e => by subst e; omega)]
  · simp [AS.new, Pos.nat_succ]
  · simp
  · intro b hb _
    simp [Array.getElem?_push, Nat.ne_of_lt hb]

theorem step_new {ρ s w} (h : R ρ s w) {cs : List AV} {L : List Value} (hr : relL ρ cs L) {C : Array Value} {E : TypeId} {fr : Nat × Nat}
    (hfr : fr.2 ≤ fr.1 ∨ C.size ≤ fr.1) (hC : L.length ≤ C.size) (hcells : ∀ k, k < L.length → C[k]? = L[k]?) (n : Nat) :
    Step ρ s w (ρ.put s.next ⟨w.heap.size, 0, C.size⟩) (s.new (.cells cs)) { w with heap := w.heap.push (.cells C E fr), drawn := n } :=
  step_newO h n fun _ hsub => ⟨C, E, fr, L, by simp, rfl, hfr, relL.mono hsub _ _ hr, by simpa using hC, fun k hk => by simpa using hcells k hk⟩

/-- A block is written over. -/
theorem step_putO {ρ s w} (h : R ρ s w) {i : Pos} {l : Loc} (hl : ρ i = some l) {o0 no : AObj} (hg : PT.get i s.heap = some o0) (hlv0 : o0.live = true) {O : Obj} {w' : World}
    (hno : objRel ρ w' no l) (hw : w' = { w with heap := w.heap.setIfInBounds l.b O }) :
    Step ρ s w ρ (s.put i no) w' := by
  subst hw
  have hlb := (h.dom i l hl).2
  have hlive : Live ρ s l.b := ⟨i, _, l, hg, hlv0, hl, rfl⟩
  refine ⟨⟨?_, ?_, ?_⟩, fun _ _ => rfl, Nat.le_refl _, ?_, ?_, ?_, rfl, rfl, rfl⟩
  · intro j o l' e hl'
    by_cases hi : j = i
    · subst hi
      rw [hl] at hl'; injection hl' with hl'; subst hl'
      simp only [AS.put, PT.get_set_same] at e
      injection e with e; subst e
      exact hno
    · have e' : PT.get j s.heap = some o := by simpa [AS.put, PT.get_set_other _ _ _ _ hi] using e
      cases o with
      | dead => trivial
      | cells c =>
        have hne : l.b ≠ l'.b := fun hb => hi (h.inj j i _ _ l' l e' rfl hg hlv0 hl' hl hb.symm)
        exact objRel_grow (Sub.refl ρ) (by simp [Array.getElem?_setIfInBounds_ne hne]) (h.ob j _ l' e' hl')
      | map c =>
        have hne : l.b ≠ l'.b := fun hb => hi (h.inj j i _ _ l' l e' rfl hg hlv0 hl' hl hb.symm)
        exact objRel_grow (Sub.refl ρ) (by simp [Array.getElem?_setIfInBounds_ne hne]) (h.ob j _ l' e' hl')
  · intro j k o o' l1 l2 e ho e2 ho' hl1 hl2 hb
    have key : ∀ j o, PT.get j (s.put i no).heap = some o → ∃ o', PT.get j s.heap = some o' ∧ (o.live = true → o'.live = true) := by
      intro j o e
      by_cases hi : j = i
      · subst hi; exact ⟨_, hg, fun _ => hlv0⟩
      · exact ⟨o, by simpa [AS.put, PT.get_set_other _ _ _ _ hi] using e, id⟩
    obtain ⟨p, hp, hp'⟩ := key j o e
    obtain ⟨q, hq, hq'⟩ := key k o' e2
    exact h.inj j k p q l1 l2 hp (hp' ho) hq (hq' ho') hl1 hl2 hb
  · intro j l' hl'
    have := h.dom j l' hl'
    simpa [AS.put] using this
  · rintro b ⟨j, o, l', e, ho, hl', rfl⟩
    by_cases hi : j = i
    · subst hi; rw [hl] at hl'; injection hl' with hl'; subst hl'; exact .inr hlive
    · exact .inr ⟨j, o, l', by simpa [AS.put, PT.get_set_other _ _ _ _ hi] using e, ho, hl', rfl⟩
  · simp
  · intro b hb hnl
    have : l.b ≠ b := fun e => hnl (e ▸ hlive)
    simp [Array.getElem?_setIfInBounds_ne this]

theorem step_put {ρ s w} (h : R ρ s w) {i : Pos} {l : Loc} (hl : ρ i = some l) {cs0 cs : List AV} (hc : s.cellsAt i = some cs0) {L : List Value} (hr : relL ρ cs L)
    {C : Array Value} {E : TypeId} {fr : Nat × Nat} (hfr : fr.2 ≤ fr.1 ∨ C.size ≤ fr.1) (hsz : C.size = l.size) (hC : l.base + L.length ≤ C.size)
    (hcells : ∀ k, k < L.length → C[l.base + k]? = L[k]?) {w' : World} (hw : w' = { w with heap := w.heap.setIfInBounds l.b (.cells C E fr) }) :
    Step ρ s w ρ (s.put i (.cells cs)) w' := by
  have hg : PT.get i s.heap = some (.cells cs0) := by
    unfold AS.cellsAt at hc
    split at hc
    · rename_i cs' hg; simp at hc; subst hc; exact hg
    · simp at hc
  exact step_putO h hl hg rfl (by subst hw; exact ⟨C, E, fr, L, by simp [(h.dom i l hl).2], hsz, hfr, hr, hC, hcells⟩) hw

/-- A block is given up. -/
theorem step_dead {ρ s w} (h : R ρ s w) (i : Pos) : Step ρ s w ρ (s.put i .dead) w := by
  refine ⟨⟨?_, ?_, ?_⟩, fun _ _ => rfl, Nat.le_refl _, ?_, Nat.le_refl _, fun _ _ _ => rfl, rfl, rfl, rfl⟩
  · intro j o l e hl
    by_cases hi : j = i
    · subst hi; simp only [AS.put, PT.get_set_same] at e; injection e with e; subst e; trivial
    · exact h.ob j o l (by simpa [AS.put, PT.get_set_other _ _ _ _ hi] using e) hl
  · have key : ∀ j o, PT.get j (s.put i .dead).heap = some o → o.live = true → PT.get j s.heap = some o := by
      intro j o e ho
      by_cases hi : j = i
      · subst hi; simp only [AS.put, PT.get_set_same] at e; injection e with e; subst e; cases ho
      · simpa [AS.put, PT.get_set_other _ _ _ _ hi] using e
    intro j k o o' l1 l2 e ho e2 ho' hl1 hl2 hb
    exact h.inj j k o o' l1 l2 (key j o e ho) ho (key k o' e2 ho') ho' hl1 hl2 hb
  · intro j l hl; simpa [AS.put] using h.dom j l hl
  · rintro b ⟨j, o, l, e, ho, hl, rfl⟩
    by_cases hi : j = i
    · subst hi; simp only [AS.put, PT.get_set_same] at e; injection e with e; subst e; cases ho
    · exact .inr ⟨j, o, l, by simpa [AS.put, PT.get_set_other _ _ _ _ hi] using e, ho, hl, rfl⟩

end Go.Sx
