/-
  The symbolic executor once more, for the kernel: the same function, written with recursors, each operation made ready once; part A: tries, lists, whole numbers.
-/
import Derived.Test.YtpdgklkcjegkfaaGreatSyB
namespace Go.Sx
open Go
noncomputable section

section
variable {α β : Type}

def PT.lf (t : PT α) : PT α := PT.rec (motive := fun _ => PT α) .e (fun l _ _ _ _ => l) t
def PT.rg (t : PT α) : PT α := PT.rec (motive := fun _ => PT α) .e (fun _ _ r _ _ => r) t
def PT.vl (t : PT α) : Option α := PT.rec (motive := fun _ => Option α) none (fun _ v _ _ _ => v) t

def getF (p : Pos) : PT α → Option α :=
  Pos.rec (motive := fun _ => PT α → Option α) (fun t => PT.vl t) (fun _ ih t => ih (PT.lf t)) (fun _ ih t => ih (PT.rg t)) p

def setF (x : α) (p : Pos) : PT α → PT α :=
  Pos.rec (motive := fun _ => PT α → PT α) (fun t => .n (PT.lf t) (some x) (PT.rg t)) (fun _ ih t => .n (ih (PT.lf t)) (PT.vl t) (PT.rg t)) (fun _ ih t => .n (PT.lf t) (PT.vl t) (ih (PT.rg t))) p

theorem getF_eq : ∀ (p : Pos) (t : PT α), getF p t = PT.get p t := by
  intro p
  induction p with
  | h => intro t; cases t <;> rfl
  | o p ih =>
    intro t
    cases t with
    | e => show getF p .e = _; rw [ih]; simp
    | n l v r => exact ih l
  | i p ih =>
    intro t
    cases t with
    | e => show getF p .e = _; rw [ih]; simp
    | n l v r => exact ih r

theorem setF_eq (x : α) : ∀ (p : Pos) (t : PT α), setF x p t = PT.set x p t := by
  intro p
  induction p with
  | h => intro t; cases t <;> rfl
  | o p ih =>
    intro t
    cases t with
    | e => show PT.n (setF x p .e) none .e = _; rw [ih]; rfl
    | n l v r => show PT.n (setF x p l) v r = _; rw [ih]; rfl
  | i p ih =>
    intro t
    cases t with
    | e => show PT.n .e none (setF x p .e) = _; rw [ih]; rfl
    | n l v r => show PT.n l v (setF x p r) = _; rw [ih]; rfl

def nthF (l : List α) : Nat → Option α :=
  List.rec (motive := fun _ => Nat → Option α) (fun _ => none) (fun x _ ih n => Nat.rec (motive := fun _ => Option α) (some x) (fun m _ => ih m) n) l

theorem nthF_eq : ∀ (l : List α) (n : Nat), nthF l n = nth l n := by
  intro l
  induction l with
  | nil => intro n; rfl
  | cons x l ih =>
    intro n
    cases n with
    | zero => rfl
    | succ n => exact ih n

/-- One element is put. -/
def putN (x : α) (l : List α) : Nat → Option (List α) :=
  List.rec (motive := fun _ => Nat → Option (List α)) (fun _ => none)
    (fun y ys ih n => Nat.rec (motive := fun _ => Option (List α)) (some (x :: ys)) (fun m _ => Option.rec (motive := fun _ => Option (List α)) none (fun l => some (y :: l)) (ih m)) n) l

theorem putN_eq (x : α) : ∀ (l : List α) (n : Nat), putN x l n = over n l [x] := by
  intro l
  induction l with
  | nil => intro n; cases n <;> rfl
  | cons y l ih =>
    intro n
    cases n with
    | zero => cases l <;> rfl
    | succ n =>
      show Option.rec (motive := fun _ => Option (List α)) none (fun l => some (y :: l)) (putN x l n) = _
      rw [ih n]
      simp only [over]
      cases over n l [x] <;> rfl

def dropF (n : Nat) : List α → Option (List α) :=
  Nat.rec (motive := fun _ => List α → Option (List α)) (fun l => some l) (fun _ ih l => List.rec (motive := fun _ => Option (List α)) none (fun _ xs _ => ih xs) l) n

theorem dropF_eq : ∀ (n : Nat) (l : List α), dropF n l = dropN n l := by
  intro n
  induction n with
  | zero => intro l; rfl
  | succ n ih =>
    intro l
    cases l with
    | nil => rfl
    | cons x xs => exact ih xs

def takeF (n : Nat) : List α → Option (List α) :=
  Nat.rec (motive := fun _ => List α → Option (List α)) (fun _ => some [])
    (fun _ ih l => List.rec (motive := fun _ => Option (List α)) none (fun x xs _ => Option.rec (motive := fun _ => Option (List α)) none (fun l => some (x :: l)) (ih xs)) l) n

theorem takeF_eq : ∀ (n : Nat) (l : List α), takeF n l = takeN n l := by
  intro n
  induction n with
  | zero => intro l; rfl
  | succ n ih =>
    intro l
    cases l with
    | nil => rfl
    | cons x xs =>
      show Option.rec (motive := fun _ => Option (List α)) none (fun l => some (x :: l)) (takeF n xs) = _
      rw [ih xs]
      simp only [takeN]
      cases takeN n xs <;> rfl

def sliceF (o n : Nat) (l : List α) : Option (List α) := Option.rec (motive := fun _ => Option (List α)) none (fun l => takeF n l) (dropF o l)

theorem sliceF_eq (o n : Nat) (l : List α) : sliceF o n l = sliceL o n l := by
  unfold sliceF sliceL
  rw [dropF_eq]
  cases dropN o l with
  | none => rfl
  | some l => exact takeF_eq n l

def mapF (f : α → Option β) (l : List α) : Option (List β) :=
  List.rec (motive := fun _ => Option (List β)) (some []) (fun x _ ih => Option.rec (motive := fun _ => Option (List β)) none (fun y => Option.rec (motive := fun _ => Option (List β)) none (fun ys => some (y :: ys)) ih) (f x)) l

theorem mapF_eq (f : α → Option β) : ∀ (l : List α), mapF f l = mapO f l := by
  intro l
  induction l with
  | nil => rfl
  | cons x l ih =>
    show Option.rec (motive := fun _ => Option (List β)) none (fun y => Option.rec (motive := fun _ => Option (List β)) none (fun ys => some (y :: ys)) (mapF f l)) (f x) = _
    rw [ih]
    simp only [mapO]
    cases f x with
    | none => rfl
    | some y => cases mapO f l <;> rfl
end

/-! ### Whole numbers -/

def pw : IntKind → Nat
  | .i8 | .u8 => 256
  | .i16 | .u16 => 65536
  | .i32 | .u32 => 4294967296
  | .i64 | .u64 => 18446744073709551616

def hw : IntKind → Nat
  | .i8 | .u8 => 128
  | .i16 | .u16 => 32768
  | .i32 | .u32 => 2147483648
  | .i64 | .u64 => 9223372036854775808

theorem pw_eq (k : IntKind) : pw k = 2 ^ k.bits := by cases k <;> rfl
theorem hw_eq (k : IntKind) : hw k = 2 ^ (k.bits - 1) := by cases k <;> rfl

def wrapF (k : IntKind) (n : Int) : Int :=
  Int.rec (motive := fun _ => Int)
    (fun m => bif k.signed && Nat.ble (hw k) (Nat.mod m (pw k)) then Int.subNatNat (Nat.mod m (pw k)) (pw k) else .ofNat (Nat.mod m (pw k)))
    (fun m => k.wrap (.negSucc m)) n

theorem wrapF_eq (k : IntKind) (n : Int) : wrapF k n = k.wrap n := by
  cases n with
  | negSucc m => rfl
  | ofNat m =>
    show (bif k.signed && Nat.ble (hw k) (m % pw k) then Int.subNatNat (m % pw k) (pw k) else ((m % pw k : Nat) : Int)) = _
    unfold IntKind.wrap
    have e : (Int.ofNat m) % (2 ^ k.bits : Int) = ((m % pw k : Nat) : Int) := by
      rw [pw_eq]; simp
    simp only [e, cond_eq_ite]
    have e2 : ((2 : Int) ^ (k.bits - 1)) = ((hw k : Nat) : Int) := by rw [hw_eq]; simp
    have e3 : ((2 : Int) ^ k.bits) = ((pw k : Nat) : Int) := by rw [pw_eq]; simp
    rw [e2, e3, Int.subNatNat_eq_coe]
    have e4 : (k.signed && Nat.ble (hw k) (m % pw k)) = (k.signed && decide (((m % pw k : Nat) : Int) ≥ ((hw k : Nat) : Int))) := by
      congr 1
      rw [Bool.eq_iff_iff, Nat.ble_eq, decide_eq_true_eq]
      omega
    rw [e4]

/-- Two whole numbers, both not below 0. -/
def natsF (a b : Int) (yes : Nat → Nat → Option AV) (no : Option AV) : Option AV :=
  Int.rec (motive := fun _ => Option AV) (fun m => Int.rec (motive := fun _ => Option AV) (fun n => yes m n) (fun _ => no) b) (fun _ => no) a

theorem natsF_eq {a b : Int} {yes : Nat → Nat → Option AV} {no r : Option AV} (h1 : ∀ m n : Nat, a = m → b = n → yes m n = r) (h2 : no = r) : natsF a b yes no = r := by
  cases a with
  | ofNat m => cases b with
    | ofNat n => exact h1 m n rfl rfl
    | negSucc n => exact h2
  | negSucc m => exact h2

structure IC where
  fn : IntKind → Int → IntKind → Int → Option AV

/-- Operators, each made ready: what `intOp` gives. -/
def intC (op : BinOp) : IC :=
  match op with
  | .add => ⟨fun k a k' b => bif decide (k = k') then some (.int k (wrapF k (Int.add a b))) else none⟩
  | .sub => ⟨fun k a k' b => bif decide (k = k') then some (.int k (wrapF k (Int.sub a b))) else none⟩
  | .mul => ⟨fun k a k' b => bif decide (k = k') then some (.int k (wrapF k (Int.mul a b))) else none⟩
  | .eql => ⟨fun k a k' b => natsF a b (fun m n => bif decide (k = k') then some (.bool (Nat.beq m n)) else none) (intOp .eql k a k' b false false)⟩
  | .neq => ⟨fun k a k' b => natsF a b (fun m n => bif decide (k = k') then some (.bool (!Nat.beq m n)) else none) (intOp .neq k a k' b false false)⟩
  | .lss => ⟨fun k a k' b => natsF a b (fun m n => bif decide (k = k') then some (.bool (Nat.ble (Nat.succ m) n)) else none) (intOp .lss k a k' b false false)⟩
  | .leq => ⟨fun k a k' b => natsF a b (fun m n => bif decide (k = k') then some (.bool (Nat.ble m n)) else none) (intOp .leq k a k' b false false)⟩
  | .gtr => ⟨fun k a k' b => natsF a b (fun m n => bif decide (k = k') then some (.bool (Nat.ble (Nat.succ n) m)) else none) (intOp .gtr k a k' b false false)⟩
  | .geq => ⟨fun k a k' b => natsF a b (fun m n => bif decide (k = k') then some (.bool (Nat.ble n m)) else none) (intOp .geq k a k' b false false)⟩
  | .and => ⟨fun k a k' b => natsF a b (fun m n => bif decide (k = k') then some (.int k (wrapF k (.ofNat (Nat.land (Nat.mod m (pw k)) (Nat.mod n (pw k)))))) else none) (intOp .and k a k' b false false)⟩
  | .or => ⟨fun k a k' b => natsF a b (fun m n => bif decide (k = k') then some (.int k (wrapF k (.ofNat (Nat.lor (Nat.mod m (pw k)) (Nat.mod n (pw k)))))) else none) (intOp .or k a k' b false false)⟩
  | .xor => ⟨fun k a k' b => natsF a b (fun m n => bif decide (k = k') then some (.int k (wrapF k (.ofNat (Nat.xor (Nat.mod m (pw k)) (Nat.mod n (pw k)))))) else none) (intOp .xor k a k' b false false)⟩
  | .shl => ⟨fun k a k' b => natsF a b (fun m n => some (.int k (wrapF k (.ofNat (Nat.mul m (Nat.pow 2 (min n k.bits))))))) (intOp .shl k a k' b false false)⟩
  | .shr => ⟨fun k a k' b => natsF a b (fun m n => some (.int k (.ofNat (Nat.div m (Nat.pow 2 (min n k.bits)))))) (intOp .shr k a k' b false false)⟩
  | op => ⟨fun k a k' b => intOp op k a k' b false false⟩

theorem bv_ofNat (w m : Nat) : (BitVec.ofInt w (m : Int)).toNat = m % 2 ^ w := by simp

theorem intC_eq (op : BinOp) (k : IntKind) (a : Int) (k' : IntKind) (b : Int) : (intC op).fn k a k' b = intOp op k a k' b false false := by
  cases op <;> simp only [intC]
  case add => simp only [wrapF_eq, intOp, mkInt, cond_false]; rfl
  case sub => simp only [wrapF_eq, intOp, mkInt, cond_false]; rfl
  case mul => simp only [wrapF_eq, intOp, mkInt, cond_false]; rfl
  case eql =>
    refine natsF_eq (fun m n h1 h2 => ?_) rfl
    subst h1 h2
    simp only [intOp, mkBool, cond_false]
    have : Nat.beq m n = ((m : Int) == (n : Int)) := by rw [Bool.eq_iff_iff, Nat.beq_eq, beq_iff_eq]; omega
    rw [this]
  case neq =>
    refine natsF_eq (fun m n h1 h2 => ?_) rfl
    subst h1 h2
    simp only [intOp, mkBool, cond_false]
    have : (!Nat.beq m n) = ((m : Int) != (n : Int)) := by
      have : Nat.beq m n = ((m : Int) == (n : Int)) := by rw [Bool.eq_iff_iff, Nat.beq_eq, beq_iff_eq]; omega
      rw [this]; rfl
    rw [this]
  case lss =>
    refine natsF_eq (fun m n h1 h2 => ?_) rfl
    subst h1 h2
    simp only [intOp, mkBool, cond_false]
    have : Nat.ble (Nat.succ m) n = decide ((m : Int) < (n : Int)) := by rw [Bool.eq_iff_iff, Nat.ble_eq]; simp; omega
    rw [this]
  case leq =>
    refine natsF_eq (fun m n h1 h2 => ?_) rfl
    subst h1 h2
    simp only [intOp, mkBool, cond_false]
    have : Nat.ble m n = decide ((m : Int) ≤ (n : Int)) := by rw [Bool.eq_iff_iff, Nat.ble_eq]; simp
    rw [this]
  case gtr =>
    refine natsF_eq (fun m n h1 h2 => ?_) rfl
    subst h1 h2
    simp only [intOp, mkBool, cond_false]
    have : Nat.ble (Nat.succ n) m = decide ((m : Int) > (n : Int)) := by rw [Bool.eq_iff_iff, Nat.ble_eq]; simp; omega
    rw [this]
  case geq =>
    refine natsF_eq (fun m n h1 h2 => ?_) rfl
    subst h1 h2
    simp only [intOp, mkBool, cond_false]
    have : Nat.ble n m = decide ((m : Int) ≥ (n : Int)) := by rw [Bool.eq_iff_iff, Nat.ble_eq]; simp
    rw [this]
  case and =>
    refine natsF_eq (fun m n h1 h2 => ?_) rfl
    subst h1 h2
    simp only [intOp, mkInt, cond_false, wrapF_eq]
    rw [BitVec.toNat_and, bv_ofNat, bv_ofNat, ← pw_eq]
    rfl
  case or =>
    refine natsF_eq (fun m n h1 h2 => ?_) rfl
    subst h1 h2
    simp only [intOp, mkInt, cond_false, wrapF_eq]
    rw [BitVec.toNat_or, bv_ofNat, bv_ofNat, ← pw_eq]
    rfl
  case xor =>
    refine natsF_eq (fun m n h1 h2 => ?_) rfl
    subst h1 h2
    simp only [intOp, mkInt, cond_false, wrapF_eq]
    rw [BitVec.toNat_xor, bv_ofNat, bv_ofNat, ← pw_eq]
    rfl
  case shl =>
    refine natsF_eq (fun m n h1 h2 => ?_) rfl
    subst h1 h2
    have : ¬ ((n : Int) < 0) := by omega
    simp only [intOp, mkInt, cond_false, wrapF_eq, this, decide_false, Int.toNat_natCast]
    congr 3
  case shr =>
    refine natsF_eq (fun m n h1 h2 => ?_) rfl
    subst h1 h2
    have : ¬ ((n : Int) < 0) := by omega
    simp only [intOp, mkInt, cond_false, this, decide_false, Int.toNat_natCast]
    congr 2
    have : ((2 : Int) ^ min n k.bits) = ((2 ^ min n k.bits : Nat) : Int) := by simp
    rw [this, Int.fdiv_eq_ediv_of_nonneg _ (Int.natCast_nonneg _)]
    rfl
end
end Go.Sx
