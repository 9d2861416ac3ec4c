/-
  The symbolic executor once more, for the kernel, part B: each operation made ready.
-/
import Derived.Test.YtpdgklkcjegkfaaGreatSzA
namespace Go.Sx
open Go
noncomputable section

def AS.cellsF (s : AS) (i : Pos) : Option (List AV) :=
  match getF i s.heap with
  | some (.cells cs) => some cs
  | _ => none

theorem cellsF_eq (s : AS) (i : Pos) : s.cellsF i = s.cellsAt i := by unfold AS.cellsF AS.cellsAt; rw [getF_eq]; rfl

def succF (p : Pos) : Pos := Pos.rec (motive := fun _ => Pos) (.o .h) (fun p _ => .i p) (fun _ ih => .o ih) p
theorem succF_eq : ∀ p : Pos, succF p = p.succ := by
  intro p
  induction p with
  | h => rfl
  | o p _ => rfl
  | i p ih => show Pos.o (succF p) = _; rw [ih]; rfl

def AS.putF (s : AS) (i : Pos) (o : AObj) : AS := ⟨setF o i s.heap, s.next, s.orc, s.cons⟩
def AS.newF (s : AS) (o : AObj) : AS := ⟨setF o s.next s.heap, succF s.next, s.orc, s.cons⟩
theorem putF_eq (s : AS) (i : Pos) (o : AObj) : s.putF i o = s.put i o := by unfold AS.putF AS.put; rw [setF_eq]
theorem newF_eq (s : AS) (o : AObj) : s.newF o = s.new o := by unfold AS.newF AS.new; rw [setF_eq, succF_eq]

/-! ### Operands -/

inductive CX where
  | slot (p : Pos)
  | const (v : AV)
  | bad

def cX : Operand → CX
  | .tmp t => .slot (Pos.slot t)
  | .const v => match ofV v with
    | some v => .const v
    | none => .bad
  | .func f => .const (.fn (.func f) [] [])
  | .global _ => .bad

def evX (x : CX) (tm : PT AV) : Option AV :=
  match x with
  | .slot p => getF p tm
  | .const v => some v
  | .bad => none

/-- An operand's value, as `Fr.ev` gives it. -/
def evT (tm : PT AV) : Operand → Option AV := fun o => evX (cX o) tm

theorem evX_eq (f : Fr) (o : Operand) : evX (cX o) f.tm = f.ev o := by
  cases o with
  | tmp t => exact getF_eq _ _
  | const v => simp only [cX, Fr.ev]; cases ofV v <;> rfl
  | func g => rfl
  | global g => rfl

theorem evT_eq (f : Fr) : evT f.tm = f.ev := funext fun o => evX_eq f o

/-! ### What an operation comes to -/

inductive VR where
  | v (x : AV) (s : AS)
  | pan (v : AV) (s : AS)
  | dfr (f : FuncId) (args : List AV) (s : AS)
  | fail

abbrev CL := FuncId → List AV → AS → CR

def ofOR (call : CL) : OR → VR
  | .v x s => .v x s
  | .call g args s => match call g args s with
    | .ret x s => .v x s
    | .pan v s => .pan v s
    | .fail => .fail
  | .dfr g args s => .dfr g args s
  | .fail => .fail

section
variable (P : Program)

/-- One operation: what the elder executor does. -/
def opR (call : CL) (o : Oper) (ev : Operand → Option AV) (s : AS) : VR :=
  match panicA o ev with
  | some v => .pan v s
  | none => ofOR call (stepOr P o ev s)

structure CO where
  fn : CL → PT AV → AS → VR

def gen (o : Oper) : CO := ⟨fun call tm s => opR P call o (evT tm) s⟩

def vO (r : Option AV) (s : AS) : VR :=
  match r with
  | some x => .v x s
  | none => .fail

def cFail : CO := ⟨fun _ _ _ => .fail⟩

def cMove (x : CX) : CO := ⟨fun _ tm s => vO (evX x tm) s⟩

def loadOne (a : Option AV) (s : AS) : VR :=
  match a with
  | some (.ptr i o) => match s.cellsF i with
    | some cs => vO (nthF cs o) s
    | none => .fail
  | _ => .fail

def loadMany (n : Nat) (a : Option AV) (s : AS) : VR :=
  match a with
  | some (.ptr i o) => match s.cellsF i with
    | some cs => match sliceF o n cs with
      | some l => .v (.agg l) s
      | none => .fail
    | none => .fail
  | _ => .fail

def cLoad (t : TypeId) (x : CX) : CO :=
  match aggT P t with
  | some false => ⟨fun _ tm s => loadOne (evX x tm) s⟩
  | some true => match sz P t with
    | some n => ⟨fun _ tm s => loadMany n (evX x tm) s⟩
    | none => cFail
  | none => cFail

def isAgg : AV → Bool
  | .agg _ => true
  | _ => false

def storeOne (a x : AV) (s : AS) : VR :=
  match a with
  | .ptr i o => match s.cellsF i with
    | some cs => match putN x cs o with
      | some l => .v undefA (s.putF i (.cells l))
      | none => .fail
    | none => .fail
  | _ => .fail

def cStore (o : Oper) (t : TypeId) (a x : CX) : CO :=
  match sz P t with
  | some 1 => ⟨fun call tm s => match evX a tm with
    | some av => match evX x tm with
      | some xv => bif AV.one xv then storeOne av xv s else (gen P o).fn call tm s
      | none => .fail
    | none => .fail⟩
  | _ => gen P o

def fieldOff (t : TypeId) (f : Nat) : Option Nat :=
  match fieldOf P t f with
  | some f => match sz P f.type with
    | some n => bif Nat.beq n 0 then none else some f.offset
    | none => none
  | none => none

def cFieldAddr (t : TypeId) (x : CX) (f : Nat) : CO :=
  match fieldOff P t f with
  | some off => ⟨fun _ tm s => match evX x tm with
    | some (.ptr i o) => .v (.ptr i (Nat.add o off)) s
    | _ => .fail⟩
  | none => cFail

def pickPart (one : Bool) (n : Nat) (cs : List AV) (o : Nat) : Option AV :=
  bif one then nthF cs o else match sliceF o n cs with
    | some l => some (.agg l)
    | none => none

/-- How a part of a type is taken. -/
def partC (t : TypeId) : Option (Bool × Nat) :=
  match aggT P t with
  | some false => some (true, 0)
  | some true => match sz P t with
    | some n => some (false, n)
    | none => none
  | none => none

def cField (t : TypeId) (x : CX) (f : Nat) : CO :=
  match fieldOf P t f with
  | some f => match partC P f.type with
    | some (one, n) => ⟨fun _ tm s => match evX x tm with
      | some (.agg cs) => vO (pickPart one n cs f.offset) s
      | _ => .fail⟩
    | none => cFail
  | none => cFail

def idxF (x : Option AV) : Option Nat :=
  match x with
  | some (.int _ (.ofNat n)) => some n
  | _ => none

theorem idxF_eq (x : Option AV) : idxF x = x.bind idx := by
  cases x with
  | none => rfl
  | some x =>
    cases x with
    | int k n => cases n <;> rfl
    | _ => rfl

def cIndexAddr (o : Oper) (t : TypeId) (x ix : CX) : CO :=
  match P.underlying t with
  | some (.array len e) => match sz P e with
    | some n => ⟨fun _ tm s => match evX x tm with
      | some (.ptr i o) => match idxF (evX ix tm) with
        | some k => bif Nat.blt k len then .v (.ptr i (Nat.add o (Nat.mul k n))) s else .fail
        | none => .fail
      | _ => .fail⟩
    | none => gen P o
  | some (.slice e) => match sz P e with
    | some n => ⟨fun _ tm s => match evX x tm with
      | some (.slc i o len _) => match idxF (evX ix tm) with
        | some k => bif Nat.blt k len then .v (.ptr i (Nat.add o (Nat.mul k n))) s else .fail
        | none => .fail
      | _ => .fail⟩
    | none => gen P o
  | _ => gen P o

def cIndex (o : Oper) (t : TypeId) (x ix : CX) : CO :=
  match P.underlying t with
  | some (.array len e) => match sz P e, partC P e with
    | some m, some (one, n) => ⟨fun _ tm s => match evX x tm with
      | some (.agg cs) => match idxF (evX ix tm) with
        | some k => bif Nat.blt k len then vO (pickPart one n cs (Nat.mul k m)) s else .fail
        | none => .fail
      | _ => .fail⟩
    | _, _ => gen P o
  | _ => gen P o

def cExtract (x : CX) (ix : Nat) : CO := ⟨fun _ tm s => match evX x tm with
  | some (.tup vs) => vO (nthF vs ix) s
  | _ => .fail⟩

def cBin (o : Oper) (op : BinOp) (x y : CX) : CO := ⟨fun call tm s =>
  match evX x tm with
  | some (.int k a) => match evX y tm with
    | some (.int k' b) => vO ((intC op).fn k a k' b) s
    | _ => (gen P o).fn call tm s
  | _ => (gen P o).fn call tm s⟩

def cUn (op : UnOp) (x : CX) : CO := ⟨fun _ tm s => match evX x tm with
  | some x => vO (unA op x) s
  | none => .fail⟩

def cConv (o : Oper) (src dst : TypeId) (x : CX) : CO :=
  match P.underlying src, P.underlying dst with
  | some (.int _), some (.int k) => ⟨fun call tm s => match evX x tm with
    | some (.int _ n) => .v (.int k (wrapF k n)) s
    | _ => (gen P o).fn call tm s⟩
  | _, _ => gen P o

def cNil (x : CX) : CO := ⟨fun _ tm s => match evX x tm with
  | some (.ptr i o) => .v (.ptr i o) s
  | some (.fn (.func f) a b) => .v (.fn (.func f) a b) s
  | _ => .fail⟩

def callX (call : CL) (f : Option AV) (args : List AV) (s : AS) : VR :=
  match f with
  | some (.fn (.func g) first captured) => bif hasBody P g then
      match call g (first ++ args ++ captured) s with
      | .ret x s => .v x s
      | .pan v s => .pan v s
      | .fail => .fail
    else .fail
  | _ => .fail

def xsF (xs : List CX) (tm : PT AV) : Option (List AV) := mapF (fun x => evX x tm) xs

def cCall (o : Oper) (c : Call) : CO :=
  let xs := c.args.toList.map cX
  match c.callee with
  | .value f => ⟨fun call tm s => match xsF xs tm with
    | some args => callX P call (evX (cX f) tm) args s
    | none => .fail⟩
  | .builtin .append => match (c.argTypes[0]?).bind P.underlying, (c.argTypes[1]?).bind P.underlying with
    | some (.slice e), some (.slice _) => ⟨fun call tm s => match xsF xs tm with
      | some [x, y] => ofOR call (appendA P e x y s)
      | _ => (gen P o).fn call tm s⟩
    | _, _ => gen P o
  | .builtin .len => match (c.argTypes[0]?).bind P.underlying with
    | some (.slice _) => ⟨fun call tm s => match xsF xs tm with
      | some [x] => vO (lenA x) s
      | _ => (gen P o).fn call tm s⟩
    | _ => gen P o
  | _ => gen P o

def cAlloc (e : TypeId) : CO :=
  match zeroA P e with
  | some z => ⟨fun _ _ s => .v (.ptr s.next 0) (s.newF (.cells z.cells))⟩
  | none => cFail

def cSlice (o : Oper) (t : TypeId) (x : CX) (lo hi mx : Option Operand) : CO :=
  let f (y : Option Operand) : Option CX := y.map cX
  let l := f lo
  let h := f hi
  let m := f mx
  let g (y : Option CX) (tm : PT AV) : Option (Option AV) := match y with
    | none => some none
    | some y => match evX y tm with
      | some v => some (some v)
      | none => none
  ⟨fun call tm s => match evX x tm with
    | some x => match g l tm with
      | some lo => match g h tm with
        | some hi => match g m tm with
          | some mx => vO (sliceA P t x lo hi mx) s
          | none => (gen P o).fn call tm s
        | none => (gen P o).fn call tm s
      | none => (gen P o).fn call tm s
    | none => .fail⟩

def cMakeFunc (fn : Fn) (a b : Array Operand) : CO :=
  let xs := a.toList.map cX
  let ys := b.toList.map cX
  ⟨fun _ tm s => match xsF xs tm with
    | some a => match xsF ys tm with
      | some b => .v (.fn fn a b) s
      | none => .fail
    | none => .fail⟩

def cPick (o : Oper) (c a b : CX) : CO := ⟨fun call tm s => match evX c tm with
  | some (.bool true) => vO (evX a tm) s
  | some (.bool false) => vO (evX b tm) s
  | _ => (gen P o).fn call tm s⟩

def evP (tm : PT AV) (p : Nat × CX) : Option (Nat × AV) :=
  match evX p.2 tm with
  | some y => some (p.1, y)
  | none => none

def cBuild (o : Oper) (t : TypeId) (parts : Array (Nat × Operand)) : CO :=
  let ps := parts.toList.map fun p => (p.1, cX p.2)
  match zeroA P t, P.underlying t with
  | some (.agg z), some (.struct fs) => match placesOf P fs with
    | some pl => ⟨fun call tm s => match mapF (evP tm) ps with
      | some ps => match fillA (fun i => nthF pl i) z ps with
        | some l => .v (.agg l) s
        | none => .fail
      | none => (gen P o).fn call tm s⟩
    | none => gen P o
  | _, _ => gen P o

/-- An operation, made ready. -/
def cOp (o : Oper) : CO :=
  match o.op with
  | .move x => cMove (cX x)
  | .assign x => cMove (cX x)
  | .load t a => cLoad P t (cX a)
  | .store t a x => cStore P o t (cX a) (cX x)
  | .fieldAddr t x f => cFieldAddr P t (cX x) f
  | .field t x f => cField P t (cX x) f
  | .indexAddr t x ix => cIndexAddr P o t (cX x) (cX ix)
  | .index t x ix => cIndex P o t (cX x) (cX ix)
  | .extract x ix => cExtract (cX x) ix
  | .binOp op _ x y _ => cBin P o op (cX x) (cX y)
  | .unOp op _ x => cUn op (cX x)
  | .convert a b x => cConv P o a b (cX x)
  | .nilCheck x => cNil (cX x)
  | .call c => cCall P o c
  | .alloc e => cAlloc P e
  | .slice t x lo hi mx => cSlice P o t (cX x) lo hi mx
  | .makeFunc fn a b => cMakeFunc fn a b
  | .pick c a b => cPick P o (cX c) (cX a) (cX b)
  | .build t ps => cBuild P o t ps
  | _ => gen P o
end

section
variable {P : Program}

theorem gen_eq (call : CL) (o : Oper) (f : Fr) (s : AS) : (gen P o).fn call f.tm s = opR P call o f.ev s := by
  simp only [gen, evT_eq]

theorem vO_eq (call : CL) (r : Option AV) (s : AS) : vO r s = ofOR call (match r with | some x => .v x s | none => .fail) := by
  cases r <;> rfl

theorem mapF_map {α β γ : Type} (g : α → β) (f : β → Option γ) (l : List α) : mapF f (l.map g) = mapO (fun x => f (g x)) l := by
  rw [mapF_eq]
  induction l with
  | nil => rfl
  | cons x l ih => simp only [List.map_cons, mapO, ih]

theorem xsF_eq (f : Fr) (xs : Array Operand) : xsF (xs.toList.map cX) f.tm = evs f.ev xs := by
  unfold xsF evs
  rw [mapF_map]
  congr 1
  exact funext fun o => evX_eq f o

theorem pickPart_eq {t : TypeId} {one : Bool} {n : Nat} (h : partC P t = some (one, n)) (cs : List AV) (o : Nat) : pickPart one n cs o = partA P t cs o := by
  unfold partC at h
  unfold partA pickPart
  split at h
  · rename_i ha
    simp only [Option.some.injEq, Prod.mk.injEq] at h
    obtain ⟨rfl, rfl⟩ := h
    rw [ha]; exact nthF_eq _ _
  · rename_i ha
    split at h
    · rename_i m hm
      simp only [Option.some.injEq, Prod.mk.injEq] at h
      obtain ⟨rfl, rfl⟩ := h
      rw [ha]
      simp only [hm, cond_false, sliceF_eq]
      cases sliceL o m cs <;> rfl
    · simp at h
  · simp at h

theorem cOp_eq (call : CL) (o : Oper) (f : Fr) (s : AS) : (cOp P o).fn call f.tm s = opR P call o f.ev s := by
  have G := gen_eq (P := P) call o f s
  obtain ⟨dst, op, type, pos, after, guard⟩ := o
  cases op
  case move x => simp only [cOp, cMove, evX_eq, opR, panicA, stepOr, stepOp]; exact vO_eq call _ s
  case assign x => simp only [cOp, cMove, evX_eq, opR, panicA, stepOr, stepOp]; exact vO_eq call _ s
  case load t a =>
    simp only [cOp, opR, panicA, stepOr, stepOp, cLoad]
    split
    · rename_i ha
      simp only [evX_eq]
      cases f.ev a with
      | none => rfl
      | some x =>
        cases x <;> simp only [loadOne, loadT]
        all_goals try rfl
        rw [cellsF_eq]
        split
        · rename_i hc; simp only [hc, ha]; rw [nthF_eq]; exact vO_eq call _ s
        · rename_i hc
          simp only [hc]; rfl
    · rename_i ha
      split
      · rename_i n hn
        simp only [evX_eq]
        cases f.ev a with
        | none => rfl
        | some x =>
          cases x <;> simp only [loadMany, loadT]
          all_goals try rfl
          rw [cellsF_eq]
          split
          · rename_i hc
            simp only [hc, ha, hn, sliceF_eq]
            split
            · rename_i hl; simp only [hl]; rfl
            · rename_i hl
              simp only [hl]; rfl
          · rename_i hc
            simp only [hc]; rfl
      · rename_i hn
        cases f.ev a with
        | none => rfl
        | some x =>
          cases x <;> simp only [loadT]
          all_goals try rfl
          cases s.cellsAt _ with
          | none => rfl
          | some cs => simp only [ha, hn]; rfl
    · rename_i ha
      cases f.ev a with
      | none => rfl
      | some x =>
        cases x <;> simp only [loadT]
        all_goals try rfl
        cases s.cellsAt _ with
        | none => rfl
        | some cs => simp only [ha]; rfl
  case store t a x =>
    simp only [cOp, cStore]
    split
    · rename_i hn
      simp only [evX_eq, G]
      simp only [opR, panicA, stepOr, stepOp]
      cases f.ev a with
      | none => rfl
      | some av =>
        cases hx : f.ev x with
        | none => rfl
        | some xv =>
          simp only []
          cases h1 : AV.one xv with
          | false => rfl
          | true =>
            have hcells : xv.cells = [xv] := by cases xv <;> first | rfl | (simp [AV.one] at h1)
            simp only [cond_true]
            cases av <;> simp only [storeOne, storeT]
            all_goals try rfl
            rw [cellsF_eq]
            split
            · rename_i hc
              simp only [hc, hn, hcells, List.length_singleton, beq_self_eq_true, oneAll, List.all_cons, h1, List.all_nil, Bool.and_self, cond_true, putN_eq, putF_eq]
              split
              · rename_i hl; simp only [hl]; rfl
              · rename_i hl
                simp only [hl]; rfl
            · rename_i hc
              simp only [hc]; rfl
    · exact G
  case fieldAddr t x g =>
    simp only [cOp, cFieldAddr, opR, panicA, stepOr, stepOp, fieldOff]
    cases hf : fieldOf P t g with
    | none =>
      simp only [cFail]
      cases f.ev x with
      | none => rfl
      | some y => cases y <;> rfl
    | some fd =>
      cases hn : sz P fd.type with
      | none =>
        simp only [cFail, hn]
        cases f.ev x with
        | none => rfl
        | some y => cases y <;> first | rfl | (simp only [hn]; rfl)
      | some n =>
        simp only [hn]
        cases hb : Nat.beq n 0 with
        | true =>
          simp only [cFail, cond_true]
          cases f.ev x with
          | none => rfl
          | some y => cases y <;> first | rfl | (simp only [hn, hb]; rfl)
        | false =>
          simp only [cond_false, evX_eq]
          cases f.ev x with
          | none => rfl
          | some y => cases y <;> first | rfl | (simp only [hn, hb]; rfl)
  case field t x g =>
    simp only [cOp, cField, opR, panicA, stepOr, stepOp]
    cases hf : fieldOf P t g with
    | none =>
      simp only [cFail]
      cases f.ev x with
      | none => rfl
      | some y => cases y <;> rfl
    | some fd =>
      simp only []
      cases hp : partC P fd.type with
      | none =>
        simp only [cFail]
        have : ∀ cs o, partA P fd.type cs o = none := by
          intro cs o
          unfold partC at hp
          unfold partA
          split at hp
          · simp at hp
          · rename_i ha
            split at hp
            · simp at hp
            · rename_i hs; simp only [ha, hs]
          · rename_i ha; simp only [ha]
        cases f.ev x with
        | none => rfl
        | some y => cases y <;> first | rfl | (simp only [this]; rfl)
      | some q =>
        obtain ⟨one, n⟩ := q
        simp only [evX_eq, pickPart_eq hp]
        cases f.ev x with
        | none => rfl
        | some y => cases y <;> first | rfl | exact vO_eq call _ s
  case indexAddr t x ix =>
    simp only [cOp, cIndexAddr]
    split
    · rename_i len e hu
      split
      · rename_i n hn
        simp only [opR, panicA, stepOr, stepOp, evX_eq, idxF_eq, hu]
        cases f.ev x with
        | none => rfl
        | some y =>
          cases (f.ev ix).bind idx with
          | none => cases y <;> rfl
          | some k => cases y <;> first | rfl | (simp only [hn, cond_eq_ite]; split <;> rfl)
      · exact G
    · rename_i e hu
      split
      · rename_i n hn
        simp only [opR, panicA, stepOr, stepOp, evX_eq, idxF_eq, hu]
        cases f.ev x with
        | none => rfl
        | some y =>
          cases (f.ev ix).bind idx with
          | none => cases y <;> rfl
          | some k => cases y <;> first | rfl | (simp only [hn, cond_eq_ite]; split <;> rfl)
      · exact G
    · exact G
  case index t x ix =>
    simp only [cOp, cIndex]
    split
    · rename_i len e hu
      split
      · rename_i m one n hm hp
        simp only [opR, panicA, stepOr, stepOp, evX_eq, idxF_eq, hu, pickPart_eq hp]
        cases f.ev x with
        | none => rfl
        | some y =>
          cases (f.ev ix).bind idx with
          | none => cases y <;> rfl
          | some k => cases y <;> first | rfl | (simp only [hm, cond_eq_ite]; split <;> first | rfl | exact vO_eq call _ s)
      · exact G
    · exact G
  case extract x ix =>
    simp only [cOp, cExtract, opR, panicA, stepOr, stepOp, evX_eq, nthF_eq]
    cases f.ev x with
    | none => rfl
    | some y => cases y <;> first | rfl | exact vO_eq call _ s
  case binOp bo t x y t' =>
    simp only [cOp, cBin, evX_eq, intC_eq, G]
    cases hx : f.ev x with
    | none => rfl
    | some a =>
      cases a <;> simp only []
      case int k a =>
        cases hy : f.ev y with
        | none => rfl
        | some b =>
          cases b <;> simp only []
          case int k' b =>
            have : shiftA bo (some (.int k a)) (some (.int k' b)) = none := by cases bo <;> rfl
            simp only [opR, panicA, stepOr, stepOp, hx, hy, this, binA, kindOf, Bool.or_self]
            exact vO_eq call _ s
  case unOp uo t x =>
    simp only [cOp, cUn, opR, panicA, stepOr, stepOp, evX_eq]
    cases f.ev x with
    | none => rfl
    | some y => exact vO_eq call _ s
  case convert a b x =>
    simp only [cOp, cConv]
    split
    · rename_i k0 k h1 h2
      simp only [evX_eq, G]
      cases hx : f.ev x with
      | none => rfl
      | some y =>
        cases y <;> simp only []
        simp only [opR, panicA, stepOr, stepOp, hx, convA, h1, h2, wrapF_eq]
        rfl
    · exact G
  case nilCheck x =>
    simp only [cOp, cNil, opR, panicA, stepOr, stepOp, evX_eq]
    cases f.ev x with
    | none => rfl
    | some y =>
      cases y <;> try rfl
      rename_i g _ _
      cases g <;> rfl
  case call c =>
    obtain ⟨callee, args, tys⟩ := c
    simp only [cOp, cCall]
    split
    · rename_i g
      simp only [xsF_eq, evX_eq]
      simp only [opR, panicA, stepOr, stepOp]
      cases evs f.ev args with
      | none => rfl
      | some as =>
        simp only []
        cases f.ev g with
        | none => rfl
        | some y =>
          cases y <;> try rfl
          rename_i h first cap
          cases h <;> try rfl
          rename_i h
          simp only [callX, callA]
          cases hasBody P h with
          | false => rfl
          | true => rfl
    · split
      · rename_i e d h1 h2
        simp only [xsF_eq, G]
        split
        · rename_i as x y ha
          simp only [opR, panicA, stepOr, stepOp, ha, h1, h2]
        · rfl
      · exact G
    · split
      · rename_i e h1
        simp only [xsF_eq, G]
        split
        · rename_i as x ha
          simp only [opR, panicA, stepOr, stepOp, ha, h1]
          exact vO_eq call _ s
        · rfl
      · exact G
    · exact G
  case alloc e =>
    simp only [cOp, cAlloc, opR, panicA, stepOr, stepOp]
    cases zeroA P e with
    | none => rfl
    | some z => simp only [newF_eq]; rfl
  case slice t x lo hi mx =>
    simp only [cOp, cSlice, evX_eq, G]
    have key : ∀ (y : Option Operand), (match y.map cX with
        | none => some none
        | some y => match evX y f.tm with
          | some v => some (some v)
          | none => none) = evO f.ev y := by
      intro y
      cases y with
      | none => rfl
      | some y =>
        simp only [Option.map_some, evX_eq, evO]
        cases f.ev y <;> rfl
    rw [key lo, key hi, key mx]
    simp only [opR, panicA, stepOr, stepOp]
    cases f.ev x with
    | none => rfl
    | some y =>
      cases evO f.ev lo with
      | none => rfl
      | some lo' => cases evO f.ev hi with
        | none => rfl
        | some hi' => cases evO f.ev mx with
          | none => rfl
          | some mx' => exact vO_eq call _ s
  case makeFunc fn a b =>
    simp only [cOp, cMakeFunc, xsF_eq, opR, panicA, stepOr, stepOp]
    cases evs f.ev a with
    | none => rfl
    | some a' => cases evs f.ev b <;> rfl
  case pick c a b =>
    simp only [cOp, cPick, evX_eq, G]
    cases hc : f.ev c with
    | none => rfl
    | some y =>
      cases y <;> try rfl
      rename_i t
      cases t
      · simp only [opR, panicA, stepOr, stepOp, hc]; exact vO_eq call _ s
      · simp only [opR, panicA, stepOr, stepOp, hc]; exact vO_eq call _ s
  case build t ps =>
    simp only [cOp, cBuild]
    split
    · rename_i z fs hz hu
      split
      · rename_i pl hpl
        have key : mapF (evP f.tm) (ps.toList.map fun p => (p.1, cX p.2)) = mapO (fun (x : Nat × Operand) => (f.ev x.2).map fun y => (x.1, y)) ps.toList := by
          rw [mapF_map]
          congr 1
          refine funext fun p => ?_
          simp only [evP, evX_eq]
          cases f.ev p.2 <;> rfl
        dsimp only
        rw [key, G]
        have hn : (fun i => nthF pl i) = (fun i => nth pl i) := funext fun i => nthF_eq pl i
        rw [hn]
        cases hm : mapO (fun (x : Nat × Operand) => (f.ev x.2).map fun y => (x.1, y)) ps.toList with
        | none => rfl
        | some qs =>
          simp only [opR, panicA, stepOr, stepOp, hm, hz, hu, hpl]
          cases fillA (fun i => nth pl i) z qs <;> rfl
      · exact G
    · exact G
  all_goals exact G
end
end
end Go.Sx
