/-
  The symbolic executor once more, for the kernel, part C: regions, code, calls.
-/
import Derived.Test.YtpdgklkcjegkfaaGreatSzB
namespace Go.Sx
open Go
noncomputable section

structure CI where
  o : Oper
  free : Bool
  dst : Option Pos
  co : CO

def dstP (d : Option Tmp) : Option Pos :=
  match d with
  | some d => some (Pos.slot d)
  | none => none

def Fr.putF (f : Fr) (dst : Option Pos) (v : AV) : Fr :=
  match dst with
  | some p => ⟨setF v p f.tm, f.ds⟩
  | none => f

theorem frPut_eq (f : Fr) (d : Option Tmp) (v : AV) : f.putF (dstP d) v = f.put d v := by
  cases d with
  | none => rfl
  | some d => simp only [dstP, Fr.putF, Fr.put, setF_eq]

section
variable (P : Program)

def cI (o : Oper) : CI := ⟨o, o.guard.isNone, dstP o.dst, cOp P o⟩

def wantF (ops : Array Oper) (c : CI) (f : Fr) (s : AS) : Option (Bool × AS) := bif c.free then some (true, s) else wantA ops c.o f s

theorem wantF_eq (ops : Array Oper) (o : Oper) (f : Fr) (s : AS) : wantF ops (cI P o) f s = wantA ops o f s := by
  unfold wantF wantA
  simp only [cI]
  cases o.guard <;> rfl

/-- The operations one behind the other. -/
def runF (call : CL) (ops : Array Oper) (l : List CI) : Fr → AS → RR :=
  List.rec (motive := fun _ => Fr → AS → RR) (fun f s => .go f s)
    (fun c _ ih f s => match wantF ops c f s with
      | none => .fail
      | some (false, s) => ih (f.putF c.dst undefA) s
      | some (true, s) => match c.co.fn call f.tm s with
        | .v x s => ih (f.putF c.dst x) s
        | .pan v s => .pan v f s
        | .dfr g args s => ih ((⟨f.tm, (g, args) :: f.ds⟩ : Fr).putF c.dst undefA) s
        | .fail => .fail) l

theorem runF_eq (call : CL) (ops : Array Oper) : ∀ (l : List Oper) (f : Fr) (s : AS), runF call ops (l.map (cI P)) f s = runOps P call ops l f s := by
  intro l
  induction l with
  | nil => intro f s; rfl
  | cons o l ih =>
    intro f s
    show (match wantF ops (cI P o) f s with
      | none => RR.fail
      | some (false, s) => runF call ops (l.map (cI P)) (f.putF (cI P o).dst undefA) s
      | some (true, s) => match (cI P o).co.fn call f.tm s with
        | .v x s => runF call ops (l.map (cI P)) (f.putF (cI P o).dst x) s
        | .pan v s => .pan v f s
        | .dfr g args s => runF call ops (l.map (cI P)) ((⟨f.tm, (g, args) :: f.ds⟩ : Fr).putF (cI P o).dst undefA) s
        | .fail => .fail) = _
    rw [wantF_eq]
    simp only [runOps]
    have hd : (cI P o).dst = dstP o.dst := rfl
    have hc : (cI P o).co = cOp P o := rfl
    rw [hd, hc]
    cases wantA ops o f s with
    | none => rfl
    | some q =>
      obtain ⟨b, s1⟩ := q
      cases b with
      | false => simp only [frPut_eq, ih]
      | true =>
        simp only [cOp_eq, opR]
        cases panicA o f.ev with
        | some v => rfl
        | none =>
          simp only []
          cases stepOr P o f.ev s1 with
          | v x s2 => simp only [ofOR, frPut_eq, ih]
          | call g args s2 =>
            simp only [ofOR]
            cases call g args s2 with
            | ret x s3 => simp only [frPut_eq, ih]
            | pan v s3 => rfl
            | fail => rfl
          | dfr g args s2 => simp only [ofOR, frPut_eq, ih]
          | fail => rfl

/-! ### A region that draws its order -/

def drawStepF (call : CL) (p : PO) (co : CO) (al : List AV) (f : Fr) (s : AS) : Option (AV × AS) :=
  match p.c with
  | .al => match al with
    | x :: _ => some (x, s)
    | [] => none
  | _ => match co.fn call f.tm s with
    | .v x s => some (x, s)
    | _ => none

structure CP where
  p : PO
  i : CI

def drawF (call : CL) (ops : Array Oper) (l : List CP) : List AV → Fr → AS → DR :=
  List.rec (motive := fun _ => List AV → Fr → AS → DR) (fun _ f s => .go [] [] f s)
    (fun c _ ih al f s => match wantF ops c.i f s with
      | none => .fail
      | some (on, s) =>
        match (bif on then drawStepF call c.p c.i.co al f s else some (undefA, s)) with
        | none => .fail
        | some (x, s) =>
          match ih (alTail c.p.c al) (f.putF c.i.dst x) s with
          | .go te cs f' s' => .go ({ p := c.p, f, on, v := x } :: te) (chainOn c.p.c s cs) f' s'
          | .fail => .fail) l

def cP (p : PO) : CP := ⟨p, cI P p.o⟩

/-- A reading operation, in another memory. -/
def readF (co : CO) (tm : PT AV) (s : AS) : Option AV :=
  match co.fn (fun _ _ _ => .fail) tm s with
  | .v x _ => some x
  | _ => none

def rereadsF (e : TE) (co : CO) (l : List (AS × Nat)) : Prop → Option Prop :=
  List.rec (motive := fun _ => Prop → Option Prop) (fun q => some q)
    (fun c _ ih q => bif Nat.ble e.p.lo c.2 && Nat.ble c.2 e.p.hi then
        match readF co e.f.tm c.1 with
        | some x => match eqC e.v x with
          | some ps => ih (allP ps q)
          | none => none
        | none => none
      else ih q) l

def recheck1F (hs : List (AS × Nat)) (e : TE) (q : Prop) : Option Prop :=
  match e.p.c with
  | .pur => some q
  | .chain => some q
  | .read => bif e.on then rereadsF e (cOp P e.p.o) hs q else some q
  | .al => recheck1 P hs e q

def recheckF (hs : List (AS × Nat)) (l : List TE) : Prop → Option Prop :=
  List.rec (motive := fun _ => Prop → Option Prop) (fun q => some q)
    (fun e _ ih q => match recheck1F P hs e q with
      | some q => ih q
      | none => none) l

structure CD where
  pl : Option (List PO × List CP)

/-- A region's plan, made ready. -/
def cD (ops : Array Oper) : CD := ⟨match plan P ops with
  | none => none
  | some pl => some (pl, pl.map (cP P))⟩

def runDrawF (call : CL) (ops : Array Oper) (d : CD) (f : Fr) (s : AS) : RR :=
  match d.pl with
  | none => .fail
  | some (pl, cl) =>
    match allocs P pl s with
    | none => .fail
    | some (al, s0) =>
      match drawF call ops cl al f s0 with
      | .fail => .fail
      | .go te cs f' s' =>
        match recheckF P (s0 :: cs).zipIdx te s'.cons with
        | some q => .go f' { s' with cons := q }
        | none => .fail
end

section
variable {P : Program}

/-- What comes of an operation that writes nothing is no call. -/
theorem stepOr_quiet {o : Oper} {ev : Operand → Option AV} {s : AS} (hc : cls P o = .pur ∨ cls P o = .read) :
    panicA o ev = none ∧ ((∃ x s', stepOr P o ev s = .v x s') ∨ stepOr P o ev s = .fail) := by
  have key : (∀ g args s', stepOr P o ev s ≠ .call g args s') ∧ (∀ g args s', stepOr P o ev s ≠ .dfr g args s') := by
    constructor
    · intro g args s' h
      have h2 : stepOp P o ev s = .call g args s' := by
        unfold stepOr at h
        repeat' (split at h)
        all_goals first | (simp at h; done) | exact h
      obtain ⟨dst, op, type, pos, after, guard⟩ := o
      cases op <;> simp only [stepOp, cond_eq_ite] at h2
      case call c =>
        split at h2
        · simp at h2
        · split at h2
          · rename_i hcal; simp [cls, hcal] at hc
          · split at h2
            all_goals
              repeat' (split at h2)
              all_goals first | (simp at h2; done) | (rcases appendA_v h2 with ⟨_, _, q⟩ | q <;> cases q) | (rcases copyA_v h2 with ⟨_, _, q⟩ | q <;> cases q)
          · simp at h2
      case convert => 
        split at h2
        · rcases convA_v h2 with ⟨_, _, q⟩ | q <;> cases q
        · simp at h2
      all_goals
        repeat' (split at h2)
        all_goals (simp at h2)
    · intro g args s' h
      have h2 : stepOp P o ev s = .dfr g args s' := by
        unfold stepOr at h
        repeat' (split at h)
        all_goals first | (simp at h; done) | exact h
      obtain ⟨dst, op, type, pos, after, guard⟩ := o
      cases op <;> simp only [stepOp, cond_eq_ite] at h2
      case defer c => simp [cls] at hc
      case call c =>
        split at h2
        · simp at h2
        · split at h2
          · rename_i hcal; simp [cls, hcal] at hc
          · split at h2
            all_goals
              repeat' (split at h2)
              all_goals first | (simp at h2; done) | (rcases appendA_v h2 with ⟨_, _, q⟩ | q <;> cases q) | (rcases copyA_v h2 with ⟨_, _, q⟩ | q <;> cases q)
          · simp at h2
      case convert => 
        split at h2
        · rcases convA_v h2 with ⟨_, _, q⟩ | q <;> cases q
        · simp at h2
      all_goals
        repeat' (split at h2)
        all_goals (simp at h2)
  constructor
  · unfold panicA
    split
    · rename_i x hx
      simp [cls, hx] at hc
    · rfl
  · cases h : stepOr P o ev s with
    | v x s' => exact .inl ⟨x, s', rfl⟩
    | call g args s' => exact absurd h (key.1 g args s')
    | dfr g args s' => exact absurd h (key.2 g args s')
    | fail => exact .inr rfl

theorem drawStepF_eq (call : CL) (p : PO) (hp : p.c = cls P p.o) (al : List AV) (f : Fr) (s : AS) : drawStepF call p (cOp P p.o) al f s = drawStep P call p al f s := by
  unfold drawStepF drawStep
  have quiet : (p.c = .pur ∨ p.c = .read) → (match (cOp P p.o).fn call f.tm s with
      | .v x s => some (x, s)
      | _ => none) = (match stepOr P p.o f.ev s with
      | .v x s => some (x, s)
      | _ => none) := by
    intro h
    rw [hp] at h
    obtain ⟨h1, h2⟩ := stepOr_quiet (ev := f.ev) (s := s) h
    rw [cOp_eq, opR, h1]
    rcases h2 with ⟨x, s', h2⟩ | h2 <;> rw [h2] <;> rfl
  cases hc : p.c with
  | al => rfl
  | pur => exact quiet (.inl hc)
  | read => exact quiet (.inr hc)
  | chain =>
    simp only []
    rw [cOp_eq, opR]
    cases hq : panicA p.o f.ev with
    | some v =>
      have : stepOr P p.o f.ev s = .fail := by
        unfold panicA at hq
        split at hq
        · rename_i y hy
          unfold stepOr
          rw [hy]
          simp only [stepOp, hy]
        · cases hq
      rw [this]
    | none =>
      simp only []
      cases stepOr P p.o f.ev s with
      | v x s' => rfl
      | call g args s' => simp only [ofOR]; cases call g args s' <;> rfl
      | dfr g args s' => rfl
      | fail => rfl

theorem drawF_eq (call : CL) (ops : Array Oper) : ∀ (l : List PO), (∀ p ∈ l, p.c = cls P p.o) → ∀ (al : List AV) (f : Fr) (s : AS), drawF call ops (l.map (cP P)) al f s = drawOps P call ops l al f s := by
  intro l
  induction l with
  | nil => intro _ al f s; rfl
  | cons p l ih =>
    intro h al f s
    have hp := h p (by simp)
    have ih := ih (fun q hq => h q (by simp [hq]))
    show (match wantF ops (cI P p.o) f s with
      | none => DR.fail
      | some (on, s) =>
        match (bif on then drawStepF call p (cOp P p.o) al f s else some (undefA, s)) with
        | none => .fail
        | some (x, s) =>
          match drawF call ops (l.map (cP P)) (alTail p.c al) (f.putF (dstP p.o.dst) x) s with
          | .go te cs f' s' => .go ({ p := p, f, on, v := x } :: te) (chainOn p.c s cs) f' s'
          | .fail => .fail) = _
    rw [wantF_eq]
    simp only [drawOps, drawStepF_eq call p hp, frPut_eq, ih]
    rfl

theorem rereadsF_eq (e : TE) (hp : e.p.c = cls P e.p.o) (hr : e.p.c = .read) : ∀ (l : List (AS × Nat)) (q : Prop), rereadsF e (cOp P e.p.o) l q = rereads P e l q := by
  intro l
  induction l with
  | nil => intro q; rfl
  | cons c l ih =>
    intro q
    obtain ⟨c, j⟩ := c
    show (bif Nat.ble e.p.lo j && Nat.ble j e.p.hi then
        match readF (cOp P e.p.o) e.f.tm c with
        | some x => match eqC e.v x with
          | some ps => rereadsF e (cOp P e.p.o) l (allP ps q)
          | none => none
        | none => none
      else rereadsF e (cOp P e.p.o) l q) = _
    simp only [rereads, ih]
    have hcl : cls P e.p.o = .read := hp ▸ hr
    have : readF (cOp P e.p.o) e.f.tm c = (match stepOp P e.p.o e.f.ev c with
        | .v x _ => some x
        | _ => none) := by
      unfold readF
      rw [cOp_eq, opR]
      obtain ⟨h1, h2⟩ := stepOr_quiet (ev := e.f.ev) (s := c) (.inr hcl)
      rw [h1, ← stepOr_read hcl]
      rcases h2 with ⟨x, s', h2⟩ | h2 <;> rw [h2] <;> rfl
    rw [this]
    cases stepOp P e.p.o e.f.ev c <;> rfl

theorem recheckF_eq (hs : List (AS × Nat)) : ∀ (l : List TE), (∀ e ∈ l, e.p.c = cls P e.p.o) → ∀ (q : Prop), recheckF P hs l q = recheck P hs l q := by
  intro l
  induction l with
  | nil => intro _ q; rfl
  | cons e l ih =>
    intro h q
    have he := h e (by simp)
    have ih := ih (fun x hx => h x (by simp [hx]))
    show (match recheck1F P hs e q with
      | some q => recheckF P hs l q
      | none => none) = _
    simp only [recheck, ih]
    have : recheck1F P hs e q = recheck1 P hs e q := by
      unfold recheck1F
      cases hc : e.p.c with
      | pur => unfold recheck1; cases e.on <;> simp [hc]
      | chain => unfold recheck1; cases e.on <;> simp [hc]
      | al => rfl
      | read => unfold recheck1; cases e.on <;> simp [hc, rereadsF_eq e he hc]
    rw [this]
    rfl

theorem planGo_cls (bf : Nat → Nat) (chain : List Nat) : ∀ (l : List (Oper × Nat)), ∀ p ∈ planGo P bf chain l, p.c = cls P p.o := by
  intro l
  induction l with
  | nil => intro p hp; simp [planGo] at hp
  | cons x l ih =>
    obtain ⟨o, i⟩ := x
    intro p hp
    simp only [planGo, List.mem_cons] at hp
    rcases hp with rfl | hp
    · rfl
    · exact ih p hp

theorem plan_cls {ops : Array Oper} {pl : List PO} (h : plan P ops = some pl) : ∀ p ∈ pl, p.c = cls P p.o := by
  unfold plan at h
  simp only [cond_eq_ite] at h
  split at h
  · injection h with h
    subst h
    exact planGo_cls _ _ _
  · cases h

theorem draw_trace (call : CL) (ops : Array Oper) : ∀ (l : List PO) (al : List AV) (f : Fr) (s : AS) (te : List TE) (cs : List AS) (f' : Fr) (s' : AS), drawOps P call ops l al f s = .go te cs f' s' → ∀ e ∈ te, e.p ∈ l := by
  intro l
  induction l with
  | nil => intro al f s te cs f' s' h; simp only [drawOps, DR.go.injEq] at h; obtain ⟨rfl, _⟩ := h; simp
  | cons p l ih =>
    intro al f s te cs f' s' h
    simp only [drawOps] at h
    split at h
    · cases h
    · split at h
      · cases h
      · split at h
        · rename_i hq
          simp only [DR.go.injEq] at h
          obtain ⟨rfl, _⟩ := h
          intro e he
          simp only [List.mem_cons] at he
          rcases he with rfl | he
          · simp
          · simp [ih _ _ _ _ _ _ _ hq e he]
        · cases h

theorem runDrawF_eq (call : CL) (ops : Array Oper) (f : Fr) (s : AS) : runDrawF P call ops (cD P ops) f s = runDraw P call ops f s := by
  unfold runDrawF runDraw cD
  simp only []
  cases hp : plan P ops with
  | none => rfl
  | some pl =>
    simp only []
    have hc := plan_cls hp
    cases allocs P pl s with
    | none => rfl
    | some q =>
      obtain ⟨al, s0⟩ := q
      simp only [drawF_eq call ops pl hc]
      cases hd : drawOps P call ops pl al f s0 with
      | fail => rfl
      | go te cs f' s' =>
        simp only []
        rw [recheckF_eq _ te (fun e he => hc _ (draw_trace call ops pl al f s0 te cs f' s' hd e he))]
        rfl
end
end
end Go.Sx
