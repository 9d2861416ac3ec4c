/-
  A symbolic executor for the model's code, part C: regions, code, calls.
-/
import Derived.Test.YtpdgklkcjegkfaaGreatSxB
namespace Go.Sx
open Go

/-- A frame: its temporaries, its deferred calls. -/
structure Fr where
  tm : PT AV
  ds : List (FuncId × List AV)

def Fr.put (f : Fr) (dst : Option Tmp) (v : AV) : Fr :=
  match dst with
  | some d => { f with tm := PT.set v (Pos.slot d) f.tm }
  | none => f

def Fr.ev (f : Fr) : Operand → Option AV
  | .tmp t => PT.get (Pos.slot t) f.tm
  | .const v => ofV v
  | .func f => some (.fn (.func f) [] [])
  | .global _ => none

/-- What a call ends in. -/
inductive CR where
  | ret (v : AV) (s : AS)
  | pan (v : AV) (s : AS)
  | fail
  deriving Inhabited

/-- A choice on a bool; on a symbolic one the oracle says which, and that is noted. -/
def choose1 (x : AV) (s : AS) : Option (Bool × AS) :=
  match x with
  | .bool b => some (b, s)
  | .sbool b => match s.orc with
    | d :: r => some (d, { s with orc := r, cons := s.cons ∧ b = d })
    | [] => none
  | _ => none

/-- Is the operation wanted? -/
def wantA (ops : Array Oper) (o : Oper) (f : Fr) (s : AS) : Option (Bool × AS) :=
  match o.guard with
  | none => some (true, s)
  | some (j, want) =>
    match ops[j]? with
    | none => some (false, s)
    | some p => match p.dst with
      | none => some (false, s)
      | some d => match PT.get (Pos.slot d) f.tm with
        | none => none
        | some (.raw _) => none
        | some (.bool b) => some (b == want, s)
        | some (.sbool b) => match s.orc with
          | d :: r => some (d == want, { s with orc := r, cons := s.cons ∧ b = d })
          | [] => none
        | some _ => some (false, s)

section
variable (P : Program)

/-- A shift by a symbolic number: it is to be one of none below 0. -/
def shiftA (op : BinOp) (x y : Option AV) : Option (AV × Prop) :=
  match op, y with
  | .shl, some (.sint _ b) => match x with
    | some (.int k a) => some (.sint k (k.wrap (a * 2 ^ (min b.toNat k.bits))), 0 ≤ b)
    | some (.sint k a) => some (.sint k (k.wrap (a * 2 ^ (min b.toNat k.bits))), 0 ≤ b)
    | _ => none
  | .shr, some (.sint _ b) => match x with
    | some (.int k a) => some (.sint k (a.fdiv (2 ^ (min b.toNat k.bits))), 0 ≤ b)
    | some (.sint k a) => some (.sint k (a.fdiv (2 ^ (min b.toNat k.bits))), 0 ≤ b)
    | _ => none
  | _, _ => none

/-- A `pick` on a symbolic bool asks the oracle. -/
def stepOr (o : Oper) (ev : Operand → Option AV) (s : AS) : OR :=
  match o.op with
  | .pick c a b => match ev c with
    | some (.sbool x) => match s.orc with
      | d :: r => match (bif d then ev a else ev b) with
        | some v => .v v { s with orc := r, cons := s.cons ∧ x = d }
        | none => .fail
      | [] => .fail
    | _ => stepOp P o ev s
  | .binOp op _ x y _ => match shiftA op (ev x) (ev y) with
    | some (v, q) => .v v { s with cons := s.cons ∧ q }
    | none => stepOp P o ev s
  | _ => stepOp P o ev s

/-- The operations one behind the other. -/
inductive RR where
  | go (f : Fr) (s : AS)
  | pan (v : AV) (f : Fr) (s : AS)
  | fail
  deriving Inhabited

def panicA (o : Oper) (ev : Operand → Option AV) : Option AV :=
  match o.op with
  | .panic x => match ev x with
    | some (.ifc t v) => some (.ifc t v)
    | _ => none
  | _ => none

def runOps (call : FuncId → List AV → AS → CR) (ops : Array Oper) : List Oper → Fr → AS → RR
  | [], f, s => .go f s
  | o :: rest, f, s =>
    match wantA ops o f s with
    | none => .fail
    | some (false, s) => runOps call ops rest (f.put o.dst undefA) s
    | some (true, s) =>
      match panicA o f.ev with
      | some v => .pan v f s
      | none =>
        match stepOr P o f.ev s with
        | .v x s => runOps call ops rest (f.put o.dst x) s
        | .call g args s => match call g args s with
          | .ret x s => runOps call ops rest (f.put o.dst x) s
          | .pan v s => .pan v f s
          | .fail => .fail
        | .dfr g args s => runOps call ops rest ({ f with ds := (g, args) :: f.ds }.put o.dst undefA) s
        | .fail => .fail

/-! ### A region that draws its order -/

inductive Cls where
  | pur | read | al | chain
  deriving DecidableEq, Inhabited

def cls (o : Oper) : Cls :=
  match o.op with
  | .move _ | .assign _ | .pick _ _ _ | .build _ _ | .nilCheck _ | .binOp _ _ _ _ _ | .unOp _ _ _ | .makeInterface _ _ | .makeFunc _ _ _
  | .slice _ _ _ _ _ | .fieldAddr _ _ _ | .field _ _ _ | .indexAddr _ _ _ | .index _ _ _ | .extract _ _ => .pur
  | .convert src dst _ => match P.underlying src, P.underlying dst with
    | some (.int _), some (.int _) => .pur
    | some .string, some .string => .pur
    | some (.slice _), some .string => .read
    | _, _ => .chain
  | .load _ _ => .read
  | .alloc _ => .al
  | .call c => match c.callee with
    | .builtin .len | .builtin .cap | .builtin .min | .builtin .max => .pur
    | _ => .chain
  | _ => .chain

structure PO where
  i : Nat
  o : Oper
  c : Cls
  lo : Nat
  hi : Nat

/-- What must come ahead of each operation, as the bits of a number. -/
def befores : List Oper → List Nat → List Nat
  | [], acc => acc
  | o :: os, acc => befores os (acc ++ [o.after.toList.foldl (fun s e => bif Region.binds .any e then s ||| 2 ^ e.on ||| acc.getD e.on 0 else s) 0])

/-- The region's plan: of each operation its class, and behind how many links of the chain it may come. -/
def planGo (bf : Nat → Nat) (chain : List Nat) : List (Oper × Nat) → List PO
  | [] => []
  | (o, i) :: rest =>
    { i, o, c := cls P o, lo := (chain.filter fun c => (bf i).testBit c).length, hi := (chain.filter fun c => !(bf c).testBit i).length } :: planGo bf chain rest

def linked (bf : Nat → Nat) : List Nat → Bool
  | a :: rest => (rest.all fun b => (bf b).testBit a) && linked bf rest
  | [] => true

def tmpsOf (o : Oper) (ops : Array Oper) : List Tmp :=
  (o.op.operands.toList.filterMap fun | .tmp t => some t | _ => none) ++
  (match o.guard with
   | some (g, _) => ((ops[g]?).bind (·.dst)).toList
   | none => [])

def tmpsFit (bf : Nat → Nat) (ops : Array Oper) (l : List (Oper × Nat)) : Bool :=
  l.all fun (o, i) => match o.dst with
    | none => true
    | some d => !(tmpsOf o ops).contains d && l.all fun (p, j) =>
      Nat.beq i j || ((p.dst != some d) && (!(tmpsOf p ops).contains d || bif Nat.blt i j then (bf j).testBit i else (bf i).testBit j))

def edgesFit (l : List (Oper × Nat)) : Bool :=
  l.all fun (o, i) => o.after.toList.all fun e => !Region.binds .any e || Nat.blt e.on i

def isChain (o : Oper) : Bool := match cls P o with
  | .chain => true
  | _ => false

def plan (ops : Array Oper) : Option (List PO) :=
  let b := befores ops.toList []
  let bf := fun i => b.getD i 0
  let l := ops.toList.zipIdx
  let chain := (l.filter fun p => isChain P p.1).map (·.2)
  bif linked bf chain && tmpsFit bf ops l && edgesFit l then some (planGo P bf chain l) else none

/-- What came of an operation: the frame ahead of it, what it left. -/
structure TE where
  p : PO
  f : Fr
  on : Bool
  v : AV

/-- The rooms that the region's variables take, made ahead. -/
def allocs : List PO → AS → Option (List AV × AS)
  | [], s => some ([], s)
  | p :: rest, s =>
    match p.c with
    | .al => match p.o.op with
      | .alloc e => match zeroA P e with
        | some z => match allocs rest (s.new (.cells z.cells)) with
          | some (l, s') => some (.ptr s.next 0 :: l, s')
          | none => none
        | none => none
      | _ => none
    | _ => allocs rest s

inductive DR where
  | go (te : List TE) (cs : List AS) (f : Fr) (s : AS)
  | fail
  deriving Inhabited

def drawStep (call : FuncId → List AV → AS → CR) (p : PO) (al : List AV) (f : Fr) (s : AS) : Option (AV × AS) :=
  match p.c with
  | .al => match al with
    | x :: _ => some (x, s)
    | [] => none
  | .chain => match stepOr P p.o f.ev s with
    | .v x s => some (x, s)
    | .call g args s => match call g args s with
      | .ret x s => some (x, s)
      | _ => none
    | _ => none
  | _ => match stepOr P p.o f.ev s with
    | .v x s => some (x, s)
    | _ => none

def alTail (c : Cls) (al : List AV) : List AV := match c with
  | .al => al.tail
  | _ => al

def chainOn (c : Cls) (s : AS) (cs : List AS) : List AS := match c with
  | .chain => s :: cs
  | _ => cs

/-- The region in the text's order; the trace; the memory behind each link of the chain. -/
def drawOps (call : FuncId → List AV → AS → CR) (ops : Array Oper) : List PO → List AV → Fr → AS → DR
  | [], _, f, s => .go [] [] f s
  | p :: rest, al, f, s =>
    match wantA ops p.o f s with
    | none => .fail
    | some (on, s) =>
      match (bif on then drawStep P call p al f s else some (undefA, s)) with
      | none => .fail
      | some (x, s) =>
        match drawOps call ops rest (alTail p.c al) (f.put p.o.dst x) s with
        | .go te cs f' s' => .go ({ p, f, on, v := x } :: te) (chainOn p.c s cs) f' s'
        | .fail => .fail

mutual
/-- Two abstract values are one, under what is handed back. -/
def eqC : AV → AV → Option (List Prop)
  | .int k n, .int k' m => bif decide (k = k') && decide (n = m) then some [] else none
  | .sint k n, .sint k' m => bif decide (k = k') then some [n = m] else none
  | .bool b, .bool c => bif b == c then some [] else none
  | .sbool b, .sbool c => some [b = c]
  | .nilp, .nilp => some []
  | .ptr i o, .ptr j q => bif Pos.eqb i j && Nat.beq o q then some [] else none
  | .nils, .nils => some []
  | .slc i o n c, .slc j q m d => bif Pos.eqb i j && Nat.beq o q && Nat.beq n m && decide (c = d) then some [] else none
  | .nilm, .nilm => some []
  | .map i, .map j => bif Pos.eqb i j then some [] else none
  | .fn f a b, .fn g c d => bif decide (f = g) then match eqCs a c with
      | some l => match eqCs b d with
        | some m => some (l ++ m)
        | none => none
      | none => none
    else none
  | .nilf, .nilf => some []
  | .ifc t v, .ifc u w => bif Nat.beq t u then eqC v w else none
  | .nili, .nili => some []
  | .agg a, .agg b => eqCs a b
  | .tup a, .tup b => eqCs a b
  | .raw v, .raw w => some [v = w]
  | .str a, .str b => some [a = b]
  | _, _ => none
def eqCs : List AV → List AV → Option (List Prop)
  | [], [] => some []
  | x :: xs, y :: ys => match eqC x y with
    | some l => match eqCs xs ys with
      | some m => some (l ++ m)
      | none => none
    | none => none
  | _, _ => none
end

def allP : List Prop → Prop → Prop
  | [], q => q
  | p :: ps, q => allP ps (q ∧ p)

/-- Every memory in which a reading operation may run gives the same. -/
def rereads (e : TE) : List (AS × Nat) → Prop → Option Prop
  | [], q => some q
  | (c, j) :: rest, q =>
    bif Nat.ble e.p.lo j && Nat.ble j e.p.hi then
      match stepOp P e.p.o e.f.ev c with
      | .v x _ => match eqC e.v x with
        | some ps => rereads e rest (allP ps q)
        | none => none
      | _ => none
    else rereads e rest q

/-- A variable made ahead is untouched for as long as it may not yet be there. -/
def stays (e : TE) (i : Pos) (z : List AV) : List (AS × Nat) → Prop → Option Prop
  | [], q => some q
  | (c, j) :: rest, q =>
    bif Nat.ble j e.p.hi then
      match PT.get i c.heap with
      | some (.cells b) => match eqCs z b with
        | some ps => stays e i z rest (allP ps q)
        | none => none
      | _ => none
    else stays e i z rest q

def recheck1 (hs : List (AS × Nat)) (e : TE) (q : Prop) : Option Prop :=
  bif e.on then
    match e.p.c with
    | .read => rereads P e hs q
    | .al => match e.v, e.p.o.op with
      | .ptr i _, .alloc t => match zeroA P t with
        | some z => stays e i z.cells hs q
        | none => none
      | _, _ => none
    | _ => some q
  else some q

def recheck (hs : List (AS × Nat)) : List TE → Prop → Option Prop
  | [], q => some q
  | e :: rest, q => match recheck1 P hs e q with
    | some q => recheck hs rest q
    | none => none

def runDraw (call : FuncId → List AV → AS → CR) (ops : Array Oper) (f : Fr) (s : AS) : RR :=
  match plan P ops with
  | none => .fail
  | some pl =>
    match allocs P pl s with
    | none => .fail
    | some (al, s0) =>
      match drawOps P call ops pl al f s0 with
      | .fail => .fail
      | .go te cs f' s' =>
        match recheck P (s0 :: cs).zipIdx te s'.cons with
        | some q => .go f' { s' with cons := q }
        | none => .fail

/-! ### Code -/

inductive AX where
  | normal
  | exit (id : Nat)
  | ret
  | pan (v : AV)
  deriving Inhabited

inductive ER where
  | at (x : AX) (f : Fr) (s : AS)
  | fail
  deriving Inhabited

/-- How a deferred call finds its caller. -/
inductive DM where
  | calm
  | pan (v : AV)
  | saved (v : AV)
  deriving Inhabited

inductive DE where
  | at (x : AX) (f : Fr) (m : DM) (s : AS)
  | fail
  deriving Inhabited

def isRecover (o : Oper) : Bool :=
  match o.op with
  | .call { callee := .builtin .recover, .. } => true
  | _ => false

/-- The operations of a deferred call: as `runOps`, but it may recover. -/
def runOpsD (call : FuncId → List AV → AS → CR) (ops : Array Oper) : List Oper → Fr → DM → AS → Option (RR × DM)
  | [], f, m, s => some (.go f s, m)
  | o :: rest, f, m, s =>
    bif isRecover o && o.guard.isNone then
      match m with
      | .calm => runOpsD call ops rest (f.put o.dst .nili) m s
      | .pan v => runOpsD call ops rest (f.put o.dst v) (.saved v) s
      | .saved v => runOpsD call ops rest (f.put o.dst .nili) (.saved v) s
    else
      match runOps P call ops [o] f s with
      | .go f s => runOpsD call ops rest f m s
      | _ => none

def resultA (fn : Func) (f : Fr) (s : AS) : Option AV :=
  match mapO (fun (r : ResultVar) => match r with
    | .tmp t => PT.get (Pos.slot t) f.tm
    | .cell a t => match PT.get (Pos.slot a) f.tm with
      | some x => loadT P t x s
      | none => none) fn.results.toList with
  | some [v] => some v
  | some l => some (.tup l)
  | none => none

def argsT : List AV → Nat → PT AV → PT AV
  | [], _, t => t
  | v :: vs, n, t => argsT vs (n + 1) (PT.set v (Pos.slot n) t)

def frameOf (_ : Func) (args : List AV) : Fr := { tm := argsT args 0 .e, ds := [] }

/-- The temporaries that code writes are the frame's. -/
def dOk (n : Nat) : Code → Bool
  | .region _ ops _ => ops.toList.all fun o => match o.dst with
    | some d => Nat.blt d n
    | none => true
  | .seq a b => dOk n a && dOk n b
  | .cond _ a b => dOk n a && dOk n b
  | .block _ c => dOk n c
  | .loop c => dOk n c
  | .scope c => dOk n c
  | _ => true

/-- Code in a deferred call. -/
def evD (call : FuncId → List AV → AS → CR) (ev : Code → Fr → AS → ER) : Code → Fr → DM → AS → DE
  | .seq a b, f, m, s =>
    match evD call ev a f m s with
    | .at .normal f m s => evD call ev b f m s
    | e => e
  | .cond c a b, f, m, s =>
    match f.ev c with
    | none => .fail
    | some x => match choose1 x s with
      | none => .fail
      | some (true, s) => evD call ev a f m s
      | some (false, s) => evD call ev b f m s
  | .region id ops draw, f, m, s =>
    bif draw then
      match ev (.region id ops draw) f s with
      | .at x f s => .at x f m s
      | .fail => .fail
    else
      match runOpsD P call ops ops.toList f m s with
      | some (.go f s, m) => .at .normal f m s
      | _ => .fail
  | c, f, m, s =>
    match ev c f s with
    | .at x f s => .at x f m s
    | .fail => .fail

/-- The deferred calls of a frame that is left. -/
def leave (call : FuncId → List AV → AS → CR) (ev : Code → Fr → AS → ER) (fn : Func) (f : Fr) : List (FuncId × List AV) → DM → AS → CR
  | [], .calm, s => match resultA P fn f s with
    | some v => .ret v s
    | none => .fail
  | [], .pan v, s => .pan v s
  | [], .saved _, _ => .fail
  | (g, args) :: ds, m, s =>
    bif !hasBody P g then .fail else
    match P.funcs[g]? with
    | none => .fail
    | some gn => match gn.body with
      | none => .fail
      | some c =>
        bif !dOk gn.ntmps c then .fail else
        match evD P call ev c (frameOf gn args) m s with
        | .at .normal f' m s | .at .ret f' m s =>
          match f'.ds, gn.results.toList with
          | [], [] => leave call ev fn f ds (match m with | .saved _ => .calm | m => m) s
          | _, _ => .fail
        | _ => .fail

def callBy (call : FuncId → List AV → AS → CR) (ev : Code → Fr → AS → ER) (g : FuncId) (args : List AV) (s : AS) : CR :=
  match P.funcs[g]? with
  | none => .fail
  | some fn => match fn.body with
    | none => .fail
    | some c =>
      bif !dOk fn.ntmps c then .fail else
      match ev c (frameOf fn args) s with
      | .at .normal f s | .at .ret f s => leave P call ev fn f f.ds .calm s
      | .at (.pan v) f s => leave P call ev fn f f.ds (.pan v) s
      | _ => .fail

mutual
def ev (K : FuncId → List AV → AS → Option CR) : Nat → Code → Fr → AS → ER
  | 0, _, _, _ => .fail
  | n + 1, c, f, s =>
    match c with
    | .skip | .label _ => .at .normal f s
    | .seq a b =>
      match ev K n a f s with
      | .at .normal f s => ev K n b f s
      | e => e
    | .cond c a b =>
      match f.ev c with
      | none => .fail
      | some x => match choose1 x s with
        | none => .fail
        | some (true, s) => ev K n a f s
        | some (false, s) => ev K n b f s
    | .block id c =>
      match ev K n c f s with
      | .at (.exit i) f s => bif Nat.beq i id then .at .normal f s else .at (.exit i) f s
      | e => e
    | .loop c =>
      match ev K n c f s with
      | .at .normal f s => ev K n (.loop c) f s
      | e => e
    | .scope c => ev K n c f s
    | .exit id => .at (.exit id) f s
    | .ret => .at .ret f s
    | .region _ ops draw =>
      match (bif draw then runDraw P (callAt K n) ops f s else runOps P (callAt K n) ops ops.toList f s) with
      | .go f s => .at .normal f s
      | .pan v f s => .at (.pan v) f s
      | .fail => .fail
    | _ => .fail
def callAt (K : FuncId → List AV → AS → Option CR) : Nat → FuncId → List AV → AS → CR
  | 0, _, _, _ => .fail
  | n + 1, g, args, s => match K g args s with
    | some r => r
    | none => callBy P (callAt K n) (ev K n) g args s
end
end
end Go.Sx
