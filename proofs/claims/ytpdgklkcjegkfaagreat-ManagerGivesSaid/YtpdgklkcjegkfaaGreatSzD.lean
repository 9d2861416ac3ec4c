/-
  The symbolic executor once more, for the kernel, part D: code, calls; it is the elder one.
-/
import Derived.Test.YtpdgklkcjegkfaaGreatSzC
namespace Go.Sx
open Go
noncomputable section

inductive CC where
  | skip
  | seq (a b : CC)
  | cond (x : CX) (a b : CC)
  | block (id : Nat) (c : CC)
  | loop (c : CC)
  | scope (c : CC)
  | exit (id : Nat)
  | ret
  | region (ops : Array Oper) (l : List CI)
  | draw (ops : Array Oper) (d : CD)
  | bad

section
variable (P : Program)

def cC : Code → CC
  | .skip => .skip
  | .label _ => .skip
  | .seq a b => .seq (cC a) (cC b)
  | .cond x a b => .cond (cX x) (cC a) (cC b)
  | .block id c => .block id (cC c)
  | .loop c => .loop (cC c)
  | .scope c => .scope (cC c)
  | .exit id => .exit id
  | .ret => .ret
  | .region _ ops draw => bif draw then .draw ops (cD P ops) else .region ops (ops.toList.map (cI P))
  | _ => .bad

def thenC (r : ER) (k : Fr → AS → ER) : ER :=
  match r with
  | .at .normal f s => k f s
  | e => e

def blockC (id : Nat) (r : ER) : ER :=
  match r with
  | .at (.exit i) f s => bif Nat.beq i id then .at .normal f s else .at (.exit i) f s
  | e => e

def ofRR (r : RR) : ER :=
  match r with
  | .go f s => .at .normal f s
  | .pan v f s => .at (.pan v) f s
  | .fail => .fail

def condC (x : Option AV) (f : Fr) (s : AS) (a b : Fr → AS → ER) : ER :=
  match x with
  | some (.bool c) => match c with
    | true => a f s
    | false => b f s
  | some y => match choose1 y s with
    | none => .fail
    | some (true, s) => a f s
    | some (false, s) => b f s
  | none => .fail

def stepC (r : (CC → Fr → AS → ER) × CL) (c : CC) (f : Fr) (s : AS) : ER :=
  match c with
  | .skip => .at .normal f s
  | .seq a b => thenC (r.1 a f s) (r.1 b)
  | .cond x a b => condC (evX x f.tm) f s (r.1 a) (r.1 b)
  | .block id c => blockC id (r.1 c f s)
  | .loop c => thenC (r.1 c f s) (r.1 (.loop c))
  | .scope c => r.1 c f s
  | .exit id => .at (.exit id) f s
  | .ret => .at .ret f s
  | .region ops l => ofRR (runF r.2 ops l f s)
  | .draw ops d => ofRR (runDrawF P r.2 ops d f s)
  | .bad => .fail

structure CF where
  fn : Option (Func × CC)

/-- A function, made ready. -/
def cF (g : FuncId) : CF := ⟨match P.funcs[g]? with
  | none => none
  | some fn => match fn.body with
    | none => none
    | some c => bif !dOk fn.ntmps c then none else some (fn, cC P c)⟩

def argsF (l : List AV) : Nat → PT AV → PT AV :=
  List.rec (motive := fun _ => Nat → PT AV → PT AV) (fun _ t => t) (fun v _ ih n t => ih (Nat.succ n) (setF v (Pos.slot n) t)) l

theorem argsF_eq : ∀ (l : List AV) (n : Nat) (t : PT AV), argsF l n t = argsT l n t := by
  intro l
  induction l with
  | nil => intro n t; rfl
  | cons v l ih =>
    intro n t
    show argsF l (n + 1) (setF v (Pos.slot n) t) = _
    rw [ih, setF_eq]; rfl

def frameF (args : List AV) : Fr := ⟨argsF args 0 .e, []⟩

theorem frameF_eq (fn : Func) (args : List AV) : frameF args = frameOf fn args := by
  unfold frameF frameOf
  rw [argsF_eq]

def resF (fn : Func) (f : Fr) (s : AS) : Option AV :=
  match mapF (fun (r : ResultVar) => match r with
    | .tmp t => getF (Pos.slot t) f.tm
    | .cell a t => match getF (Pos.slot a) f.tm with
      | some x => loadT P t x s
      | none => none) fn.results.toList with
  | some [v] => some v
  | some l => some (.tup l)
  | none => none

theorem resF_eq (fn : Func) (f : Fr) (s : AS) : resF P fn f s = resultA P fn f s := by
  unfold resF resultA
  rw [mapF_eq]
  simp only [getF_eq]
  rfl

def leaveF (r : (CC → Fr → AS → ER) × CL) (fn : Func) (f : Fr) (m : DM) (s : AS) : CR :=
  match f.ds with
  | [] => match m with
    | .calm => match resF P fn f s with
      | some v => .ret v s
      | none => .fail
    | .pan v => .pan v s
    | .saved _ => .fail
  | d :: ds => leave P r.2 (fun c f s => r.1 (cC P c) f s) fn f (d :: ds) m s

def callF (r : (CC → Fr → AS → ER) × CL) (g : FuncId) (args : List AV) (s : AS) : CR :=
  match (cF P g).fn with
  | none => .fail
  | some (fn, c) => match r.1 c (frameF args) s with
    | .at .normal f s => leaveF P r fn f .calm s
    | .at .ret f s => leaveF P r fn f .calm s
    | .at (.pan v) f s => leaveF P r fn f (.pan v) s
    | _ => .fail

def callK (K : FuncId → List AV → AS → Option CR) (r : (CC → Fr → AS → ER) × CL) : CL := fun g args s =>
  match K g args s with
  | some x => x
  | none => callF P r g args s

/-- The executor. -/
def fast (K : FuncId → List AV → AS → Option CR) (n : Nat) : (CC → Fr → AS → ER) × CL :=
  Nat.rec (motive := fun _ => (CC → Fr → AS → ER) × CL) (fun _ _ _ => .fail, fun _ _ _ => .fail) (fun _ ih => (stepC P ih, callK P K ih)) n

end

section
variable {P : Program} {K : FuncId → List AV → AS → Option CR}

theorem leaveF_eq {r : (CC → Fr → AS → ER) × CL} {n : Nat} (h1 : ∀ c f s, r.1 (cC P c) f s = ev P K n c f s) (h2 : r.2 = callAt P K n) (fn : Func) (f : Fr) (m : DM) (s : AS) :
    leaveF P r fn f m s = leave P (callAt P K n) (ev P K n) fn f f.ds m s := by
  unfold leaveF
  have he : (fun c f s => r.1 (cC P c) f s) = ev P K n := funext fun c => funext fun f => funext fun s => h1 c f s
  split
  · rename_i hd
    rw [hd]
    cases m <;> simp only [leave, resF_eq]
    rfl
  · rename_i d ds hd
    rw [hd, he, h2]

theorem fast_eq (n : Nat) : (∀ c f s, (fast P K n).1 (cC P c) f s = ev P K n c f s) ∧ (fast P K n).2 = callAt P K n := by
  induction n with
  | zero =>
    refine ⟨fun c f s => ?_, ?_⟩
    · simp only [ev]; rfl
    · funext g args s; simp only [callAt]; rfl
  | succ n ih =>
    obtain ⟨h1, h2⟩ := ih
    have e1 : (fast P K (n + 1)).1 = stepC P (fast P K n) := rfl
    have e2 : (fast P K (n + 1)).2 = callK P K (fast P K n) := rfl
    refine ⟨fun c f s => ?_, ?_⟩
    · rw [e1]
      cases c <;> simp only [cC, ev]
      case seq a b =>
        show thenC ((fast P K n).1 (cC P a) f s) ((fast P K n).1 (cC P b)) = _
        rw [h1]
        unfold thenC
        split
        · rename_i hq; rw [hq]; exact h1 _ _ _
        · rename_i hq
          split
          · rename_i f1 s1 hr; exact absurd hr (hq f1 s1)
          · rfl
      case cond x a b =>
        show condC (evX (cX x) f.tm) f s ((fast P K n).1 (cC P a)) ((fast P K n).1 (cC P b)) = _
        rw [evX_eq]
        cases f.ev x with
        | none => rfl
        | some y =>
          cases y <;> simp only [condC, choose1, h1]
          case bool c => cases c <;> rfl
          case sbool c => cases s.orc with
            | nil => rfl
            | cons d r => cases d <;> rfl
      case block id c =>
        show blockC id ((fast P K n).1 (cC P c) f s) = _
        rw [h1]; rfl
      case loop c =>
        show thenC ((fast P K n).1 (cC P c) f s) ((fast P K n).1 (.loop (cC P c))) = _
        rw [h1]
        have := h1 (.loop c)
        simp only [cC] at this
        unfold thenC
        split
        · rename_i hq; rw [hq]; exact this _ _
        · rename_i hq
          split
          · rename_i f1 s1 hr; exact absurd hr (hq f1 s1)
          · rfl
      case scope c => exact h1 c f s
      case region id ops draw =>
        cases draw with
        | false =>
          simp only [cond_false]
          show ofRR (runF (fast P K n).2 ops (ops.toList.map (cI P)) f s) = _
          rw [h2, runF_eq]; rfl
        | true =>
          simp only [cond_true]
          show ofRR (runDrawF P (fast P K n).2 ops (cD P ops) f s) = _
          rw [h2, runDrawF_eq]; rfl
      all_goals rfl
    · rw [e2]
      funext g args s
      simp only [callAt, callK]
      cases K g args s with
      | some x => rfl
      | none =>
        simp only [callF, cF, callBy]
        cases P.funcs[g]? with
        | none => rfl
        | some fn =>
          simp only []
          cases fn.body with
          | none => rfl
          | some c =>
            simp only []
            cases dOk fn.ntmps c with
            | false => rfl
            | true =>
              simp only [Bool.not_true, cond_false, h1, frameF_eq fn, leaveF_eq h1 h2]
              cases ev P K n c (frameOf fn args) s with
              | fail => rfl
              | «at» x f1 s1 => cases x <;> rfl

theorem fast_call (n : Nat) (g : FuncId) (args : List AV) (s : AS) : callAt P K n g args s = (fast P K n).2 g args s := by rw [(fast_eq n).2]
theorem fast_ev (n : Nat) (c : Code) (f : Fr) (s : AS) : ev P K n c f s = (fast P K n).1 (cC P c) f s := ((fast_eq n).1 c f s).symm
end
end
end Go.Sx
