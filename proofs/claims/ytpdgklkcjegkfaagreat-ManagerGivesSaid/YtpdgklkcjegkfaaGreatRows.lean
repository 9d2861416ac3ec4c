/-
  No cell of these rows narrows 'for every input' (looked for: loops, veiled, ifaces, maps, wideKeys, modest, calm, conditions, laid).
  DERIVED. THE GIVEN ROWS OF THIS SEAT. 5 by the template 'for every input the law returns true; each argument reads behind the call as it read before'; 0 by the template 'total and deterministic' (their statements: YtpdgklkcjegkfaaGreatTotals.lean).
  GIVEN WITH THE SEED: the statements are not yours to turn. If you find one false, say at which input.
  Laid BY PROGRAM, IN A SANDBOX (cutbox-rows.mjs): the forced cells as the released guide's own fill.sh prints them over the translation eff925b3ce75fc9e… (all of the seat's roots in one cut). By AI agents, Wed Nov 11 2026. No macro, syntax, notation, axiom, sorry.
-/
import Derived.Test.YtpdgklkcjegkfaaGreatChecked
import GoSem.Claim
import GoSem.ClaimJoined
import GoSem.ClaimMapViews
import Derived.JoinedTies
import Derived.KernelRfl
namespace Go.Proofs.YtpdgklkcjegkfaaGreat
/- THE CELL 'sum', in the pinned program and in every row, IS THE sha256 OF THE DUMP (.gsa) THAT YtpdgklkcjegkfaaGreatProg.lean LOADS. Nothing in Lean hashes anything: it is a label: what it is worth is what the hold of that sum in a sandbox is worth. -/
noncomputable def Tryz.pinned : Pinned := { name := "ytpdgklkcjegkfaagreat", sum := "eff925b3ce75fc9e2376c87a4a09383efec3705691113ab1d7b000856ef2ed67", checked := Tryz.checked }
namespace Rows
def none {H : Type} : Left H := { results := [], args := [] }

/-- 'campanilelaw24.ManagerSilent': WHATEVER THE INPUT: true; the input reads as it did. -/
def managerSilentSpec : ChangeSpec := { name := "managerSilent", fn := fun _ => fun
  | [d1, d2, d3] => { results := [.lit (.bool true)], args := [d1, d2, d3] }
  | _ => none }
def managerSilentRow : OpenClaim := { program := "ytpdgklkcjegkfaagreat", sum := "eff925b3ce75fc9e2376c87a4a09383efec3705691113ab1d7b000856ef2ed67", func := "campanile/campanilelaw24.ManagerSilent", spec := "managerSilent", unfollowed := true, recurses := true, plainKeys := false, apart := false }
def ManagerSilentSaid : Prop := managerSilentRow.holds Tryz.pinned (OpenSpec.ofChange managerSilentSpec)

/-- ITS FALSE NEIGHBOUR: 'it returns false'. Refute it at one input. -/
def managerSilentWrong : ChangeSpec := { name := "managerSilent", fn := fun _ => fun
  | [d1, d2, d3] => { results := [.lit (.bool false)], args := [d1, d2, d3] }
  | _ => none }
def ManagerSilentWrongFalsely : Prop := managerSilentRow.holds Tryz.pinned (OpenSpec.ofChange managerSilentWrong)

/-- 'campanilelaw24.ManagerGives': WHATEVER THE INPUT: true; the input reads as it did. -/
def managerGivesSpec : ChangeSpec := { name := "managerGives", fn := fun _ => fun
  | [d1, d2, d3] => { results := [.lit (.bool true)], args := [d1, d2, d3] }
  | _ => none }
def managerGivesRow : OpenClaim := { program := "ytpdgklkcjegkfaagreat", sum := "eff925b3ce75fc9e2376c87a4a09383efec3705691113ab1d7b000856ef2ed67", func := "campanile/campanilelaw24.ManagerGives", spec := "managerGives", unfollowed := true, recurses := true, plainKeys := false, apart := false }
def ManagerGivesSaid : Prop := managerGivesRow.holds Tryz.pinned (OpenSpec.ofChange managerGivesSpec)

/-- ITS FALSE NEIGHBOUR: 'it returns false'. Refute it at one input. -/
def managerGivesWrong : ChangeSpec := { name := "managerGives", fn := fun _ => fun
  | [d1, d2, d3] => { results := [.lit (.bool false)], args := [d1, d2, d3] }
  | _ => none }
def ManagerGivesWrongFalsely : Prop := managerGivesRow.holds Tryz.pinned (OpenSpec.ofChange managerGivesWrong)

/-- 'campanilelaw24.ManagerStops': WHATEVER THE INPUT: true; the input reads as it did. -/
def managerStopsSpec : ChangeSpec := { name := "managerStops", fn := fun _ => fun
  | [d1, d2, d3] => { results := [.lit (.bool true)], args := [d1, d2, d3] }
  | _ => none }
def managerStopsRow : OpenClaim := { program := "ytpdgklkcjegkfaagreat", sum := "eff925b3ce75fc9e2376c87a4a09383efec3705691113ab1d7b000856ef2ed67", func := "campanile/campanilelaw24.ManagerStops", spec := "managerStops", inPlace := ["math.Float32frombits", "math.Float64frombits", "math.Float64bits"], unfollowed := true, recurses := true, plainKeys := false, apart := false }
def ManagerStopsSaid : Prop := managerStopsRow.holds Tryz.pinned (OpenSpec.ofChange managerStopsSpec)

/-- ITS FALSE NEIGHBOUR: 'it returns false'. Refute it at one input. -/
def managerStopsWrong : ChangeSpec := { name := "managerStops", fn := fun _ => fun
  | [d1, d2, d3] => { results := [.lit (.bool false)], args := [d1, d2, d3] }
  | _ => none }
def ManagerStopsWrongFalsely : Prop := managerStopsRow.holds Tryz.pinned (OpenSpec.ofChange managerStopsWrong)

/-- 'campanilelaw24.ManagerQuiet': WHATEVER THE INPUT: true; the input reads as it did. -/
def managerQuietSpec : ChangeSpec := { name := "managerQuiet", fn := fun _ => fun
  | [d1, d2] => { results := [.lit (.bool true)], args := [d1, d2] }
  | _ => none }
def managerQuietRow : OpenClaim := { program := "ytpdgklkcjegkfaagreat", sum := "eff925b3ce75fc9e2376c87a4a09383efec3705691113ab1d7b000856ef2ed67", func := "campanile/campanilelaw24.ManagerQuiet", spec := "managerQuiet", inPlace := ["math.Float32frombits", "math.Float64frombits", "math.Float64bits"], unfollowed := true, recurses := true, plainKeys := false, apart := false }
def ManagerQuietSaid : Prop := managerQuietRow.holds Tryz.pinned (OpenSpec.ofChange managerQuietSpec)

/-- ITS FALSE NEIGHBOUR: 'it returns false'. Refute it at one input. -/
def managerQuietWrong : ChangeSpec := { name := "managerQuiet", fn := fun _ => fun
  | [d1, d2] => { results := [.lit (.bool false)], args := [d1, d2] }
  | _ => none }
def ManagerQuietWrongFalsely : Prop := managerQuietRow.holds Tryz.pinned (OpenSpec.ofChange managerQuietWrong)

/-- 'campanilelaw24.ManagerKnown': WHATEVER THE INPUT: true; the input reads as it did. -/
def managerKnownSpec : ChangeSpec := { name := "managerKnown", fn := fun _ => fun
  | [] => { results := [.lit (.bool true)], args := [] }
  | _ => none }
def managerKnownRow : OpenClaim := { program := "ytpdgklkcjegkfaagreat", sum := "eff925b3ce75fc9e2376c87a4a09383efec3705691113ab1d7b000856ef2ed67", func := "campanile/campanilelaw24.ManagerKnown", spec := "managerKnown", inPlace := ["math.Float32frombits", "math.Float64frombits", "math.Float64bits"], unfollowed := true, recurses := true, plainKeys := false, apart := false }
def ManagerKnownSaid : Prop := managerKnownRow.holds Tryz.pinned (OpenSpec.ofChange managerKnownSpec)

/-- ITS FALSE NEIGHBOUR: 'it returns false'. Refute it at one input. -/
def managerKnownWrong : ChangeSpec := { name := "managerKnown", fn := fun _ => fun
  | [] => { results := [.lit (.bool false)], args := [] }
  | _ => none }
def ManagerKnownWrongFalsely : Prop := managerKnownRow.holds Tryz.pinned (OpenSpec.ofChange managerKnownWrong)

/- THE SECOND FORM. 'bulk': how many values and letters a reading holds, each counted each time it is reached (what is shared counts as often as it is met; a slice's spare places count too). A statement '..UptoSaid' is the law's where the arguments, and the package variables that the reading takes, are together of bulk at most 1048576: NARROWER than '..Said'. Prove '..Said' where nothing that the law and all that it calls make is longer than what came in: it says more and counts as full. Else prove '..UptoSaid'. A law counts once. -/
mutual
def uptoBulk {H : Type} : DataW H → Nat
  | .lit (.string bytes) => bytes.length + 1
  | .lit _ => 1
  | .nil => 1
  | .ptr d => uptoBulk d + 1
  | .slice elems spare => uptoBulkAll elems + uptoBulkAll spare + 1
  | .agg parts => uptoBulkAll parts + 1
  | .iface _ d => uptoBulk d + 1
  | .map entries => uptoBulkEntries entries + 1
  | .held _ => 1
def uptoBulkAll {H : Type} : List (DataW H) → Nat
  | [] => 0
  | d :: r => uptoBulk d + uptoBulkAll r
def uptoBulkEntries {H : Type} : List (Lit × DataW H) → Nat
  | [] => 0
  | x :: r => uptoBulkEntry x + uptoBulkEntries r
def uptoBulkEntry {H : Type} : Lit × DataW H → Nat
  | (.string bytes, d) => bytes.length + uptoBulk d + 1
  | (_, d) => uptoBulk d + 1
 end
def uptoSmall : (H : Type) → List (DataW H) → Bool := fun _ ds => decide (uptoBulkAll ds ≤ 1048576)
def OpenSpec.upto (s : _root_.Go.ChangeSpec) : _root_.Go.OpenSpec := { _root_.Go.OpenSpec.ofChange s with cond := some uptoSmall }

/-- 'campanilelaw24.ManagerSilent', WHERE WHAT IT READS IS OF BULK AT MOST 1048576: true; the input reads as it did. -/
def managerSilentUptoRow : OpenClaim := { program := "ytpdgklkcjegkfaagreat", sum := "eff925b3ce75fc9e2376c87a4a09383efec3705691113ab1d7b000856ef2ed67", func := "campanile/campanilelaw24.ManagerSilent", spec := "managerSilent", unfollowed := true, recurses := true, plainKeys := false, apart := false, narrowed := true }
def ManagerSilentUptoSaid : Prop := managerSilentUptoRow.holds Tryz.pinned (OpenSpec.upto managerSilentSpec)

/-- 'campanilelaw24.ManagerGives', WHERE WHAT IT READS IS OF BULK AT MOST 1048576: true; the input reads as it did. -/
def managerGivesUptoRow : OpenClaim := { program := "ytpdgklkcjegkfaagreat", sum := "eff925b3ce75fc9e2376c87a4a09383efec3705691113ab1d7b000856ef2ed67", func := "campanile/campanilelaw24.ManagerGives", spec := "managerGives", unfollowed := true, recurses := true, plainKeys := false, apart := false, narrowed := true }
def ManagerGivesUptoSaid : Prop := managerGivesUptoRow.holds Tryz.pinned (OpenSpec.upto managerGivesSpec)

/-- 'campanilelaw24.ManagerStops', WHERE WHAT IT READS IS OF BULK AT MOST 1048576: true; the input reads as it did. -/
def managerStopsUptoRow : OpenClaim := { program := "ytpdgklkcjegkfaagreat", sum := "eff925b3ce75fc9e2376c87a4a09383efec3705691113ab1d7b000856ef2ed67", func := "campanile/campanilelaw24.ManagerStops", spec := "managerStops", inPlace := ["math.Float32frombits", "math.Float64frombits", "math.Float64bits"], unfollowed := true, recurses := true, plainKeys := false, apart := false, narrowed := true }
def ManagerStopsUptoSaid : Prop := managerStopsUptoRow.holds Tryz.pinned (OpenSpec.upto managerStopsSpec)

/-- 'campanilelaw24.ManagerQuiet', WHERE WHAT IT READS IS OF BULK AT MOST 1048576: true; the input reads as it did. -/
def managerQuietUptoRow : OpenClaim := { program := "ytpdgklkcjegkfaagreat", sum := "eff925b3ce75fc9e2376c87a4a09383efec3705691113ab1d7b000856ef2ed67", func := "campanile/campanilelaw24.ManagerQuiet", spec := "managerQuiet", inPlace := ["math.Float32frombits", "math.Float64frombits", "math.Float64bits"], unfollowed := true, recurses := true, plainKeys := false, apart := false, narrowed := true }
def ManagerQuietUptoSaid : Prop := managerQuietUptoRow.holds Tryz.pinned (OpenSpec.upto managerQuietSpec)

/-- 'campanilelaw24.ManagerKnown', WHERE WHAT IT READS IS OF BULK AT MOST 1048576: true; the input reads as it did. -/
def managerKnownUptoRow : OpenClaim := { program := "ytpdgklkcjegkfaagreat", sum := "eff925b3ce75fc9e2376c87a4a09383efec3705691113ab1d7b000856ef2ed67", func := "campanile/campanilelaw24.ManagerKnown", spec := "managerKnown", inPlace := ["math.Float32frombits", "math.Float64frombits", "math.Float64bits"], unfollowed := true, recurses := true, plainKeys := false, apart := false, narrowed := true }
def ManagerKnownUptoSaid : Prop := managerKnownUptoRow.holds Tryz.pinned (OpenSpec.upto managerKnownSpec)

end Rows
end Go.Proofs.YtpdgklkcjegkfaaGreat
