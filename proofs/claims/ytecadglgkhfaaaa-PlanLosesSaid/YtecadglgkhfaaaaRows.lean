/-
  No cell of these rows narrows 'for every input' (looked for: loops, veiled, ifaces, maps, wideKeys, modest, calm, conditions, laid).
  DERIVED. THE GIVEN ROWS OF THIS SEAT. 7 by the template 'for every input the law returns true; each argument reads behind the call as it read before'; 0 by the template 'total and deterministic' (their statements: YtecadglgkhfaaaaTotals.lean).
  GIVEN WITH THE SEED: the statements are not yours to turn. If you find one false, say at which input.
  Laid BY PROGRAM, IN A SANDBOX (cutbox-rows.mjs): the forced cells as the released guide's own fill.sh prints them over the translation 55bace6d84517cf6… (all of the seat's roots in one cut). By AI agents, Wed Nov 11 2026. No macro, syntax, notation, axiom, sorry.
-/
import Derived.Test.YtecadglgkhfaaaaChecked
import GoSem.Claim
import GoSem.ClaimJoined
import GoSem.ClaimMapViews
import Derived.JoinedTies
import Derived.KernelRfl
namespace Go.Proofs.Ytecadglgkhfaaaa
/- THE CELL 'sum', in the pinned program and in every row, IS THE sha256 OF THE DUMP (.gsa) THAT YtecadglgkhfaaaaProg.lean LOADS. Nothing in Lean hashes anything: it is a label: what it is worth is what the hold of that sum in a sandbox is worth. -/
noncomputable def Try.pinned : Pinned := { name := "ytecadglgkhfaaaa", sum := "55bace6d84517cf6b1af04a34f84d46d7ea6b330a842c1c34bd2eb2c694f8ab5", checked := Try.checked }
namespace Rows
def none {H : Type} : Left H := { results := [], args := [] }

/-- 'slipwaylaw05.PlanSteps': WHATEVER THE INPUT: true; the input reads as it did. -/
def planStepsSpec : ChangeSpec := { name := "planSteps", fn := fun _ => fun
  | [d1, d2, d3] => { results := [.lit (.bool true)], args := [d1, d2, d3] }
  | _ => none }
def planStepsRow : OpenClaim := { program := "ytecadglgkhfaaaa", sum := "55bace6d84517cf6b1af04a34f84d46d7ea6b330a842c1c34bd2eb2c694f8ab5", func := "slipway/slipwaylaw05.PlanSteps", spec := "planSteps", unfollowed := true, recurses := true, plainKeys := false, apart := false }
def PlanStepsSaid : Prop := planStepsRow.holds Try.pinned (OpenSpec.ofChange planStepsSpec)

/-- ITS FALSE NEIGHBOUR: 'it returns false'. Refute it at one input. -/
def planStepsWrong : ChangeSpec := { name := "planSteps", fn := fun _ => fun
  | [d1, d2, d3] => { results := [.lit (.bool false)], args := [d1, d2, d3] }
  | _ => none }
def PlanStepsWrongFalsely : Prop := planStepsRow.holds Try.pinned (OpenSpec.ofChange planStepsWrong)

/-- 'slipwaylaw05.PlanNewest': WHATEVER THE INPUT: true; the input reads as it did. -/
def planNewestSpec : ChangeSpec := { name := "planNewest", fn := fun _ => fun
  | [d] => { results := [.lit (.bool true)], args := [d] }
  | _ => none }
def planNewestRow : OpenClaim := { program := "ytecadglgkhfaaaa", sum := "55bace6d84517cf6b1af04a34f84d46d7ea6b330a842c1c34bd2eb2c694f8ab5", func := "slipway/slipwaylaw05.PlanNewest", spec := "planNewest", unfollowed := true, recurses := true, plainKeys := false, apart := false }
def PlanNewestSaid : Prop := planNewestRow.holds Try.pinned (OpenSpec.ofChange planNewestSpec)

/-- ITS FALSE NEIGHBOUR: 'it returns false'. Refute it at one input. -/
def planNewestWrong : ChangeSpec := { name := "planNewest", fn := fun _ => fun
  | [d] => { results := [.lit (.bool false)], args := [d] }
  | _ => none }
def PlanNewestWrongFalsely : Prop := planNewestRow.holds Try.pinned (OpenSpec.ofChange planNewestWrong)

/-- 'slipwaylaw05.PlanKept': WHATEVER THE INPUT: true; the input reads as it did. -/
def planKeptSpec : ChangeSpec := { name := "planKept", fn := fun _ => fun
  | [d1, d2, d3] => { results := [.lit (.bool true)], args := [d1, d2, d3] }
  | _ => none }
def planKeptRow : OpenClaim := { program := "ytecadglgkhfaaaa", sum := "55bace6d84517cf6b1af04a34f84d46d7ea6b330a842c1c34bd2eb2c694f8ab5", func := "slipway/slipwaylaw05.PlanKept", spec := "planKept", unfollowed := true, recurses := true, plainKeys := false, apart := false }
def PlanKeptSaid : Prop := planKeptRow.holds Try.pinned (OpenSpec.ofChange planKeptSpec)

/-- ITS FALSE NEIGHBOUR: 'it returns false'. Refute it at one input. -/
def planKeptWrong : ChangeSpec := { name := "planKept", fn := fun _ => fun
  | [d1, d2, d3] => { results := [.lit (.bool false)], args := [d1, d2, d3] }
  | _ => none }
def PlanKeptWrongFalsely : Prop := planKeptRow.holds Try.pinned (OpenSpec.ofChange planKeptWrong)

/-- 'slipwaylaw05.PlanStays': WHATEVER THE INPUT: true; the input reads as it did. -/
def planStaysSpec : ChangeSpec := { name := "planStays", fn := fun _ => fun
  | [d] => { results := [.lit (.bool true)], args := [d] }
  | _ => none }
def planStaysRow : OpenClaim := { program := "ytecadglgkhfaaaa", sum := "55bace6d84517cf6b1af04a34f84d46d7ea6b330a842c1c34bd2eb2c694f8ab5", func := "slipway/slipwaylaw05.PlanStays", spec := "planStays", unfollowed := true, recurses := true, plainKeys := false, apart := false }
def PlanStaysSaid : Prop := planStaysRow.holds Try.pinned (OpenSpec.ofChange planStaysSpec)

/-- ITS FALSE NEIGHBOUR: 'it returns false'. Refute it at one input. -/
def planStaysWrong : ChangeSpec := { name := "planStays", fn := fun _ => fun
  | [d] => { results := [.lit (.bool false)], args := [d] }
  | _ => none }
def PlanStaysWrongFalsely : Prop := planStaysRow.holds Try.pinned (OpenSpec.ofChange planStaysWrong)

/-- 'slipwaylaw05.PlanGoes': WHATEVER THE INPUT: true; the input reads as it did. -/
def planGoesSpec : ChangeSpec := { name := "planGoes", fn := fun _ => fun
  | [d1, d2] => { results := [.lit (.bool true)], args := [d1, d2] }
  | _ => none }
def planGoesRow : OpenClaim := { program := "ytecadglgkhfaaaa", sum := "55bace6d84517cf6b1af04a34f84d46d7ea6b330a842c1c34bd2eb2c694f8ab5", func := "slipway/slipwaylaw05.PlanGoes", spec := "planGoes", unfollowed := true, recurses := true, plainKeys := false, apart := false }
def PlanGoesSaid : Prop := planGoesRow.holds Try.pinned (OpenSpec.ofChange planGoesSpec)

/-- ITS FALSE NEIGHBOUR: 'it returns false'. Refute it at one input. -/
def planGoesWrong : ChangeSpec := { name := "planGoes", fn := fun _ => fun
  | [d1, d2] => { results := [.lit (.bool false)], args := [d1, d2] }
  | _ => none }
def PlanGoesWrongFalsely : Prop := planGoesRow.holds Try.pinned (OpenSpec.ofChange planGoesWrong)

/-- 'slipwaylaw05.PlanLoses': WHATEVER THE INPUT: true; the input reads as it did. -/
def planLosesSpec : ChangeSpec := { name := "planLoses", fn := fun _ => fun
  | [d] => { results := [.lit (.bool true)], args := [d] }
  | _ => none }
def planLosesRow : OpenClaim := { program := "ytecadglgkhfaaaa", sum := "55bace6d84517cf6b1af04a34f84d46d7ea6b330a842c1c34bd2eb2c694f8ab5", func := "slipway/slipwaylaw05.PlanLoses", spec := "planLoses", unfollowed := true, recurses := true, plainKeys := false, apart := false }
def PlanLosesSaid : Prop := planLosesRow.holds Try.pinned (OpenSpec.ofChange planLosesSpec)

/-- ITS FALSE NEIGHBOUR: 'it returns false'. Refute it at one input. -/
def planLosesWrong : ChangeSpec := { name := "planLoses", fn := fun _ => fun
  | [d] => { results := [.lit (.bool false)], args := [d] }
  | _ => none }
def PlanLosesWrongFalsely : Prop := planLosesRow.holds Try.pinned (OpenSpec.ofChange planLosesWrong)

/-- 'slipwaylaw05.PlanMerges': WHATEVER THE INPUT: true; the input reads as it did. -/
def planMergesSpec : ChangeSpec := { name := "planMerges", fn := fun _ => fun
  | [d1, d2, d3] => { results := [.lit (.bool true)], args := [d1, d2, d3] }
  | _ => none }
def planMergesRow : OpenClaim := { program := "ytecadglgkhfaaaa", sum := "55bace6d84517cf6b1af04a34f84d46d7ea6b330a842c1c34bd2eb2c694f8ab5", func := "slipway/slipwaylaw05.PlanMerges", spec := "planMerges", unfollowed := true, recurses := true, plainKeys := false, apart := false }
def PlanMergesSaid : Prop := planMergesRow.holds Try.pinned (OpenSpec.ofChange planMergesSpec)

/-- ITS FALSE NEIGHBOUR: 'it returns false'. Refute it at one input. -/
def planMergesWrong : ChangeSpec := { name := "planMerges", fn := fun _ => fun
  | [d1, d2, d3] => { results := [.lit (.bool false)], args := [d1, d2, d3] }
  | _ => none }
def PlanMergesWrongFalsely : Prop := planMergesRow.holds Try.pinned (OpenSpec.ofChange planMergesWrong)

/- THE SECOND FORM. 'bulk': how many values and letters a reading holds, each counted each time it is reached (what is shared counts as often as it is met; a slice's spare places count too). A statement '..UptoSaid' is the law's where the arguments, and the package variables that the reading takes, are together of bulk at most 1048576: NARROWER than '..Said'. Prove '..Said' where nothing that the law and all that it calls make is longer than what came in: it says more and counts as full. Else prove '..UptoSaid'. A law counts once. -/
mutual
def uptoBulk {H : Type} : DataW H → Nat
  | .lit (.string bytes) => bytes.length + 1
  | .lit _ => 1
  | .nil => 1
  | .ptr d => uptoBulk d + 1
  | .slice elems spare => uptoBulkAll elems + uptoBulkAll spare + 1
  | .agg parts => uptoBulkAll parts + 1
  | .iface _ d => uptoBulk d + 1
  | .map entries => uptoBulkEntries entries + 1
  | .held _ => 1
def uptoBulkAll {H : Type} : List (DataW H) → Nat
  | [] => 0
  | d :: r => uptoBulk d + uptoBulkAll r
def uptoBulkEntries {H : Type} : List (Lit × DataW H) → Nat
  | [] => 0
  | x :: r => uptoBulkEntry x + uptoBulkEntries r
def uptoBulkEntry {H : Type} : Lit × DataW H → Nat
  | (.string bytes, d) => bytes.length + uptoBulk d + 1
  | (_, d) => uptoBulk d + 1
 end
def uptoSmall : (H : Type) → List (DataW H) → Bool := fun _ ds => decide (uptoBulkAll ds ≤ 1048576)
def OpenSpec.upto (s : _root_.Go.ChangeSpec) : _root_.Go.OpenSpec := { _root_.Go.OpenSpec.ofChange s with cond := some uptoSmall }

/-- 'slipwaylaw05.PlanSteps', WHERE WHAT IT READS IS OF BULK AT MOST 1048576: true; the input reads as it did. -/
def planStepsUptoRow : OpenClaim := { program := "ytecadglgkhfaaaa", sum := "55bace6d84517cf6b1af04a34f84d46d7ea6b330a842c1c34bd2eb2c694f8ab5", func := "slipway/slipwaylaw05.PlanSteps", spec := "planSteps", unfollowed := true, recurses := true, plainKeys := false, apart := false, narrowed := true }
def PlanStepsUptoSaid : Prop := planStepsUptoRow.holds Try.pinned (OpenSpec.upto planStepsSpec)

/-- 'slipwaylaw05.PlanNewest', WHERE WHAT IT READS IS OF BULK AT MOST 1048576: true; the input reads as it did. -/
def planNewestUptoRow : OpenClaim := { program := "ytecadglgkhfaaaa", sum := "55bace6d84517cf6b1af04a34f84d46d7ea6b330a842c1c34bd2eb2c694f8ab5", func := "slipway/slipwaylaw05.PlanNewest", spec := "planNewest", unfollowed := true, recurses := true, plainKeys := false, apart := false, narrowed := true }
def PlanNewestUptoSaid : Prop := planNewestUptoRow.holds Try.pinned (OpenSpec.upto planNewestSpec)

/-- 'slipwaylaw05.PlanKept', WHERE WHAT IT READS IS OF BULK AT MOST 1048576: true; the input reads as it did. -/
def planKeptUptoRow : OpenClaim := { program := "ytecadglgkhfaaaa", sum := "55bace6d84517cf6b1af04a34f84d46d7ea6b330a842c1c34bd2eb2c694f8ab5", func := "slipway/slipwaylaw05.PlanKept", spec := "planKept", unfollowed := true, recurses := true, plainKeys := false, apart := false, narrowed := true }
def PlanKeptUptoSaid : Prop := planKeptUptoRow.holds Try.pinned (OpenSpec.upto planKeptSpec)

/-- 'slipwaylaw05.PlanStays', WHERE WHAT IT READS IS OF BULK AT MOST 1048576: true; the input reads as it did. -/
def planStaysUptoRow : OpenClaim := { program := "ytecadglgkhfaaaa", sum := "55bace6d84517cf6b1af04a34f84d46d7ea6b330a842c1c34bd2eb2c694f8ab5", func := "slipway/slipwaylaw05.PlanStays", spec := "planStays", unfollowed := true, recurses := true, plainKeys := false, apart := false, narrowed := true }
def PlanStaysUptoSaid : Prop := planStaysUptoRow.holds Try.pinned (OpenSpec.upto planStaysSpec)

/-- 'slipwaylaw05.PlanGoes', WHERE WHAT IT READS IS OF BULK AT MOST 1048576: true; the input reads as it did. -/
def planGoesUptoRow : OpenClaim := { program := "ytecadglgkhfaaaa", sum := "55bace6d84517cf6b1af04a34f84d46d7ea6b330a842c1c34bd2eb2c694f8ab5", func := "slipway/slipwaylaw05.PlanGoes", spec := "planGoes", unfollowed := true, recurses := true, plainKeys := false, apart := false, narrowed := true }
def PlanGoesUptoSaid : Prop := planGoesUptoRow.holds Try.pinned (OpenSpec.upto planGoesSpec)

/-- 'slipwaylaw05.PlanLoses', WHERE WHAT IT READS IS OF BULK AT MOST 1048576: true; the input reads as it did. -/
def planLosesUptoRow : OpenClaim := { program := "ytecadglgkhfaaaa", sum := "55bace6d84517cf6b1af04a34f84d46d7ea6b330a842c1c34bd2eb2c694f8ab5", func := "slipway/slipwaylaw05.PlanLoses", spec := "planLoses", unfollowed := true, recurses := true, plainKeys := false, apart := false, narrowed := true }
def PlanLosesUptoSaid : Prop := planLosesUptoRow.holds Try.pinned (OpenSpec.upto planLosesSpec)

/-- 'slipwaylaw05.PlanMerges', WHERE WHAT IT READS IS OF BULK AT MOST 1048576: true; the input reads as it did. -/
def planMergesUptoRow : OpenClaim := { program := "ytecadglgkhfaaaa", sum := "55bace6d84517cf6b1af04a34f84d46d7ea6b330a842c1c34bd2eb2c694f8ab5", func := "slipway/slipwaylaw05.PlanMerges", spec := "planMerges", unfollowed := true, recurses := true, plainKeys := false, apart := false, narrowed := true }
def PlanMergesUptoSaid : Prop := planMergesUptoRow.holds Try.pinned (OpenSpec.upto planMergesSpec)

end Rows
end Go.Proofs.Ytecadglgkhfaaaa
