/-
  No cell of these rows narrows 'for every input' (looked for: loops, veiled, ifaces, maps, wideKeys, modest, calm, conditions, laid).
  DERIVED. THE GIVEN ROWS OF THIS SEAT. 3 by the template 'for every input the law returns true; each argument reads behind the call as it read before'; 0 by the template 'total and deterministic' (their statements: YtjleeabhpfmhaaaTotals.lean).
  GIVEN WITH THE SEED: the statements are not yours to turn. If you find one false, say at which input.
  Laid BY PROGRAM, IN A SANDBOX (cutbox-rows.mjs): the forced cells as the released guide's own fill.sh prints them over the translation fbdec192f54daef4… (all of the seat's roots in one cut). By AI agents, Wed Nov 11 2026. No macro, syntax, notation, axiom, sorry.
-/
import Derived.Test.YtjleeabhpfmhaaaChecked
import GoSem.Claim
import GoSem.ClaimJoined
import GoSem.ClaimMapViews
import Derived.JoinedTies
import Derived.KernelRfl
namespace Go.Proofs.Ytjleeabhpfmhaaa
/- THE CELL 'sum', in the pinned program and in every row, IS THE sha256 OF THE DUMP (.gsa) THAT YtjleeabhpfmhaaaProg.lean LOADS. Nothing in Lean hashes anything: it is a label: what it is worth is what the hold of that sum in a sandbox is worth. -/
noncomputable def Try.pinned : Pinned := { name := "ytjleeabhpfmhaaa", sum := "fbdec192f54daef4f41df0a13ca57681730d809d5230c7437b89209ccb46bd53", checked := Try.checked }
namespace Rows
def none {H : Type} : Left H := { results := [], args := [] }

/-- 'slipwaylaw18.ReplayScans': WHATEVER THE INPUT: true; the input reads as it did. -/
def replayScansSpec : ChangeSpec := { name := "replayScans", fn := fun _ => fun
  | [d1, d2, d3] => { results := [.lit (.bool true)], args := [d1, d2, d3] }
  | _ => none }
def replayScansRow : OpenClaim := { program := "ytjleeabhpfmhaaa", sum := "fbdec192f54daef4f41df0a13ca57681730d809d5230c7437b89209ccb46bd53", func := "slipway/slipwaylaw18.ReplayScans", spec := "replayScans", unfollowed := true, recurses := true, apart := false }
def ReplayScansSaid : Prop := replayScansRow.holds Try.pinned (OpenSpec.ofChange replayScansSpec)

/-- ITS FALSE NEIGHBOUR: 'it returns false'. Refute it at one input. -/
def replayScansWrong : ChangeSpec := { name := "replayScans", fn := fun _ => fun
  | [d1, d2, d3] => { results := [.lit (.bool false)], args := [d1, d2, d3] }
  | _ => none }
def ReplayScansWrongFalsely : Prop := replayScansRow.holds Try.pinned (OpenSpec.ofChange replayScansWrong)

/-- 'slipwaylaw18.ReplayFinds': WHATEVER THE INPUT: true; the input reads as it did. -/
def replayFindsSpec : ChangeSpec := { name := "replayFinds", fn := fun _ => fun
  | [d] => { results := [.lit (.bool true)], args := [d] }
  | _ => none }
def replayFindsRow : OpenClaim := { program := "ytjleeabhpfmhaaa", sum := "fbdec192f54daef4f41df0a13ca57681730d809d5230c7437b89209ccb46bd53", func := "slipway/slipwaylaw18.ReplayFinds", spec := "replayFinds", unfollowed := true, recurses := true, apart := false }
def ReplayFindsSaid : Prop := replayFindsRow.holds Try.pinned (OpenSpec.ofChange replayFindsSpec)

/-- ITS FALSE NEIGHBOUR: 'it returns false'. Refute it at one input. -/
def replayFindsWrong : ChangeSpec := { name := "replayFinds", fn := fun _ => fun
  | [d] => { results := [.lit (.bool false)], args := [d] }
  | _ => none }
def ReplayFindsWrongFalsely : Prop := replayFindsRow.holds Try.pinned (OpenSpec.ofChange replayFindsWrong)

/-- 'slipwaylaw18.ReplayRedos': WHATEVER THE INPUT: true; the input reads as it did. -/
def replayRedosSpec : ChangeSpec := { name := "replayRedos", fn := fun _ => fun
  | [d] => { results := [.lit (.bool true)], args := [d] }
  | _ => none }
def replayRedosRow : OpenClaim := { program := "ytjleeabhpfmhaaa", sum := "fbdec192f54daef4f41df0a13ca57681730d809d5230c7437b89209ccb46bd53", func := "slipway/slipwaylaw18.ReplayRedos", spec := "replayRedos", unfollowed := true, recurses := true, apart := false }
def ReplayRedosSaid : Prop := replayRedosRow.holds Try.pinned (OpenSpec.ofChange replayRedosSpec)

/-- ITS FALSE NEIGHBOUR: 'it returns false'. Refute it at one input. -/
def replayRedosWrong : ChangeSpec := { name := "replayRedos", fn := fun _ => fun
  | [d] => { results := [.lit (.bool false)], args := [d] }
  | _ => none }
def ReplayRedosWrongFalsely : Prop := replayRedosRow.holds Try.pinned (OpenSpec.ofChange replayRedosWrong)

/- THE SECOND FORM. 'bulk': how many values and letters a reading holds, each counted each time it is reached (what is shared counts as often as it is met; a slice's spare places count too). A statement '..UptoSaid' is the law's where the arguments, and the package variables that the reading takes, are together of bulk at most 1048576: NARROWER than '..Said'. Prove '..Said' where nothing that the law and all that it calls make is longer than what came in: it says more and counts as full. Else prove '..UptoSaid'. A law counts once. -/
mutual
def uptoBulk {H : Type} : DataW H → Nat
  | .lit (.string bytes) => bytes.length + 1
  | .lit _ => 1
  | .nil => 1
  | .ptr d => uptoBulk d + 1
  | .slice elems spare => uptoBulkAll elems + uptoBulkAll spare + 1
  | .agg parts => uptoBulkAll parts + 1
  | .iface _ d => uptoBulk d + 1
  | .map entries => uptoBulkEntries entries + 1
  | .held _ => 1
def uptoBulkAll {H : Type} : List (DataW H) → Nat
  | [] => 0
  | d :: r => uptoBulk d + uptoBulkAll r
def uptoBulkEntries {H : Type} : List (Lit × DataW H) → Nat
  | [] => 0
  | x :: r => uptoBulkEntry x + uptoBulkEntries r
def uptoBulkEntry {H : Type} : Lit × DataW H → Nat
  | (.string bytes, d) => bytes.length + uptoBulk d + 1
  | (_, d) => uptoBulk d + 1
 end
def uptoSmall : (H : Type) → List (DataW H) → Bool := fun _ ds => decide (uptoBulkAll ds ≤ 1048576)
def OpenSpec.upto (s : _root_.Go.ChangeSpec) : _root_.Go.OpenSpec := { _root_.Go.OpenSpec.ofChange s with cond := some uptoSmall }

/-- 'slipwaylaw18.ReplayScans', WHERE WHAT IT READS IS OF BULK AT MOST 1048576: true; the input reads as it did. -/
def replayScansUptoRow : OpenClaim := { program := "ytjleeabhpfmhaaa", sum := "fbdec192f54daef4f41df0a13ca57681730d809d5230c7437b89209ccb46bd53", func := "slipway/slipwaylaw18.ReplayScans", spec := "replayScans", unfollowed := true, recurses := true, apart := false, narrowed := true }
def ReplayScansUptoSaid : Prop := replayScansUptoRow.holds Try.pinned (OpenSpec.upto replayScansSpec)

/-- 'slipwaylaw18.ReplayFinds', WHERE WHAT IT READS IS OF BULK AT MOST 1048576: true; the input reads as it did. -/
def replayFindsUptoRow : OpenClaim := { program := "ytjleeabhpfmhaaa", sum := "fbdec192f54daef4f41df0a13ca57681730d809d5230c7437b89209ccb46bd53", func := "slipway/slipwaylaw18.ReplayFinds", spec := "replayFinds", unfollowed := true, recurses := true, apart := false, narrowed := true }
def ReplayFindsUptoSaid : Prop := replayFindsUptoRow.holds Try.pinned (OpenSpec.upto replayFindsSpec)

/-- 'slipwaylaw18.ReplayRedos', WHERE WHAT IT READS IS OF BULK AT MOST 1048576: true; the input reads as it did. -/
def replayRedosUptoRow : OpenClaim := { program := "ytjleeabhpfmhaaa", sum := "fbdec192f54daef4f41df0a13ca57681730d809d5230c7437b89209ccb46bd53", func := "slipway/slipwaylaw18.ReplayRedos", spec := "replayRedos", unfollowed := true, recurses := true, apart := false, narrowed := true }
def ReplayRedosUptoSaid : Prop := replayRedosUptoRow.holds Try.pinned (OpenSpec.upto replayRedosSpec)

end Rows
end Go.Proofs.Ytjleeabhpfmhaaa
