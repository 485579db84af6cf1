/-
  No cell of these rows narrows 'for every input' (looked for: loops, veiled, ifaces, maps, wideKeys, modest, calm, conditions, laid).
  DERIVED. THE GIVEN ROWS OF THIS SEAT. 5 by the template 'for every input the law returns true; each argument reads behind the call as it read before'; 0 by the template 'total and deterministic' (their statements: YtlkgkmalfdlbfaaTotals.lean).
  GIVEN WITH THE SEED: the statements are not yours to turn. If you find one false, say at which input.
  Laid BY PROGRAM, IN A SANDBOX (cutbox-rows.mjs): the forced cells as the released guide's own fill.sh prints them over the translation 1a130df158e66824… (all of the seat's roots in one cut). By AI agents, Wed Nov 11 2026. No macro, syntax, notation, axiom, sorry.
-/
import Derived.Test.YtlkgkmalfdlbfaaChecked
import GoSem.Claim
import GoSem.ClaimJoined
import GoSem.ClaimMapViews
import Derived.JoinedTies
import Derived.KernelRfl
namespace Go.Proofs.Ytlkgkmalfdlbfaa
/- THE CELL 'sum', in the pinned program and in every row, IS THE sha256 OF THE DUMP (.gsa) THAT YtlkgkmalfdlbfaaProg.lean LOADS. Nothing in Lean hashes anything: it is a label: what it is worth is what the hold of that sum in a sandbox is worth. -/
noncomputable def Try.pinned : Pinned := { name := "ytlkgkmalfdlbfaa", sum := "1a130df158e66824cd8376384fc1980c9d56c565be8a6398608ac1ecffc9e3e5", checked := Try.checked }
namespace Rows
def none {H : Type} : Left H := { results := [], args := [] }

/-- 'slipwaylaw13.ExtentBlocks': WHATEVER THE INPUT: true; the input reads as it did. -/
def extentBlocksSpec : ChangeSpec := { name := "extentBlocks", fn := fun _ => fun
  | [d1, d2] => { results := [.lit (.bool true)], args := [d1, d2] }
  | _ => none }
def extentBlocksRow : OpenClaim := { program := "ytlkgkmalfdlbfaa", sum := "1a130df158e66824cd8376384fc1980c9d56c565be8a6398608ac1ecffc9e3e5", func := "slipway/slipwaylaw13.ExtentBlocks", spec := "extentBlocks", unfollowed := true, recurses := true, apart := false }
def ExtentBlocksSaid : Prop := extentBlocksRow.holds Try.pinned (OpenSpec.ofChange extentBlocksSpec)

/-- ITS FALSE NEIGHBOUR: 'it returns false'. Refute it at one input. -/
def extentBlocksWrong : ChangeSpec := { name := "extentBlocks", fn := fun _ => fun
  | [d1, d2] => { results := [.lit (.bool false)], args := [d1, d2] }
  | _ => none }
def ExtentBlocksWrongFalsely : Prop := extentBlocksRow.holds Try.pinned (OpenSpec.ofChange extentBlocksWrong)

/-- 'slipwaylaw13.ExtentMakes': WHATEVER THE INPUT: true; the input reads as it did. -/
def extentMakesSpec : ChangeSpec := { name := "extentMakes", fn := fun _ => fun
  | [d1, d2, d3] => { results := [.lit (.bool true)], args := [d1, d2, d3] }
  | _ => none }
def extentMakesRow : OpenClaim := { program := "ytlkgkmalfdlbfaa", sum := "1a130df158e66824cd8376384fc1980c9d56c565be8a6398608ac1ecffc9e3e5", func := "slipway/slipwaylaw13.ExtentMakes", spec := "extentMakes", unfollowed := true, recurses := true, apart := false }
def ExtentMakesSaid : Prop := extentMakesRow.holds Try.pinned (OpenSpec.ofChange extentMakesSpec)

/-- ITS FALSE NEIGHBOUR: 'it returns false'. Refute it at one input. -/
def extentMakesWrong : ChangeSpec := { name := "extentMakes", fn := fun _ => fun
  | [d1, d2, d3] => { results := [.lit (.bool false)], args := [d1, d2, d3] }
  | _ => none }
def ExtentMakesWrongFalsely : Prop := extentMakesRow.holds Try.pinned (OpenSpec.ofChange extentMakesWrong)

/-- 'slipwaylaw13.ExtentForm': WHATEVER THE INPUT: true; the input reads as it did. -/
def extentFormSpec : ChangeSpec := { name := "extentForm", fn := fun _ => fun
  | [d1, d2, d3] => { results := [.lit (.bool true)], args := [d1, d2, d3] }
  | _ => none }
def extentFormRow : OpenClaim := { program := "ytlkgkmalfdlbfaa", sum := "1a130df158e66824cd8376384fc1980c9d56c565be8a6398608ac1ecffc9e3e5", func := "slipway/slipwaylaw13.ExtentForm", spec := "extentForm", unfollowed := true, recurses := true, apart := false }
def ExtentFormSaid : Prop := extentFormRow.holds Try.pinned (OpenSpec.ofChange extentFormSpec)

/-- ITS FALSE NEIGHBOUR: 'it returns false'. Refute it at one input. -/
def extentFormWrong : ChangeSpec := { name := "extentForm", fn := fun _ => fun
  | [d1, d2, d3] => { results := [.lit (.bool false)], args := [d1, d2, d3] }
  | _ => none }
def ExtentFormWrongFalsely : Prop := extentFormRow.holds Try.pinned (OpenSpec.ofChange extentFormWrong)

/-- 'slipwaylaw13.ExtentRanges': WHATEVER THE INPUT: true; the input reads as it did. -/
def extentRangesSpec : ChangeSpec := { name := "extentRanges", fn := fun _ => fun
  | [d1, d2, d3] => { results := [.lit (.bool true)], args := [d1, d2, d3] }
  | _ => none }
def extentRangesRow : OpenClaim := { program := "ytlkgkmalfdlbfaa", sum := "1a130df158e66824cd8376384fc1980c9d56c565be8a6398608ac1ecffc9e3e5", func := "slipway/slipwaylaw13.ExtentRanges", spec := "extentRanges", unfollowed := true, recurses := true, apart := false }
def ExtentRangesSaid : Prop := extentRangesRow.holds Try.pinned (OpenSpec.ofChange extentRangesSpec)

/-- ITS FALSE NEIGHBOUR: 'it returns false'. Refute it at one input. -/
def extentRangesWrong : ChangeSpec := { name := "extentRanges", fn := fun _ => fun
  | [d1, d2, d3] => { results := [.lit (.bool false)], args := [d1, d2, d3] }
  | _ => none }
def ExtentRangesWrongFalsely : Prop := extentRangesRow.holds Try.pinned (OpenSpec.ofChange extentRangesWrong)

/-- 'slipwaylaw13.ExtentTells': WHATEVER THE INPUT: true; the input reads as it did. -/
def extentTellsSpec : ChangeSpec := { name := "extentTells", fn := fun _ => fun
  | [d1, d2, d3] => { results := [.lit (.bool true)], args := [d1, d2, d3] }
  | _ => none }
def extentTellsRow : OpenClaim := { program := "ytlkgkmalfdlbfaa", sum := "1a130df158e66824cd8376384fc1980c9d56c565be8a6398608ac1ecffc9e3e5", func := "slipway/slipwaylaw13.ExtentTells", spec := "extentTells", unfollowed := true, recurses := true, apart := false }
def ExtentTellsSaid : Prop := extentTellsRow.holds Try.pinned (OpenSpec.ofChange extentTellsSpec)

/-- ITS FALSE NEIGHBOUR: 'it returns false'. Refute it at one input. -/
def extentTellsWrong : ChangeSpec := { name := "extentTells", fn := fun _ => fun
  | [d1, d2, d3] => { results := [.lit (.bool false)], args := [d1, d2, d3] }
  | _ => none }
def ExtentTellsWrongFalsely : Prop := extentTellsRow.holds Try.pinned (OpenSpec.ofChange extentTellsWrong)

/- THE SECOND FORM. 'bulk': how many values and letters a reading holds, each counted each time it is reached (what is shared counts as often as it is met; a slice's spare places count too). A statement '..UptoSaid' is the law's where the arguments, and the package variables that the reading takes, are together of bulk at most 1048576: NARROWER than '..Said'. Prove '..Said' where nothing that the law and all that it calls make is longer than what came in: it says more and counts as full. Else prove '..UptoSaid'. A law counts once. -/
mutual
def uptoBulk {H : Type} : DataW H → Nat
  | .lit (.string bytes) => bytes.length + 1
  | .lit _ => 1
  | .nil => 1
  | .ptr d => uptoBulk d + 1
  | .slice elems spare => uptoBulkAll elems + uptoBulkAll spare + 1
  | .agg parts => uptoBulkAll parts + 1
  | .iface _ d => uptoBulk d + 1
  | .map entries => uptoBulkEntries entries + 1
  | .held _ => 1
def uptoBulkAll {H : Type} : List (DataW H) → Nat
  | [] => 0
  | d :: r => uptoBulk d + uptoBulkAll r
def uptoBulkEntries {H : Type} : List (Lit × DataW H) → Nat
  | [] => 0
  | x :: r => uptoBulkEntry x + uptoBulkEntries r
def uptoBulkEntry {H : Type} : Lit × DataW H → Nat
  | (.string bytes, d) => bytes.length + uptoBulk d + 1
  | (_, d) => uptoBulk d + 1
 end
def uptoSmall : (H : Type) → List (DataW H) → Bool := fun _ ds => decide (uptoBulkAll ds ≤ 1048576)
def OpenSpec.upto (s : _root_.Go.ChangeSpec) : _root_.Go.OpenSpec := { _root_.Go.OpenSpec.ofChange s with cond := some uptoSmall }

/-- 'slipwaylaw13.ExtentBlocks', WHERE WHAT IT READS IS OF BULK AT MOST 1048576: true; the input reads as it did. -/
def extentBlocksUptoRow : OpenClaim := { program := "ytlkgkmalfdlbfaa", sum := "1a130df158e66824cd8376384fc1980c9d56c565be8a6398608ac1ecffc9e3e5", func := "slipway/slipwaylaw13.ExtentBlocks", spec := "extentBlocks", unfollowed := true, recurses := true, apart := false, narrowed := true }
def ExtentBlocksUptoSaid : Prop := extentBlocksUptoRow.holds Try.pinned (OpenSpec.upto extentBlocksSpec)

/-- 'slipwaylaw13.ExtentMakes', WHERE WHAT IT READS IS OF BULK AT MOST 1048576: true; the input reads as it did. -/
def extentMakesUptoRow : OpenClaim := { program := "ytlkgkmalfdlbfaa", sum := "1a130df158e66824cd8376384fc1980c9d56c565be8a6398608ac1ecffc9e3e5", func := "slipway/slipwaylaw13.ExtentMakes", spec := "extentMakes", unfollowed := true, recurses := true, apart := false, narrowed := true }
def ExtentMakesUptoSaid : Prop := extentMakesUptoRow.holds Try.pinned (OpenSpec.upto extentMakesSpec)

/-- 'slipwaylaw13.ExtentForm', WHERE WHAT IT READS IS OF BULK AT MOST 1048576: true; the input reads as it did. -/
def extentFormUptoRow : OpenClaim := { program := "ytlkgkmalfdlbfaa", sum := "1a130df158e66824cd8376384fc1980c9d56c565be8a6398608ac1ecffc9e3e5", func := "slipway/slipwaylaw13.ExtentForm", spec := "extentForm", unfollowed := true, recurses := true, apart := false, narrowed := true }
def ExtentFormUptoSaid : Prop := extentFormUptoRow.holds Try.pinned (OpenSpec.upto extentFormSpec)

/-- 'slipwaylaw13.ExtentRanges', WHERE WHAT IT READS IS OF BULK AT MOST 1048576: true; the input reads as it did. -/
def extentRangesUptoRow : OpenClaim := { program := "ytlkgkmalfdlbfaa", sum := "1a130df158e66824cd8376384fc1980c9d56c565be8a6398608ac1ecffc9e3e5", func := "slipway/slipwaylaw13.ExtentRanges", spec := "extentRanges", unfollowed := true, recurses := true, apart := false, narrowed := true }
def ExtentRangesUptoSaid : Prop := extentRangesUptoRow.holds Try.pinned (OpenSpec.upto extentRangesSpec)

/-- 'slipwaylaw13.ExtentTells', WHERE WHAT IT READS IS OF BULK AT MOST 1048576: true; the input reads as it did. -/
def extentTellsUptoRow : OpenClaim := { program := "ytlkgkmalfdlbfaa", sum := "1a130df158e66824cd8376384fc1980c9d56c565be8a6398608ac1ecffc9e3e5", func := "slipway/slipwaylaw13.ExtentTells", spec := "extentTells", unfollowed := true, recurses := true, apart := false, narrowed := true }
def ExtentTellsUptoSaid : Prop := extentTellsUptoRow.holds Try.pinned (OpenSpec.upto extentTellsSpec)

end Rows
end Go.Proofs.Ytlkgkmalfdlbfaa
