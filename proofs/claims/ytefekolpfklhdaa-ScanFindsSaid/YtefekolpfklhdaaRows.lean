/-
  No cell of these rows narrows 'for every input' (looked for: loops, veiled, ifaces, maps, wideKeys, modest, calm, conditions, laid).
  DERIVED. THE GIVEN ROWS OF THIS SEAT. 8 by the template 'for every input the law returns true; each argument reads behind the call as it read before'; 0 by the template 'total and deterministic' (their statements: YtefekolpfklhdaaTotals.lean).
  GIVEN WITH THE SEED: the statements are not yours to turn. If you find one false, say at which input.
  Laid BY PROGRAM, IN A SANDBOX (cutbox-rows.mjs): the forced cells as the released guide's own fill.sh prints them over the translation ac7bc59b2ee46b6b… (all of the seat's roots in one cut). By AI agents, Wed Nov 11 2026. No macro, syntax, notation, axiom, sorry.
-/
import Derived.Test.YtefekolpfklhdaaChecked
import GoSem.Claim
import GoSem.ClaimJoined
import GoSem.ClaimMapViews
import Derived.JoinedTies
import Derived.KernelRfl
namespace Go.Proofs.Ytefekolpfklhdaa
/- THE CELL 'sum', in the pinned program and in every row, IS THE sha256 OF THE DUMP (.gsa) THAT YtefekolpfklhdaaProg.lean LOADS. Nothing in Lean hashes anything: it is a label: what it is worth is what the hold of that sum in a sandbox is worth. -/
noncomputable def Try.pinned : Pinned := { name := "ytefekolpfklhdaa", sum := "ac7bc59b2ee46b6b2658eb867449ac50d40a80c37ed5cd820edc48ca0a57e2f0", checked := Try.checked }
namespace Rows
def none {H : Type} : Left H := { results := [], args := [] }

/-- 'slipwaylaw07.ScanNewest': WHATEVER THE INPUT: true; the input reads as it did. -/
def scanNewestSpec : ChangeSpec := { name := "scanNewest", fn := fun _ => fun
  | [d] => { results := [.lit (.bool true)], args := [d] }
  | _ => none }
def scanNewestRow : OpenClaim := { program := "ytefekolpfklhdaa", sum := "ac7bc59b2ee46b6b2658eb867449ac50d40a80c37ed5cd820edc48ca0a57e2f0", func := "slipway/slipwaylaw07.ScanNewest", spec := "scanNewest", unfollowed := true, recurses := true, plainKeys := false, apart := false }
def ScanNewestSaid : Prop := scanNewestRow.holds Try.pinned (OpenSpec.ofChange scanNewestSpec)

/-- ITS FALSE NEIGHBOUR: 'it returns false'. Refute it at one input. -/
def scanNewestWrong : ChangeSpec := { name := "scanNewest", fn := fun _ => fun
  | [d] => { results := [.lit (.bool false)], args := [d] }
  | _ => none }
def ScanNewestWrongFalsely : Prop := scanNewestRow.holds Try.pinned (OpenSpec.ofChange scanNewestWrong)

/-- 'slipwaylaw07.ScanOld': WHATEVER THE INPUT: true; the input reads as it did. -/
def scanOldSpec : ChangeSpec := { name := "scanOld", fn := fun _ => fun
  | [d1, d2] => { results := [.lit (.bool true)], args := [d1, d2] }
  | _ => none }
def scanOldRow : OpenClaim := { program := "ytefekolpfklhdaa", sum := "ac7bc59b2ee46b6b2658eb867449ac50d40a80c37ed5cd820edc48ca0a57e2f0", func := "slipway/slipwaylaw07.ScanOld", spec := "scanOld", unfollowed := true, recurses := true, plainKeys := false, apart := false }
def ScanOldSaid : Prop := scanOldRow.holds Try.pinned (OpenSpec.ofChange scanOldSpec)

/-- ITS FALSE NEIGHBOUR: 'it returns false'. Refute it at one input. -/
def scanOldWrong : ChangeSpec := { name := "scanOld", fn := fun _ => fun
  | [d1, d2] => { results := [.lit (.bool false)], args := [d1, d2] }
  | _ => none }
def ScanOldWrongFalsely : Prop := scanOldRow.holds Try.pinned (OpenSpec.ofChange scanOldWrong)

/-- 'slipwaylaw07.ScanOrder': WHATEVER THE INPUT: true; the input reads as it did. -/
def scanOrderSpec : ChangeSpec := { name := "scanOrder", fn := fun _ => fun
  | [d1, d2] => { results := [.lit (.bool true)], args := [d1, d2] }
  | _ => none }
def scanOrderRow : OpenClaim := { program := "ytefekolpfklhdaa", sum := "ac7bc59b2ee46b6b2658eb867449ac50d40a80c37ed5cd820edc48ca0a57e2f0", func := "slipway/slipwaylaw07.ScanOrder", spec := "scanOrder", unfollowed := true, recurses := true, plainKeys := false, apart := false }
def ScanOrderSaid : Prop := scanOrderRow.holds Try.pinned (OpenSpec.ofChange scanOrderSpec)

/-- ITS FALSE NEIGHBOUR: 'it returns false'. Refute it at one input. -/
def scanOrderWrong : ChangeSpec := { name := "scanOrder", fn := fun _ => fun
  | [d1, d2] => { results := [.lit (.bool false)], args := [d1, d2] }
  | _ => none }
def ScanOrderWrongFalsely : Prop := scanOrderRow.holds Try.pinned (OpenSpec.ofChange scanOrderWrong)

/-- 'slipwaylaw07.ScanNew': WHATEVER THE INPUT: true; the input reads as it did. -/
def scanNewSpec : ChangeSpec := { name := "scanNew", fn := fun _ => fun
  | [d] => { results := [.lit (.bool true)], args := [d] }
  | _ => none }
def scanNewRow : OpenClaim := { program := "ytefekolpfklhdaa", sum := "ac7bc59b2ee46b6b2658eb867449ac50d40a80c37ed5cd820edc48ca0a57e2f0", func := "slipway/slipwaylaw07.ScanNew", spec := "scanNew", unfollowed := true, recurses := true, plainKeys := false, apart := false }
def ScanNewSaid : Prop := scanNewRow.holds Try.pinned (OpenSpec.ofChange scanNewSpec)

/-- ITS FALSE NEIGHBOUR: 'it returns false'. Refute it at one input. -/
def scanNewWrong : ChangeSpec := { name := "scanNew", fn := fun _ => fun
  | [d] => { results := [.lit (.bool false)], args := [d] }
  | _ => none }
def ScanNewWrongFalsely : Prop := scanNewRow.holds Try.pinned (OpenSpec.ofChange scanNewWrong)

/-- 'slipwaylaw07.ScanBack': WHATEVER THE INPUT: true; the input reads as it did. -/
def scanBackSpec : ChangeSpec := { name := "scanBack", fn := fun _ => fun
  | [d1, d2] => { results := [.lit (.bool true)], args := [d1, d2] }
  | _ => none }
def scanBackRow : OpenClaim := { program := "ytefekolpfklhdaa", sum := "ac7bc59b2ee46b6b2658eb867449ac50d40a80c37ed5cd820edc48ca0a57e2f0", func := "slipway/slipwaylaw07.ScanBack", spec := "scanBack", unfollowed := true, recurses := true, plainKeys := false, apart := false }
def ScanBackSaid : Prop := scanBackRow.holds Try.pinned (OpenSpec.ofChange scanBackSpec)

/-- ITS FALSE NEIGHBOUR: 'it returns false'. Refute it at one input. -/
def scanBackWrong : ChangeSpec := { name := "scanBack", fn := fun _ => fun
  | [d1, d2] => { results := [.lit (.bool false)], args := [d1, d2] }
  | _ => none }
def ScanBackWrongFalsely : Prop := scanBackRow.holds Try.pinned (OpenSpec.ofChange scanBackWrong)

/-- 'slipwaylaw07.ScanFinds': WHATEVER THE INPUT: true; the input reads as it did. -/
def scanFindsSpec : ChangeSpec := { name := "scanFinds", fn := fun _ => fun
  | [d1, d2] => { results := [.lit (.bool true)], args := [d1, d2] }
  | _ => none }
def scanFindsRow : OpenClaim := { program := "ytefekolpfklhdaa", sum := "ac7bc59b2ee46b6b2658eb867449ac50d40a80c37ed5cd820edc48ca0a57e2f0", func := "slipway/slipwaylaw07.ScanFinds", spec := "scanFinds", unfollowed := true, recurses := true, plainKeys := false, apart := false }
def ScanFindsSaid : Prop := scanFindsRow.holds Try.pinned (OpenSpec.ofChange scanFindsSpec)

/-- ITS FALSE NEIGHBOUR: 'it returns false'. Refute it at one input. -/
def scanFindsWrong : ChangeSpec := { name := "scanFinds", fn := fun _ => fun
  | [d1, d2] => { results := [.lit (.bool false)], args := [d1, d2] }
  | _ => none }
def ScanFindsWrongFalsely : Prop := scanFindsRow.holds Try.pinned (OpenSpec.ofChange scanFindsWrong)

/-- 'slipwaylaw07.ScanStays': WHATEVER THE INPUT: true; the input reads as it did. -/
def scanStaysSpec : ChangeSpec := { name := "scanStays", fn := fun _ => fun
  | [d] => { results := [.lit (.bool true)], args := [d] }
  | _ => none }
def scanStaysRow : OpenClaim := { program := "ytefekolpfklhdaa", sum := "ac7bc59b2ee46b6b2658eb867449ac50d40a80c37ed5cd820edc48ca0a57e2f0", func := "slipway/slipwaylaw07.ScanStays", spec := "scanStays", unfollowed := true, recurses := true, plainKeys := false, apart := false }
def ScanStaysSaid : Prop := scanStaysRow.holds Try.pinned (OpenSpec.ofChange scanStaysSpec)

/-- ITS FALSE NEIGHBOUR: 'it returns false'. Refute it at one input. -/
def scanStaysWrong : ChangeSpec := { name := "scanStays", fn := fun _ => fun
  | [d] => { results := [.lit (.bool false)], args := [d] }
  | _ => none }
def ScanStaysWrongFalsely : Prop := scanStaysRow.holds Try.pinned (OpenSpec.ofChange scanStaysWrong)

/-- 'slipwaylaw07.ScanTables': WHATEVER THE INPUT: true; the input reads as it did. -/
def scanTablesSpec : ChangeSpec := { name := "scanTables", fn := fun _ => fun
  | [d1, d2] => { results := [.lit (.bool true)], args := [d1, d2] }
  | _ => none }
def scanTablesRow : OpenClaim := { program := "ytefekolpfklhdaa", sum := "ac7bc59b2ee46b6b2658eb867449ac50d40a80c37ed5cd820edc48ca0a57e2f0", func := "slipway/slipwaylaw07.ScanTables", spec := "scanTables", unfollowed := true, recurses := true, plainKeys := false, apart := false }
def ScanTablesSaid : Prop := scanTablesRow.holds Try.pinned (OpenSpec.ofChange scanTablesSpec)

/-- ITS FALSE NEIGHBOUR: 'it returns false'. Refute it at one input. -/
def scanTablesWrong : ChangeSpec := { name := "scanTables", fn := fun _ => fun
  | [d1, d2] => { results := [.lit (.bool false)], args := [d1, d2] }
  | _ => none }
def ScanTablesWrongFalsely : Prop := scanTablesRow.holds Try.pinned (OpenSpec.ofChange scanTablesWrong)

/- THE SECOND FORM. 'bulk': how many values and letters a reading holds, each counted each time it is reached (what is shared counts as often as it is met; a slice's spare places count too). A statement '..UptoSaid' is the law's where the arguments, and the package variables that the reading takes, are together of bulk at most 1048576: NARROWER than '..Said'. Prove '..Said' where nothing that the law and all that it calls make is longer than what came in: it says more and counts as full. Else prove '..UptoSaid'. A law counts once. -/
mutual
def uptoBulk {H : Type} : DataW H → Nat
  | .lit (.string bytes) => bytes.length + 1
  | .lit _ => 1
  | .nil => 1
  | .ptr d => uptoBulk d + 1
  | .slice elems spare => uptoBulkAll elems + uptoBulkAll spare + 1
  | .agg parts => uptoBulkAll parts + 1
  | .iface _ d => uptoBulk d + 1
  | .map entries => uptoBulkEntries entries + 1
  | .held _ => 1
def uptoBulkAll {H : Type} : List (DataW H) → Nat
  | [] => 0
  | d :: r => uptoBulk d + uptoBulkAll r
def uptoBulkEntries {H : Type} : List (Lit × DataW H) → Nat
  | [] => 0
  | x :: r => uptoBulkEntry x + uptoBulkEntries r
def uptoBulkEntry {H : Type} : Lit × DataW H → Nat
  | (.string bytes, d) => bytes.length + uptoBulk d + 1
  | (_, d) => uptoBulk d + 1
 end
def uptoSmall : (H : Type) → List (DataW H) → Bool := fun _ ds => decide (uptoBulkAll ds ≤ 1048576)
def OpenSpec.upto (s : _root_.Go.ChangeSpec) : _root_.Go.OpenSpec := { _root_.Go.OpenSpec.ofChange s with cond := some uptoSmall }

/-- 'slipwaylaw07.ScanNewest', WHERE WHAT IT READS IS OF BULK AT MOST 1048576: true; the input reads as it did. -/
def scanNewestUptoRow : OpenClaim := { program := "ytefekolpfklhdaa", sum := "ac7bc59b2ee46b6b2658eb867449ac50d40a80c37ed5cd820edc48ca0a57e2f0", func := "slipway/slipwaylaw07.ScanNewest", spec := "scanNewest", unfollowed := true, recurses := true, plainKeys := false, apart := false, narrowed := true }
def ScanNewestUptoSaid : Prop := scanNewestUptoRow.holds Try.pinned (OpenSpec.upto scanNewestSpec)

/-- 'slipwaylaw07.ScanOld', WHERE WHAT IT READS IS OF BULK AT MOST 1048576: true; the input reads as it did. -/
def scanOldUptoRow : OpenClaim := { program := "ytefekolpfklhdaa", sum := "ac7bc59b2ee46b6b2658eb867449ac50d40a80c37ed5cd820edc48ca0a57e2f0", func := "slipway/slipwaylaw07.ScanOld", spec := "scanOld", unfollowed := true, recurses := true, plainKeys := false, apart := false, narrowed := true }
def ScanOldUptoSaid : Prop := scanOldUptoRow.holds Try.pinned (OpenSpec.upto scanOldSpec)

/-- 'slipwaylaw07.ScanOrder', WHERE WHAT IT READS IS OF BULK AT MOST 1048576: true; the input reads as it did. -/
def scanOrderUptoRow : OpenClaim := { program := "ytefekolpfklhdaa", sum := "ac7bc59b2ee46b6b2658eb867449ac50d40a80c37ed5cd820edc48ca0a57e2f0", func := "slipway/slipwaylaw07.ScanOrder", spec := "scanOrder", unfollowed := true, recurses := true, plainKeys := false, apart := false, narrowed := true }
def ScanOrderUptoSaid : Prop := scanOrderUptoRow.holds Try.pinned (OpenSpec.upto scanOrderSpec)

/-- 'slipwaylaw07.ScanNew', WHERE WHAT IT READS IS OF BULK AT MOST 1048576: true; the input reads as it did. -/
def scanNewUptoRow : OpenClaim := { program := "ytefekolpfklhdaa", sum := "ac7bc59b2ee46b6b2658eb867449ac50d40a80c37ed5cd820edc48ca0a57e2f0", func := "slipway/slipwaylaw07.ScanNew", spec := "scanNew", unfollowed := true, recurses := true, plainKeys := false, apart := false, narrowed := true }
def ScanNewUptoSaid : Prop := scanNewUptoRow.holds Try.pinned (OpenSpec.upto scanNewSpec)

/-- 'slipwaylaw07.ScanBack', WHERE WHAT IT READS IS OF BULK AT MOST 1048576: true; the input reads as it did. -/
def scanBackUptoRow : OpenClaim := { program := "ytefekolpfklhdaa", sum := "ac7bc59b2ee46b6b2658eb867449ac50d40a80c37ed5cd820edc48ca0a57e2f0", func := "slipway/slipwaylaw07.ScanBack", spec := "scanBack", unfollowed := true, recurses := true, plainKeys := false, apart := false, narrowed := true }
def ScanBackUptoSaid : Prop := scanBackUptoRow.holds Try.pinned (OpenSpec.upto scanBackSpec)

/-- 'slipwaylaw07.ScanFinds', WHERE WHAT IT READS IS OF BULK AT MOST 1048576: true; the input reads as it did. -/
def scanFindsUptoRow : OpenClaim := { program := "ytefekolpfklhdaa", sum := "ac7bc59b2ee46b6b2658eb867449ac50d40a80c37ed5cd820edc48ca0a57e2f0", func := "slipway/slipwaylaw07.ScanFinds", spec := "scanFinds", unfollowed := true, recurses := true, plainKeys := false, apart := false, narrowed := true }
def ScanFindsUptoSaid : Prop := scanFindsUptoRow.holds Try.pinned (OpenSpec.upto scanFindsSpec)

/-- 'slipwaylaw07.ScanStays', WHERE WHAT IT READS IS OF BULK AT MOST 1048576: true; the input reads as it did. -/
def scanStaysUptoRow : OpenClaim := { program := "ytefekolpfklhdaa", sum := "ac7bc59b2ee46b6b2658eb867449ac50d40a80c37ed5cd820edc48ca0a57e2f0", func := "slipway/slipwaylaw07.ScanStays", spec := "scanStays", unfollowed := true, recurses := true, plainKeys := false, apart := false, narrowed := true }
def ScanStaysUptoSaid : Prop := scanStaysUptoRow.holds Try.pinned (OpenSpec.upto scanStaysSpec)

/-- 'slipwaylaw07.ScanTables', WHERE WHAT IT READS IS OF BULK AT MOST 1048576: true; the input reads as it did. -/
def scanTablesUptoRow : OpenClaim := { program := "ytefekolpfklhdaa", sum := "ac7bc59b2ee46b6b2658eb867449ac50d40a80c37ed5cd820edc48ca0a57e2f0", func := "slipway/slipwaylaw07.ScanTables", spec := "scanTables", unfollowed := true, recurses := true, plainKeys := false, apart := false, narrowed := true }
def ScanTablesUptoSaid : Prop := scanTablesUptoRow.holds Try.pinned (OpenSpec.upto scanTablesSpec)

end Rows
end Go.Proofs.Ytefekolpfklhdaa
