/- The law ReplayFinds of the seat: for every input the call returns true and each argument reads behind it as it read before; no condition. -/
import Derived.Test.YtjleeabhpfmhaaaRows
import Derived.Test.YtjleeabhpfmhaaaCa
import Derived.Test.YtjleeabhpfmhaaaCb
import Derived.Test.YtjleeabhpfmhaaaAmd
import Derived.WalkKit
import Derived.ProofKit
import Derived.OpenShut
import Derived.ShutString
import Derived.ChangeOld
import Derived.Below
import Derived.SizedLaws
set_option maxRecDepth 2000
set_option linter.unusedVariables false
set_option linter.unusedSimpArgs false
namespace Go.Proofs.Ytjleeabhpfmhaaa.replayFinds
open Go.ChangeShapes Go.WideShapes Go.ChangeAt Go.RowKit
set_option linter.unusedVariables false
theorem own : ownKnob Try.prog.godebug = none := by kernel_rfl
theorem laidOut : laidOutB Try.prog = true := by kernel_rfl
theorem psOk : AM.psOk Try.prog [35] [(true, (.pair (.int .i64) (.pair (.int .i64) (.pair (.int .i64) (.pair (.int .i64) (.pair (.sl (.pair (.int .i64) (.pair (.sl (.pair (.int .i64) (.sl (.int .u8)))) (.sl (.int .i64))))) (.pair (.sl (.int .u8)) .bool)))))))] = true := by kernel_rfl
theorem readable : ([35].all fun t => Program.readableRec Try.prog t && decide (t < Try.prog.types.size)) = true := by kernel_rfl
theorem roomyAll : ([35].all fun t => AM.roomy Try.prog 30 t) = true := by kernel_rfl
set_option maxRecDepth 100000 in
theorem lifted (os : Os) (started : os.Started) (H : Type) (enc : TypeId × Value → H) :
    ReturnsInHanded {} Try.checked os 4 .any (Rows.replayFindsSpec.pre6 enc Try.prog Try.f4 Rows.replayFindsRow.domain false) (Rows.replayFindsSpec.post enc Try.prog Try.f4 false true false false) := by
  refine returnsInHanded_of_change_sized (C := Try.checked) own started (by kernel_rfl) Try.func4
    (ChangeSpec.witness6 (enc := enc) (C := Try.checked) false ⟨#[], #[.agg #[.int .i64 0, .int .i64 0, .int .i64 0, .int .i64 0, .slice none 0 0, .slice none 0 0, .bool false]], []⟩ 8 (by kernel_rfl) (by kernel_rfl) (by kernel_rfl) (by kernel_rfl)) ?_
  intro W base args ds gs before hval0 hW hcnd hsz0 _
  have hW' := hW
  obtain ⟨p, q, hA0, hV, rfl, hfz, hnd⟩ := hW
  have hA : DataW.TrodAll enc Try.prog W 0 (fun _ => true) true Try.f4.params.toList args.toList ds p := hA0
  have hval : ∀ (j : Nat) t v, Try.f4.params[j]? = some t → args[j]? = some v → Value.okWide Try.prog W .any base t v := hval0
  rw [Try.params4] at hA hval
  have hgs := (trodVars_none hV).1
  have hwt : (DataW.weightsEach Try.prog [35] ds).all (· ≤ reachBytes) = true := by
    have h := hsz0
    rw [hgs, List.append_nil] at h
    exact h
  have hcall := AM.law_callS c4 (ReplayFinds_pure) psOk roomyAll (fun j t v e1 e2 => hval j t v (by simpa using e1) (by simpa using e2)) hA hwt
  obtain ⟨v0, vs0, d0, ds0, p0, q0, hargs, rfl, rfl, h0, r0⟩ := trodAll_cons (show DataW.TrodAll enc Try.prog W 0 (fun _ => true) true [35] args.toList ds p from hA)
  obtain ⟨rfl, rfl, rfl⟩ := trodAll_nil r0
  obtain rfl : args = #[v0] := by cases args; simp_all
  obtain ⟨rfl, rfl⟩ := trodVars_none hV
  refine hcall.mono fun e W' ⟨he, bel⟩ => ?_
  subst he
  have stay := AM.args_stay laidOut bel readable hA
  exact ⟨_, rfl, _, _, _, [], _, [], hW', trodAll_mk1 (shut_bool Try.underlying4 _), stay, rfl, bel.frame _, fun h => by cases h⟩
theorem over : Rows.replayFindsRow.holds Try.pinned (OpenSpec.ofChange Rows.replayFindsSpec) :=
  OpenClaim.holds_of_wide 4 Try.f4 rfl rfl rfl rfl rfl rfl rfl ⟨rfl, rfl, rfl, rfl, rfl⟩ rfl rfl rfl rfl rfl (by kernel_rfl) Try.func4 (by kernel_rfl)
    (of_decide_eq_true (by kernel_rfl)) (by unfold Func.isWrapper; first | (rw [if_pos (by decide +kernel)]; kernel_rfl) | (rw [if_neg (by decide +kernel)]; exact ⟨rfl, rfl⟩))
    (fun os started H enc _ => lifted os started H enc)
theorem proved : Rows.ReplayFindsSaid := over
end Go.Proofs.Ytjleeabhpfmhaaa.replayFinds
namespace Go.Proofs.Ytjleeabhpfmhaaa
/-- The row, under a short name, for the claim. -/
theorem replayFinds_holds : Rows.ReplayFindsSaid := replayFinds.proved
#print axioms replayFinds_holds
end Go.Proofs.Ytjleeabhpfmhaaa
