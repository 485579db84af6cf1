/- The law ReplayRedos of the seat: for every input the call returns true and each argument reads behind it as it read before; no condition. -/
import Derived.Test.YtjleeabhpfmhaaaRows
import Derived.Test.YtjleeabhpfmhaaaCa
import Derived.Test.YtjleeabhpfmhaaaAmd
import Derived.Test.YtjleeabhpfmhaaaAme
import Derived.WalkKit
import Derived.ProofKit
import Derived.OpenShut
import Derived.ShutString
import Derived.ChangeOld
import Derived.Below
import Derived.SizedLaws
set_option maxRecDepth 2000
set_option linter.unusedVariables false
set_option linter.unusedSimpArgs false
namespace Go.Proofs.Ytjleeabhpfmhaaa.replayRedos
open Go.ChangeShapes Go.WideShapes Go.ChangeAt Go.RowKit
set_option linter.unusedVariables false
theorem own : ownKnob Try.prog.godebug = none := by kernel_rfl
theorem laidOut : laidOutB Try.prog = true := by kernel_rfl
theorem psOk : AM.psOk Try.prog [24] [(false, (.sl (.pair (.int .i64) (.pair (.sl (.pair (.int .i64) (.sl (.int .u8)))) (.sl (.int .i64))))))] = true := by kernel_rfl
theorem readable : ([24].all fun t => Program.readableRec Try.prog t && decide (t < Try.prog.types.size)) = true := by kernel_rfl
theorem roomyAll : ([24].all fun t => AM.roomy Try.prog 30 t) = true := by kernel_rfl
set_option maxRecDepth 100000 in
theorem lifted (os : Os) (started : os.Started) (H : Type) (enc : TypeId × Value → H) :
    ReturnsInHanded {} Try.checked os 5 .any (Rows.replayRedosSpec.pre6 enc Try.prog Try.f5 Rows.replayRedosRow.domain false) (Rows.replayRedosSpec.post enc Try.prog Try.f5 false true false false) := by
  refine returnsInHanded_of_change_sized (C := Try.checked) own started (by kernel_rfl) Try.func5
    (ChangeSpec.witness6 (enc := enc) (C := Try.checked) false ⟨#[], #[.slice none 0 0], []⟩ 8 (by kernel_rfl) (by kernel_rfl) (by kernel_rfl) (by kernel_rfl)) ?_
  intro W base args ds gs before hval0 hW hcnd hsz0 _
  have hW' := hW
  obtain ⟨p, q, hA0, hV, rfl, hfz, hnd⟩ := hW
  have hA : DataW.TrodAll enc Try.prog W 0 (fun _ => true) true Try.f5.params.toList args.toList ds p := hA0
  have hval : ∀ (j : Nat) t v, Try.f5.params[j]? = some t → args[j]? = some v → Value.okWide Try.prog W .any base t v := hval0
  rw [Try.params5] at hA hval
  have hgs := (trodVars_none hV).1
  have hwt : (DataW.weightsEach Try.prog [24] ds).all (· ≤ reachBytes) = true := by
    have h := hsz0
    rw [hgs, List.append_nil] at h
    exact h
  have hcall := AM.law_callS c5 (ReplayRedos_pure) psOk roomyAll (fun j t v e1 e2 => hval j t v (by simpa using e1) (by simpa using e2)) hA hwt
  obtain ⟨v0, vs0, d0, ds0, p0, q0, hargs, rfl, rfl, h0, r0⟩ := trodAll_cons (show DataW.TrodAll enc Try.prog W 0 (fun _ => true) true [24] args.toList ds p from hA)
  obtain ⟨rfl, rfl, rfl⟩ := trodAll_nil r0
  obtain rfl : args = #[v0] := by cases args; simp_all
  obtain ⟨rfl, rfl⟩ := trodVars_none hV
  refine hcall.mono fun e W' ⟨he, bel⟩ => ?_
  subst he
  have stay := AM.args_stay laidOut bel readable hA
  exact ⟨_, rfl, _, _, _, [], _, [], hW', trodAll_mk1 (shut_bool Try.underlying4 _), stay, rfl, bel.frame _, fun h => by cases h⟩
theorem over : Rows.replayRedosRow.holds Try.pinned (OpenSpec.ofChange Rows.replayRedosSpec) :=
  OpenClaim.holds_of_wide 5 Try.f5 rfl rfl rfl rfl rfl rfl rfl ⟨rfl, rfl, rfl, rfl, rfl⟩ rfl rfl rfl rfl rfl (by kernel_rfl) Try.func5 (by kernel_rfl)
    (of_decide_eq_true (by kernel_rfl)) (by unfold Func.isWrapper; first | (rw [if_pos (by decide +kernel)]; kernel_rfl) | (rw [if_neg (by decide +kernel)]; exact ⟨rfl, rfl⟩))
    (fun os started H enc _ => lifted os started H enc)
theorem proved : Rows.ReplayRedosSaid := over
end Go.Proofs.Ytjleeabhpfmhaaa.replayRedos
namespace Go.Proofs.Ytjleeabhpfmhaaa
/-- The row, under a short name, for the claim. -/
theorem replayRedos_holds : Rows.ReplayRedosSaid := replayRedos.proved
#print axioms replayRedos_holds
end Go.Proofs.Ytjleeabhpfmhaaa
