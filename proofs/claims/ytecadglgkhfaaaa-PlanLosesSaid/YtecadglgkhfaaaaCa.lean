/- What the functions of this claim compute, each shown by the kernel, and what that comes to, with no program in sight. No condition. -/
import Derived.Test.YtecadglgkhfaaaaProg
import Derived.Test.YtecadglgkhfaaaaAmd
import Derived.KernelRfl
import Derived.Shelf.Sort.Plain
import Derived.Shelf.Slices.In.SortNone
import Derived.Shelf.SlicesE.DeleteFunc
import Derived.Shelf.SlicesE.Index
import Derived.WalkKit
import Derived.ProofKit
set_option maxRecDepth 2000
set_option linter.unusedVariables false
set_option linter.unusedSimpArgs false
section
namespace Go.Proofs.Ytecadglgkhfaaaa
open Go Go.Proofs.AM
abbrev kT : K := (.pair (.int .i64) (.pair (.int .i64) (.pair (.int .i64) (.pair (.sl (.int .i64)) (.pair (.sl .bool) (.pair (.pair (.int .i64) (.pair (.int .i64) (.int .i64))) (.sl (.pair (.int .i64) (.sl (.int .i64))))))))))
abbrev tT : Type := (Int × (Int × (Int × ((List Int) × ((List Bool) × ((Int × (Int × Int)) × (List (Int × (List Int)))))))))
abbrev eT : Type := (Int × (Int × (Int × ((List Int) × ((List Bool) × (Int × (Int × (Int × (List (Int × (List Int)))))))))))
end Go.Proofs.Ytecadglgkhfaaaa
end
section
namespace Go.Proofs.Ytecadglgkhfaaaa
theorem Try.follows : Try.prog.follows .mixedOrders = true := by kernel_rfl
end Go.Proofs.Ytecadglgkhfaaaa
end

section
open Go Go.Proofs.AM
namespace Go.Proofs.Ytecadglgkhfaaaa

noncomputable def m40 (x : Int × Int × Int × Unit) : Option (Bool × Unit) :=
 bif (decide (x.1 ≥ x.2.1)) then
 (some ((decide (x.1 ≤ x.2.2.1)), ()))
 else
 (some (false, ()))

noncomputable def r40 : PDen [(false, (.int .i64)), (false, (.int .i64)), (false, (.int .i64))] → Option (PDen [(false, .bool)]) := fun x => afun Try.prog ({ envOf [] [] [] [] with deep := [79] }) ⟨[], []⟩ Try.f40 [(false, (.int .i64)), (false, (.int .i64)), (false, (.int .i64))] [(false, .bool)] false x
theorem r40_eq : r40 = m40 := by kernel_rfl

theorem c40 : CS.Sound Try.prog 40 ⟨[(false, (.int .i64)), (false, (.int .i64)), (false, (.int .i64))], [(false, .bool)], false, m40⟩ := afun_sound' (Env.Sound.deepen (envOf_sound (CSs.nil) (HDs.nil) (IDs.nil)) [79]) rfl Try.follows (f := 40) (fn := Try.f40) Try.func40 (by kernel_rfl) (by kernel_rfl) r40_eq
end Go.Proofs.Ytecadglgkhfaaaa
end

section
open Go Go.Proofs.AM
namespace Go.Proofs.Ytecadglgkhfaaaa

noncomputable def m96 (x : Int × Int × Unit) : Option (Int × (Int × Unit)) :=
 some ((Go.IntKind.wrap .u32 (ishr .u64 (Go.IntKind.wrap .u64 ((Go.IntKind.wrap .u64 x.1) * (Go.IntKind.wrap .u64 x.2.1))) (32 : Int))), ((Go.IntKind.wrap .u32 (Go.IntKind.wrap .u64 ((Go.IntKind.wrap .u64 x.1) * (Go.IntKind.wrap .u64 x.2.1)))), ()))

noncomputable def r96 : PDen [(false, (.int .u32)), (false, (.int .u32))] → Option (PDen [(false, (.int .u32)), (false, (.int .u32))]) := fun x => afun Try.prog ({ envOf [] [] [] [] with deep := [79] }) ⟨[], []⟩ Try.f96 [(false, (.int .u32)), (false, (.int .u32))] [(false, (.int .u32)), (false, (.int .u32))] false x
theorem r96_eq : r96 = m96 := by kernel_rfl

theorem c96 : CS.Sound Try.prog 96 ⟨[(false, (.int .u32)), (false, (.int .u32))], [(false, (.int .u32)), (false, (.int .u32))], false, m96⟩ := afun_sound' (Env.Sound.deepen (envOf_sound (CSs.nil) (HDs.nil) (IDs.nil)) [79]) rfl Try.follows (f := 96) (fn := Try.f96) Try.func96 (by kernel_rfl) (by kernel_rfl) r96_eq
end Go.Proofs.Ytecadglgkhfaaaa
end

section
open Go Go.Proofs.AM
namespace Go.Proofs.Ytecadglgkhfaaaa

noncomputable def m97 (x : Int × Int × Unit) : Option (Int × (Int × Unit)) :=
 some ((Go.IntKind.wrap .u64 ((Go.IntKind.wrap .u64 ((Go.IntKind.wrap .u64 ((ishr .u64 x.1 (32 : Int)) * (ishr .u64 x.2.1 (32 : Int)))) + (ishr .u64 (Go.IntKind.wrap .u64 ((Go.IntKind.wrap .u64 ((ishr .u64 x.1 (32 : Int)) * (iand .u64 x.2.1 (4294967295 : Int)))) + (ishr .u64 (Go.IntKind.wrap .u64 ((iand .u64 x.1 (4294967295 : Int)) * (iand .u64 x.2.1 (4294967295 : Int)))) (32 : Int)))) (32 : Int)))) + (ishr .u64 (Go.IntKind.wrap .u64 ((iand .u64 (Go.IntKind.wrap .u64 ((Go.IntKind.wrap .u64 ((ishr .u64 x.1 (32 : Int)) * (iand .u64 x.2.1 (4294967295 : Int)))) + (ishr .u64 (Go.IntKind.wrap .u64 ((iand .u64 x.1 (4294967295 : Int)) * (iand .u64 x.2.1 (4294967295 : Int)))) (32 : Int)))) (4294967295 : Int)) + (Go.IntKind.wrap .u64 ((iand .u64 x.1 (4294967295 : Int)) * (ishr .u64 x.2.1 (32 : Int)))))) (32 : Int)))), ((Go.IntKind.wrap .u64 (x.1 * x.2.1)), ()))

noncomputable def r97 : PDen [(false, (.int .u64)), (false, (.int .u64))] → Option (PDen [(false, (.int .u64)), (false, (.int .u64))]) := fun x => afun Try.prog ({ envOf [] [] [] [] with deep := [79] }) ⟨[], []⟩ Try.f97 [(false, (.int .u64)), (false, (.int .u64))] [(false, (.int .u64)), (false, (.int .u64))] false x
theorem r97_eq : r97 = m97 := by kernel_rfl

theorem c97 : CS.Sound Try.prog 97 ⟨[(false, (.int .u64)), (false, (.int .u64))], [(false, (.int .u64)), (false, (.int .u64))], false, m97⟩ := afun_sound' (Env.Sound.deepen (envOf_sound (CSs.nil) (HDs.nil) (IDs.nil)) [79]) rfl Try.follows (f := 97) (fn := Try.f97) Try.func97 (by kernel_rfl) (by kernel_rfl) r97_eq
end Go.Proofs.Ytecadglgkhfaaaa
end

section
open Go Go.Proofs.AM
namespace Go.Proofs.Ytecadglgkhfaaaa

noncomputable def m90 (x : Int × Int × Unit) : Option (Int × (Int × Unit)) :=
 Option.bind (m97 (x.1, (x.2.1, ()))) fun (y1 : (Int × (Int × Unit))) =>
 some (y1.1, (y1.2.1, ()))

noncomputable def r90 : PDen [(false, (.int .u64)), (false, (.int .u64))] → Option (PDen [(false, (.int .u64)), (false, (.int .u64))]) := fun x => afun Try.prog ({ envOf [(96, ⟨[(false, (.int .u32)), (false, (.int .u32))], [(false, (.int .u32)), (false, (.int .u32))], false, m96⟩), (97, ⟨[(false, (.int .u64)), (false, (.int .u64))], [(false, (.int .u64)), (false, (.int .u64))], false, m97⟩)] [] [] [] with deep := [79] }) ⟨[], []⟩ Try.f90 [(false, (.int .u64)), (false, (.int .u64))] [(false, (.int .u64)), (false, (.int .u64))] false x
theorem r90_eq : r90 = m90 := by kernel_rfl

theorem c90 : CS.Sound Try.prog 90 ⟨[(false, (.int .u64)), (false, (.int .u64))], [(false, (.int .u64)), (false, (.int .u64))], false, m90⟩ := afun_sound' (Env.Sound.deepen (envOf_sound (CSs.cons c96 (CSs.cons c97 (CSs.nil))) (HDs.nil) (IDs.nil)) [79]) rfl Try.follows (f := 90) (fn := Try.f90) Try.func90 (by kernel_rfl) (by kernel_rfl) r90_eq
end Go.Proofs.Ytecadglgkhfaaaa
end

section
open Go Go.Proofs.AM
namespace Go.Proofs.Ytecadglgkhfaaaa

noncomputable def m64 (x : (List Int) × Int × Unit) : Option (List Int) :=
 bif (decide (x.2.1 < (0 : Int))) then
 (none)
 else
 (Option.bind (m90 ((Go.IntKind.wrap .u64 (((List.length x.1) : Nat) : Int)), ((Go.IntKind.wrap .u64 x.2.1), ()))) fun (y1 : (Int × (Int × Unit))) =>
 bif (decide (y1.1 > (0 : Int))) then
 (none)
 else
 (bif (decide (y1.2.1 > (9223372036854775807 : Int))) then
 (none)
 else
 (gd ((0 : Int) ≤ (Go.IntKind.wrap .i64 y1.2.1)) (gd ((Go.IntKind.wrap .i64 y1.2.1) ≤ (Go.IntKind.wrap .i64 y1.2.1)) (gd (((Go.IntKind.wrap .i64 y1.2.1) * (8 : Int)) ≤ (140737488355328 : Int)) (Option.bind (loopM (X := (Int × (List Int))) (E := (List Int)) (fun (x2 : (Int × (List Int))) =>
 bif (decide (x2.1 < (((List.length x2.2) : Nat) : Int))) then
 (gd ((0 : Int) ≤ x2.1) (gd (x2.1 ≤ (((List.length x2.2) : Nat) : Int)) (gd ((((List.length x2.2) : Nat) : Int) ≤ (((List.length x2.2) : Nat) : Int)) (gd ((0 : Int) ≤ x2.1) (gd (x2.1 ≤ (((List.length x2.2) : Nat) : Int)) (some (Sum.inl ((Go.IntKind.wrap .i64 (x2.1 + (((min (List.length (List.take ((Int.toNat x2.1) - (Int.toNat (0 : Int))) (List.drop (Int.toNat (0 : Int)) x2.2))) ((Int.toNat (((List.length x2.2) : Nat) : Int)) - (Int.toNat x2.1))) : Nat) : Int))), (((List.take (Int.toNat x2.1) x2.2) ++ (List.take ((Int.toNat (((List.length x2.2) : Nat) : Int)) - (Int.toNat x2.1)) (List.take ((Int.toNat x2.1) - (Int.toNat (0 : Int))) (List.drop (Int.toNat (0 : Int)) x2.2)))) ++ (List.drop ((Int.toNat x2.1) + (min (List.length (List.take ((Int.toNat x2.1) - (Int.toNat (0 : Int))) (List.drop (Int.toNat (0 : Int)) x2.2))) ((Int.toNat (((List.length x2.2) : Nat) : Int)) - (Int.toNat x2.1)))) x2.2))))))))))
 else
 (some (Sum.inr x2.2))) ((((min (List.length x.1) (List.length (List.replicate (Int.toNat (Go.IntKind.wrap .i64 y1.2.1)) (0 : Int)))) : Nat) : Int), ((List.take (List.length (List.replicate (Int.toNat (Go.IntKind.wrap .i64 y1.2.1)) (0 : Int))) x.1) ++ (List.drop (List.length x.1) (List.replicate (Int.toNat (Go.IntKind.wrap .i64 y1.2.1)) (0 : Int)))))) fun (y2 : (List Int)) =>
 some y2))))))

noncomputable def r64 : PDen [(false, (.sl (.int .i64))), (false, (.int .i64))] → Option (List (K.den (.int .i64))) := fun x => afunO Try.prog ({ envOf [(90, ⟨[(false, (.int .u64)), (false, (.int .u64))], [(false, (.int .u64)), (false, (.int .u64))], false, m90⟩)] [] [] [] with deep := [79] }) ⟨[(0, ⟨[.slot 8 (.d false (.int .i64) true), .vec 0 3 (.int .i64) true], [], [(some 0, [.vec 0 3 (.int .i64) true])], none⟩)], []⟩ Try.f64 [(false, (.sl (.int .i64))), (false, (.int .i64))] 3 (.int .i64) false x
theorem r64_eq : r64 = m64 := by kernel_rfl

theorem c64 : OS.Sound Try.prog 64 ⟨[(false, (.sl (.int .i64))), (false, (.int .i64))], 3, (.int .i64), false, m64⟩ := afunO_sound' (Env.Sound.deepen (envOf_sound (CSs.cons c90 (CSs.nil)) (HDs.nil) (IDs.nil)) [79]) rfl Try.follows (f := 64) (fn := Try.f64) Try.func64 (by kernel_rfl) (by kernel_rfl) r64_eq
end Go.Proofs.Ytecadglgkhfaaaa
end

section
open Go Go.Proofs.AM
namespace Go.Proofs.Ytecadglgkhfaaaa

noncomputable def m30 (x : Int × Int × Int × Unit) : Option (tT × (Int × Unit)) :=
 bif (decide (x.1 < (4 : Int))) then
 (some (((0 : Int), ((0 : Int), ((0 : Int), (([] : List Int), (([] : List Bool), (((0 : Int), ((0 : Int), (0 : Int))), ([] : List (Int × (List Int))))))))), ((1 : Int), ())))
 else
 (bif (decide (x.1 > (32 : Int))) then
 (some (((0 : Int), ((0 : Int), ((0 : Int), (([] : List Int), (([] : List Bool), (((0 : Int), ((0 : Int), (0 : Int))), ([] : List (Int × (List Int))))))))), ((1 : Int), ())))
 else
 (bif (decide (x.2.1 < (1 : Int))) then
 (some (((0 : Int), ((0 : Int), ((0 : Int), (([] : List Int), (([] : List Bool), (((0 : Int), ((0 : Int), (0 : Int))), ([] : List (Int × (List Int))))))))), ((1 : Int), ())))
 else
 (bif (decide (x.2.1 > (256 : Int))) then
 (some (((0 : Int), ((0 : Int), ((0 : Int), (([] : List Int), (([] : List Bool), (((0 : Int), ((0 : Int), (0 : Int))), ([] : List (Int × (List Int))))))))), ((1 : Int), ())))
 else
 (bif (decide (x.2.2.1 < (1 : Int))) then
 (some (((0 : Int), ((0 : Int), ((0 : Int), (([] : List Int), (([] : List Bool), (((0 : Int), ((0 : Int), (0 : Int))), ([] : List (Int × (List Int))))))))), ((1 : Int), ())))
 else
 (bif (decide (x.2.2.1 > (8 : Int))) then
 (some (((0 : Int), ((0 : Int), ((0 : Int), (([] : List Int), (([] : List Bool), (((0 : Int), ((0 : Int), (0 : Int))), ([] : List (Int × (List Int))))))))), ((1 : Int), ())))
 else
 (Option.bind (m64 (((-1 : Int) :: ([] : List Int)), (x.2.1, ()))) fun (y1 : (List Int)) =>
 gd ((0 : Int) ≤ (Go.IntKind.wrap .i64 (x.2.1 * x.1))) (gd ((Go.IntKind.wrap .i64 (x.2.1 * x.1)) ≤ (Go.IntKind.wrap .i64 (x.2.1 * x.1))) (gd (((Go.IntKind.wrap .i64 (x.2.1 * x.1)) * (1 : Int)) ≤ (140737488355328 : Int)) (some ((x.1, (x.2.1, (x.2.2.1, (y1, ((List.replicate (Int.toNat (Go.IntKind.wrap .i64 (x.2.1 * x.1))) false), (((-1 : Int), ((0 : Int), (0 : Int))), ([] : List (Int × (List Int))))))))), ((0 : Int), ())))))))))))

noncomputable def r30 : PDen [(false, (.int .i64)), (false, (.int .i64)), (false, (.int .i64))] → Option (PDen [(true, kT), (false, (.int .i64))]) := fun x => afunM Try.prog ({ envOf [] [(64, OS.hd ⟨[(false, (.sl (.int .i64))), (false, (.int .i64))], 3, (.int .i64), false, m64⟩)] [] [] with deep := [79] }) ⟨[], []⟩ Try.f30 [(false, (.int .i64)), (false, (.int .i64)), (false, (.int .i64))] [(true, kT), (false, (.int .i64))] [(.p .d (.p .d (.p .d (.p (.s 3) (.p (.s 4) .d))))), .d] false x
theorem r30_eq : r30 = m30 := by kernel_rfl

theorem c30 : OM.Sound Try.prog 30 ⟨[(false, (.int .i64)), (false, (.int .i64)), (false, (.int .i64))], [(true, kT), (false, (.int .i64))], [(.p .d (.p .d (.p .d (.p (.s 3) (.p (.s 4) .d))))), .d], false, m30⟩ := afunM_sound' (Env.Sound.deepen (envOf_sound (CSs.nil) (HDs.cons (OS.Sound.hd c64) (HDs.nil)) (IDs.nil)) [79]) rfl Try.follows (f := 30) (fn := Try.f30) Try.func30 (by kernel_rfl) (by kernel_rfl) r30_eq
end Go.Proofs.Ytecadglgkhfaaaa
end

section
open Go Go.Proofs.AM
namespace Go.Proofs.Ytecadglgkhfaaaa

noncomputable def m59 (x : tT × Unit) : Option (Bool × Unit) :=
 Option.bind (m30 (x.1.1, (x.1.2.1, (x.1.2.2.1, ())))) fun (y1 : (tT × (Int × Unit))) =>
 bif (!(decide (y1.2.1 = (0 : Int)))) then
 (some (false, ()))
 else
 (bif (!(decide ((((List.length x.1.2.2.2.1) : Nat) : Int) = x.1.2.1))) then
 (some (false, ()))
 else
 (bif (!(decide ((((List.length x.1.2.2.2.2.1) : Nat) : Int) = (Go.IntKind.wrap .i64 (x.1.2.1 * x.1.1))))) then
 (some (false, ()))
 else
 (bif (decide ((((List.length x.1.2.2.2.2.2.2) : Nat) : Int) > x.1.2.2.1)) then
 (some (false, ()))
 else
 (Option.bind (loopM (X := Int) (E := (Unit ⊕ Bool)) (fun (x2 : Int) =>
 bif (decide (x2 < (((List.length x.1.2.2.2.2.2.2) : Nat) : Int))) then
 (gd ((0 : Int) ≤ x2) (gd (x2 < (((List.length x.1.2.2.2.2.2.2) : Nat) : Int)) (bif (decide ((((List.length (List.getD x.1.2.2.2.2.2.2 (Int.toNat x2) ((0 : Int), ([] : List Int))).2) : Nat) : Int) > x.1.1)) then
 (some (Sum.inr (Sum.inr false)))
 else
 (bif (decide (x2 < (Go.IntKind.wrap .i64 ((((List.length x.1.2.2.2.2.2.2) : Nat) : Int) - (1 : Int))))) then
 (bif (decide ((((List.length (List.getD x.1.2.2.2.2.2.2 (Int.toNat x2) ((0 : Int), ([] : List Int))).2) : Nat) : Int) < x.1.1)) then
 (some (Sum.inr (Sum.inr false)))
 else
 (Option.bind (m40 ((List.getD x.1.2.2.2.2.2.2 (Int.toNat x2) ((0 : Int), ([] : List Int))).1, ((0 : Int), ((255 : Int), ())))) fun (y3 : (Bool × Unit)) =>
 bif (!y3.1) then
 (some (Sum.inr (Sum.inr false)))
 else
 (Option.bind (loopM (X := Int) (E := (Unit ⊕ Int)) (fun (x4 : Int) =>
 bif (decide (x4 < (((List.length (List.getD x.1.2.2.2.2.2.2 (Int.toNat x2) ((0 : Int), ([] : List Int))).2) : Nat) : Int))) then
 (gd ((0 : Int) ≤ x4) (gd (x4 < (((List.length (List.getD x.1.2.2.2.2.2.2 (Int.toNat x2) ((0 : Int), ([] : List Int))).2) : Nat) : Int)) (Option.bind (m40 ((List.getD (List.getD x.1.2.2.2.2.2.2 (Int.toNat x2) ((0 : Int), ([] : List Int))).2 (Int.toNat x4) (0 : Int)), ((-1 : Int), ((Go.IntKind.wrap .i64 ((((List.length x.1.2.2.2.2.1) : Nat) : Int) - (1 : Int))), ())))) fun (y5 : (Bool × Unit)) =>
 bif (!y5.1) then
 (some (Sum.inr (Sum.inr x4)))
 else
 (some (Sum.inl (Go.IntKind.wrap .i64 (x4 + (1 : Int))))))))
 else
 (some (Sum.inr (Sum.inl ())))) (0 : Int)) fun (y4 : (Unit ⊕ Int)) =>
 Sum.elim (fun y5 =>
 bif (decide ((-1 : Int) ≥ (0 : Int))) then
 (some (Sum.inr (Sum.inr false)))
 else
 (some (Sum.inl (Go.IntKind.wrap .i64 (x2 + (1 : Int)))))) (fun y5 =>
 bif (decide (y5 ≥ (0 : Int))) then
 (some (Sum.inr (Sum.inr false)))
 else
 (some (Sum.inl (Go.IntKind.wrap .i64 (x2 + (1 : Int)))))) y4)))
 else
 (Option.bind (m40 ((List.getD x.1.2.2.2.2.2.2 (Int.toNat x2) ((0 : Int), ([] : List Int))).1, ((0 : Int), ((255 : Int), ())))) fun (y3 : (Bool × Unit)) =>
 bif (!y3.1) then
 (some (Sum.inr (Sum.inr false)))
 else
 (Option.bind (loopM (X := Int) (E := (Unit ⊕ Int)) (fun (x4 : Int) =>
 bif (decide (x4 < (((List.length (List.getD x.1.2.2.2.2.2.2 (Int.toNat x2) ((0 : Int), ([] : List Int))).2) : Nat) : Int))) then
 (gd ((0 : Int) ≤ x4) (gd (x4 < (((List.length (List.getD x.1.2.2.2.2.2.2 (Int.toNat x2) ((0 : Int), ([] : List Int))).2) : Nat) : Int)) (Option.bind (m40 ((List.getD (List.getD x.1.2.2.2.2.2.2 (Int.toNat x2) ((0 : Int), ([] : List Int))).2 (Int.toNat x4) (0 : Int)), ((-1 : Int), ((Go.IntKind.wrap .i64 ((((List.length x.1.2.2.2.2.1) : Nat) : Int) - (1 : Int))), ())))) fun (y5 : (Bool × Unit)) =>
 bif (!y5.1) then
 (some (Sum.inr (Sum.inr x4)))
 else
 (some (Sum.inl (Go.IntKind.wrap .i64 (x4 + (1 : Int))))))))
 else
 (some (Sum.inr (Sum.inl ())))) (0 : Int)) fun (y4 : (Unit ⊕ Int)) =>
 Sum.elim (fun y5 =>
 bif (decide ((-1 : Int) ≥ (0 : Int))) then
 (some (Sum.inr (Sum.inr false)))
 else
 (some (Sum.inl (Go.IntKind.wrap .i64 (x2 + (1 : Int)))))) (fun y5 =>
 bif (decide (y5 ≥ (0 : Int))) then
 (some (Sum.inr (Sum.inr false)))
 else
 (some (Sum.inl (Go.IntKind.wrap .i64 (x2 + (1 : Int)))))) y4))))))
 else
 (some (Sum.inr (Sum.inl ())))) (0 : Int)) fun (y2 : (Unit ⊕ Bool)) =>
 Sum.elim (fun y3 =>
 bif (decide (x.1.2.2.2.2.2.1.1 = (-1 : Int))) then
 (some (((decide (x.1.2.2.2.2.2.1.1 = (-1 : Int))) && ((decide (x.1.2.2.2.2.2.1.2.1 = (0 : Int))) && (decide (x.1.2.2.2.2.2.1.2.2 = (0 : Int))))), ()))
 else
 (Option.bind (m40 (x.1.2.2.2.2.2.1.1, ((0 : Int), ((255 : Int), ())))) fun (y4 : (Bool × Unit)) =>
 bif y4.1 then
 (Option.bind (m40 (x.1.2.2.2.2.2.1.2.1, ((0 : Int), ((Go.IntKind.wrap .i64 (x.1.2.1 - (1 : Int))), ())))) fun (y5 : (Bool × Unit)) =>
 bif y5.1 then
 (Option.bind (m40 (x.1.2.2.2.2.2.1.2.2, ((0 : Int), (x.1.1, ())))) fun (y6 : (Bool × Unit)) =>
 some (y6.1, ()))
 else
 (some (false, ())))
 else
 (some (false, ())))) (fun y3 =>
 some (y3, ())) y2))))

noncomputable def i59_82 : ID := aInl Try.prog ({ envOf [(40, ⟨[(false, (.int .i64)), (false, (.int .i64)), (false, (.int .i64))], [(false, .bool)], false, m40⟩)] [] [] [] with deep := [79] }) ⟨[], []⟩ Try.f82
noncomputable def i59_81 : ID := aInl Try.prog ({ envOf [] [] [] [(82, i59_82)] with deep := [79] }) ⟨[(6000, ⟨[.slot 8 (.d false (.int .i64) true)], [], [(some 0, []), (none, [.slot 4 (.d false (.int .i64) true)])], none⟩)], []⟩ Try.f81
noncomputable def i59_57 : ID := aInl Try.prog ({ envOf [] [] [] [(81, i59_81)] with deep := [79] }) ⟨[], []⟩ Try.f57
noncomputable def r59 : PDen [(true, kT)] → Option (PDen [(false, .bool)]) := fun x => afun Try.prog ({ envOf [(40, ⟨[(false, (.int .i64)), (false, (.int .i64)), (false, (.int .i64))], [(false, .bool)], false, m40⟩)] [(30, OM.hd ⟨[(false, (.int .i64)), (false, (.int .i64)), (false, (.int .i64))], [(true, kT), (false, (.int .i64))], [(.p .d (.p .d (.p .d (.p (.s 3) (.p (.s 4) .d))))), .d], false, m30⟩)] [] [(57, i59_57)] with deep := [79] }) ⟨[(0, ⟨[.slot 49 (.d false (.int .i64) true)], [], [(some 0, []), (none, [.slot 2 (.d false .bool true)])], none⟩)], []⟩ Try.f59 [(true, kT)] [(false, .bool)] false x
theorem r59_eq : r59 = m59 := by kernel_rfl

theorem i59_82_sound : i59_82.Sound Try.prog 82 := aInl_sound' (Env.Sound.deepen (envOf_sound (CSs.cons c40 (CSs.nil)) (HDs.nil) (IDs.nil)) [79]) Try.follows (f := 82) (fn := Try.f82) Try.func82 (by kernel_rfl) (by kernel_rfl)
theorem i59_81_sound : i59_81.Sound Try.prog 81 := aInl_sound' (Env.Sound.deepen (envOf_sound (CSs.nil) (HDs.nil) (IDs.cons i59_82_sound (IDs.nil))) [79]) Try.follows (f := 81) (fn := Try.f81) Try.func81 (by kernel_rfl) (by kernel_rfl)
theorem i59_57_sound : i59_57.Sound Try.prog 57 := aInl_sound' (Env.Sound.deepen (envOf_sound (CSs.nil) (HDs.nil) (IDs.cons i59_81_sound (IDs.nil))) [79]) Try.follows (f := 57) (fn := Try.f57) Try.func57 (by kernel_rfl) (by kernel_rfl)
theorem c59 : CS.Sound Try.prog 59 ⟨[(true, kT)], [(false, .bool)], false, m59⟩ := afun_sound' (Env.Sound.deepen (envOf_sound (CSs.cons c40 (CSs.nil)) (HDs.cons (OM.Sound.hd c30) (HDs.nil)) (IDs.cons i59_57_sound (IDs.nil))) [79]) rfl Try.follows (f := 59) (fn := Try.f59) Try.func59 (by kernel_rfl) (by kernel_rfl) r59_eq
end Go.Proofs.Ytecadglgkhfaaaa
end

section
open Go Go.Proofs.AM
namespace Go.Proofs.Ytecadglgkhfaaaa

noncomputable def m25p (g : List Int) (z : Bool × (Int × List (Int × Bool))) : Option (Bool × List (Int × Bool)) :=
 loopM (X := (Bool × (Int × (List (Int × Bool))))) (E := (Bool × (List (Int × Bool)))) (fun (x4 : (Bool × (Int × (List (Int × Bool))))) => bif (decide (x4.2.1 < (((List.length g) : Nat) : Int))) then (gd ((0 : Int) ≤ x4.2.1) (gd (x4.2.1 < (((List.length g) : Nat) : Int)) (bif x4.1 then (bif (decide ((List.getD g (Int.toNat x4.2.1) (0 : Int)) ≥ (0 : Int))) then (bif (decide ((List.getD g (Int.toNat x4.2.1) (0 : Int)) ≥ (0 : Int))) then (some (Sum.inl ((!(mget (false, (.int .i64)) x4.2.2 (List.getD g (Int.toNat x4.2.1) (0 : Int)) false)), ((Go.IntKind.wrap .i64 (x4.2.1 + (1 : Int))), (mset (false, (.int .i64)) x4.2.2 (List.getD g (Int.toNat x4.2.1) (0 : Int)) true))))) else (some (Sum.inl ((!(mget (false, (.int .i64)) x4.2.2 (List.getD g (Int.toNat x4.2.1) (0 : Int)) false)), ((Go.IntKind.wrap .i64 (x4.2.1 + (1 : Int))), x4.2.2))))) else (bif (decide ((List.getD g (Int.toNat x4.2.1) (0 : Int)) ≥ (0 : Int))) then (some (Sum.inl (true, ((Go.IntKind.wrap .i64 (x4.2.1 + (1 : Int))), (mset (false, (.int .i64)) x4.2.2 (List.getD g (Int.toNat x4.2.1) (0 : Int)) true))))) else (some (Sum.inl (true, ((Go.IntKind.wrap .i64 (x4.2.1 + (1 : Int))), x4.2.2)))))) else (some (Sum.inl (false, ((Go.IntKind.wrap .i64 (x4.2.1 + (1 : Int))), x4.2.2))))))) else (some (Sum.inr (x4.1, x4.2.2)))) z

noncomputable def m25r (x : tT × Unit) (z : Bool × (Int × List (Int × Bool))) : Option (Int × Unit) :=
 (Option.bind (loopM (X := (Bool × (Int × (List (Int × Bool))))) (E := (Bool × (List (Int × Bool)))) (fun (x2 : (Bool × (Int × (List (Int × Bool))))) =>
 bif (decide (x2.2.1 < (((List.length x.1.2.2.2.1) : Nat) : Int))) then
 (gd ((0 : Int) ≤ x2.2.1) (gd (x2.2.1 < (((List.length x.1.2.2.2.1) : Nat) : Int)) (bif x2.1 then
 (Option.bind (m40 ((List.getD x.1.2.2.2.1 (Int.toNat x2.2.1) (0 : Int)), ((-1 : Int), ((255 : Int), ())))) fun (y3 : (Bool × Unit)) =>
 bif y3.1 then
 (bif (decide ((List.getD x.1.2.2.2.1 (Int.toNat x2.2.1) (0 : Int)) ≥ (0 : Int))) then
 (bif (decide ((List.getD x.1.2.2.2.1 (Int.toNat x2.2.1) (0 : Int)) ≥ (0 : Int))) then
 (some (Sum.inl ((!(mget (false, (.int .i64)) x2.2.2 (List.getD x.1.2.2.2.1 (Int.toNat x2.2.1) (0 : Int)) false)), ((Go.IntKind.wrap .i64 (x2.2.1 + (1 : Int))), (mset (false, (.int .i64)) x2.2.2 (List.getD x.1.2.2.2.1 (Int.toNat x2.2.1) (0 : Int)) true)))))
 else
 (some (Sum.inl ((!(mget (false, (.int .i64)) x2.2.2 (List.getD x.1.2.2.2.1 (Int.toNat x2.2.1) (0 : Int)) false)), ((Go.IntKind.wrap .i64 (x2.2.1 + (1 : Int))), x2.2.2)))))
 else
 (bif (decide ((List.getD x.1.2.2.2.1 (Int.toNat x2.2.1) (0 : Int)) ≥ (0 : Int))) then
 (some (Sum.inl (true, ((Go.IntKind.wrap .i64 (x2.2.1 + (1 : Int))), (mset (false, (.int .i64)) x2.2.2 (List.getD x.1.2.2.2.1 (Int.toNat x2.2.1) (0 : Int)) true)))))
 else
 (some (Sum.inl (true, ((Go.IntKind.wrap .i64 (x2.2.1 + (1 : Int))), x2.2.2))))))
 else
 (some (Sum.inl (false, ((Go.IntKind.wrap .i64 (x2.2.1 + (1 : Int))), x2.2.2)))))
 else
 (some (Sum.inl (false, ((Go.IntKind.wrap .i64 (x2.2.1 + (1 : Int))), x2.2.2)))))))
 else
 (some (Sum.inr (x2.1, x2.2.2)))) z) fun (y2 : (Bool × (List (Int × Bool)))) =>
 Option.bind (loopM (X := (Bool × (Int × ((List (Int × Bool)) × (List (Int × Bool)))))) (E := (Bool × ((List (Int × Bool)) × (List (Int × Bool))))) (fun (x3 : (Bool × (Int × ((List (Int × Bool)) × (List (Int × Bool)))))) =>
 bif (decide (x3.2.1 < (((List.length x.1.2.2.2.2.2.2) : Nat) : Int))) then
 (gd ((0 : Int) ≤ x3.2.1) (gd (x3.2.1 < (((List.length x.1.2.2.2.2.2.2) : Nat) : Int)) (bif x3.1 then
 (bif (decide ((List.getD x.1.2.2.2.2.2.2 (Int.toNat x3.2.1) ((0 : Int), ([] : List Int))).1 ≥ (0 : Int))) then
 (bif (decide ((List.getD x.1.2.2.2.2.2.2 (Int.toNat x3.2.1) ((0 : Int), ([] : List Int))).1 ≥ (0 : Int))) then
 (Option.bind (m25p ((List.getD x.1.2.2.2.2.2.2 (Int.toNat x3.2.1) ((0 : Int), ([] : List Int))).2) ((!(mget (false, (.int .i64)) x3.2.2.1 (List.getD x.1.2.2.2.2.2.2 (Int.toNat x3.2.1) ((0 : Int), ([] : List Int))).1 false)), ((0 : Int), x3.2.2.2))) fun (y4 : (Bool × (List (Int × Bool)))) =>
 some (Sum.inl (y4.1, ((Go.IntKind.wrap .i64 (x3.2.1 + (1 : Int))), ((mset (false, (.int .i64)) x3.2.2.1 (List.getD x.1.2.2.2.2.2.2 (Int.toNat x3.2.1) ((0 : Int), ([] : List Int))).1 true), y4.2)))))
 else
 (Option.bind (m25p ((List.getD x.1.2.2.2.2.2.2 (Int.toNat x3.2.1) ((0 : Int), ([] : List Int))).2) ((!(mget (false, (.int .i64)) x3.2.2.1 (List.getD x.1.2.2.2.2.2.2 (Int.toNat x3.2.1) ((0 : Int), ([] : List Int))).1 false)), ((0 : Int), x3.2.2.2))) fun (y4 : (Bool × (List (Int × Bool)))) =>
 some (Sum.inl (y4.1, ((Go.IntKind.wrap .i64 (x3.2.1 + (1 : Int))), (x3.2.2.1, y4.2))))))
 else
 (bif (decide ((List.getD x.1.2.2.2.2.2.2 (Int.toNat x3.2.1) ((0 : Int), ([] : List Int))).1 ≥ (0 : Int))) then
 (Option.bind (m25p ((List.getD x.1.2.2.2.2.2.2 (Int.toNat x3.2.1) ((0 : Int), ([] : List Int))).2) (true, ((0 : Int), x3.2.2.2))) fun (y4 : (Bool × (List (Int × Bool)))) =>
 some (Sum.inl (y4.1, ((Go.IntKind.wrap .i64 (x3.2.1 + (1 : Int))), ((mset (false, (.int .i64)) x3.2.2.1 (List.getD x.1.2.2.2.2.2.2 (Int.toNat x3.2.1) ((0 : Int), ([] : List Int))).1 true), y4.2)))))
 else
 (Option.bind (m25p ((List.getD x.1.2.2.2.2.2.2 (Int.toNat x3.2.1) ((0 : Int), ([] : List Int))).2) (true, ((0 : Int), x3.2.2.2))) fun (y4 : (Bool × (List (Int × Bool)))) =>
 some (Sum.inl (y4.1, ((Go.IntKind.wrap .i64 (x3.2.1 + (1 : Int))), (x3.2.2.1, y4.2)))))))
 else
 (Option.bind (m25p ((List.getD x.1.2.2.2.2.2.2 (Int.toNat x3.2.1) ((0 : Int), ([] : List Int))).2) (false, ((0 : Int), x3.2.2.2))) fun (y4 : (Bool × (List (Int × Bool)))) =>
 some (Sum.inl (y4.1, ((Go.IntKind.wrap .i64 (x3.2.1 + (1 : Int))), (x3.2.2.1, y4.2))))))))
 else
 (some (Sum.inr (x3.1, (x3.2.2.1, x3.2.2.2))))) (y2.1, ((0 : Int), (y2.2, ([] : List (Int × Bool)))))) fun (y3 : (Bool × ((List (Int × Bool)) × (List (Int × Bool))))) =>
 Option.bind (loopM (X := (Bool × Int)) (E := Bool) (fun (x4 : (Bool × Int)) =>
 bif (decide (x4.2 < (((List.length x.1.2.2.2.2.1) : Nat) : Int))) then
 (gd ((0 : Int) ≤ x4.2) (gd (x4.2 < (((List.length x.1.2.2.2.2.1) : Nat) : Int)) (bif x4.1 then
 (bif (!(List.getD x.1.2.2.2.2.1 (Int.toNat x4.2) false)) then
 (some (Sum.inl (true, (Go.IntKind.wrap .i64 (x4.2 + (1 : Int))))))
 else
 (if x.1.1 = (0 : Int) then
 (none)
 else
 (gd ((0 : Int) ≤ (Go.IntKind.wrap .i64 (Int.tdiv x4.2 x.1.1))) (gd ((Go.IntKind.wrap .i64 (Int.tdiv x4.2 x.1.1)) < (((List.length x.1.2.2.2.1) : Nat) : Int)) (some (Sum.inl ((decide ((List.getD x.1.2.2.2.1 (Int.toNat (Go.IntKind.wrap .i64 (Int.tdiv x4.2 x.1.1))) (0 : Int)) ≥ (0 : Int))), (Go.IntKind.wrap .i64 (x4.2 + (1 : Int))))))))))
 else
 (some (Sum.inl (false, (Go.IntKind.wrap .i64 (x4.2 + (1 : Int)))))))))
 else
 (some (Sum.inr x4.1))) (y3.1, (0 : Int))) fun (y4 : Bool) =>
 bif (!y4) then
 (some ((50 : Int), ()))
 else
 (some ((0 : Int), ())))

noncomputable def m25 (x : tT × Unit) : Option (Int × Unit) :=
 Option.bind (m59 (x.1, ())) fun (y1 : (Bool × Unit)) =>
 bif (!y1.1) then
 (some ((50 : Int), ()))
 else
 (bif (decide (x.1.2.2.2.2.2.1.1 ≥ (0 : Int))) then
 (bif (decide (x.1.2.2.2.2.2.1.1 ≥ (0 : Int))) then
 (m25r x ((!(mget (false, (.int .i64)) ([] : List (Int × Bool)) x.1.2.2.2.2.2.1.1 false)), ((0 : Int), (mset (false, (.int .i64)) ([] : List (Int × Bool)) x.1.2.2.2.2.2.1.1 true))))
 else
 (m25r x ((!(mget (false, (.int .i64)) ([] : List (Int × Bool)) x.1.2.2.2.2.2.1.1 false)), ((0 : Int), ([] : List (Int × Bool))))))
 else
 (bif (decide (x.1.2.2.2.2.2.1.1 ≥ (0 : Int))) then
 (m25r x (true, ((0 : Int), (mset (false, (.int .i64)) ([] : List (Int × Bool)) x.1.2.2.2.2.2.1.1 true))))
 else
 (m25r x (true, ((0 : Int), ([] : List (Int × Bool)))))))

noncomputable def i25_60 : ID := aInl Try.prog ({ envOf [] [] [] [] with deep := [79] }) ⟨[], []⟩ Try.f60
noncomputable def r25 : PDen [(true, kT)] → Option (PDen [(false, (.int .i64))]) := fun x => afun Try.prog ({ envOf [(40, ⟨[(false, (.int .i64)), (false, (.int .i64)), (false, (.int .i64))], [(false, .bool)], false, m40⟩), (59, ⟨[(true, kT)], [(false, .bool)], false, m59⟩)] [] [] [(60, i25_60)] with deep := [79] }) ⟨[(0, ⟨[.slot 6 (.d false .bool true), .slot 29 (.d false (.int .i64) true), .map 1 (false, (.int .i64)) (false, .bool) true], [], [(some 0, [.slot 6 (.d false .bool true), .map 1 (false, (.int .i64)) (false, .bool) true])], none⟩), (2, ⟨[.slot 6 (.d false .bool true), .slot 48 (.d false (.int .i64) true), .map 1 (false, (.int .i64)) (false, .bool) true, .map 2 (false, (.int .i64)) (false, .bool) true], [], [(some 2, [.slot 6 (.d false .bool true), .map 1 (false, (.int .i64)) (false, .bool) true, .map 2 (false, (.int .i64)) (false, .bool) true])], none⟩), (4, ⟨[.slot 6 (.d false .bool true), .slot 63 (.d false (.int .i64) true), .map 2 (false, (.int .i64)) (false, .bool) true], [], [(some 4, [.slot 6 (.d false .bool true), .map 2 (false, (.int .i64)) (false, .bool) true])], none⟩), (6, ⟨[.slot 6 (.d false .bool true), .slot 79 (.d false (.int .i64) true)], [], [(some 6, [.slot 6 (.d false .bool true)])], none⟩)], []⟩ Try.f25 [(true, kT)] [(false, (.int .i64))] false x
theorem r25_eq : r25 = m25 := by kernel_rfl

theorem i25_60_sound : i25_60.Sound Try.prog 60 := aInl_sound' (Env.Sound.deepen (envOf_sound (CSs.nil) (HDs.nil) (IDs.nil)) [79]) Try.follows (f := 60) (fn := Try.f60) Try.func60 (by kernel_rfl) (by kernel_rfl)
theorem c25 : CS.Sound Try.prog 25 ⟨[(true, kT)], [(false, (.int .i64))], false, m25⟩ := afun_sound' (Env.Sound.deepen (envOf_sound (CSs.cons c40 (CSs.cons c59 (CSs.nil))) (HDs.nil) (IDs.cons i25_60_sound (IDs.nil))) [79]) rfl Try.follows (f := 25) (fn := Try.f25) Try.func25 (by kernel_rfl) (by kernel_rfl) r25_eq
end Go.Proofs.Ytecadglgkhfaaaa
end

section
open Go Go.Proofs.AM
namespace Go.Proofs.Ytecadglgkhfaaaa

noncomputable def m62 (x : tT × Unit) : Option (Bool × Unit) :=
 Option.bind (loopM (X := Int) (E := (Unit ⊕ Bool)) (fun (x1 : Int) =>
 bif (decide (x1 < (((List.length x.1.2.2.2.2.2.2) : Nat) : Int))) then
 (gd ((0 : Int) ≤ x1) (gd (x1 < (((List.length x.1.2.2.2.2.2.2) : Nat) : Int)) (Option.bind (loopM (X := Int) (E := (Unit ⊕ Bool)) (fun (x2 : Int) =>
 bif (decide (x2 < (((List.length (List.getD x.1.2.2.2.2.2.2 (Int.toNat x1) ((0 : Int), ([] : List Int))).2) : Nat) : Int))) then
 (gd ((0 : Int) ≤ x2) (gd (x2 < (((List.length (List.getD x.1.2.2.2.2.2.2 (Int.toNat x1) ((0 : Int), ([] : List Int))).2) : Nat) : Int)) (bif (decide ((List.getD (List.getD x.1.2.2.2.2.2.2 (Int.toNat x1) ((0 : Int), ([] : List Int))).2 (Int.toNat x2) (0 : Int)) ≥ (0 : Int))) then
 (if x.1.1 = (0 : Int) then
 (none)
 else
 (bif (decide ((Go.IntKind.wrap .i64 (Int.tdiv (List.getD (List.getD x.1.2.2.2.2.2.2 (Int.toNat x1) ((0 : Int), ([] : List Int))).2 (Int.toNat x2) (0 : Int)) x.1.1)) = x.1.2.2.2.2.2.1.2.1)) then
 (if x.1.1 = (0 : Int) then
 (none)
 else
 (bif (decide ((Int.tmod (List.getD (List.getD x.1.2.2.2.2.2.2 (Int.toNat x1) ((0 : Int), ([] : List Int))).2 (Int.toNat x2) (0 : Int)) x.1.1) < x.1.2.2.2.2.2.1.2.2)) then
 (some (Sum.inr (Sum.inr true)))
 else
 (some (Sum.inl (Go.IntKind.wrap .i64 (x2 + (1 : Int)))))))
 else
 (some (Sum.inl (Go.IntKind.wrap .i64 (x2 + (1 : Int)))))))
 else
 (some (Sum.inl (Go.IntKind.wrap .i64 (x2 + (1 : Int))))))))
 else
 (some (Sum.inr (Sum.inl ())))) (0 : Int)) fun (y2 : (Unit ⊕ Bool)) =>
 Sum.elim (fun y3 =>
 some (Sum.inl (Go.IntKind.wrap .i64 (x1 + (1 : Int))))) (fun y3 =>
 some (Sum.inr (Sum.inr y3))) y2)))
 else
 (some (Sum.inr (Sum.inl ())))) (0 : Int)) fun (y1 : (Unit ⊕ Bool)) =>
 Sum.elim (fun y2 =>
 some (false, ())) (fun y2 =>
 some (y2, ())) y1

noncomputable def r62 : PDen [(true, kT)] → Option (PDen [(false, .bool)]) := fun x => afun Try.prog ({ envOf [] [] [] [] with deep := [79] }) ⟨[(0, ⟨[.slot 10 (.d false (.int .i64) true)], [], [(some 0, []), (none, [.slot 2 (.d false .bool true)])], none⟩), (2, ⟨[.slot 17 (.d false (.int .i64) true)], [], [(some 2, []), (none, [.slot 2 (.d false .bool true)])], none⟩)], []⟩ Try.f62 [(true, kT)] [(false, .bool)] false x
theorem r62_eq : r62 = m62 := by kernel_rfl

theorem c62 : CS.Sound Try.prog 62 ⟨[(true, kT)], [(false, .bool)], false, m62⟩ := afun_sound' (Env.Sound.deepen (envOf_sound (CSs.nil) (HDs.nil) (IDs.nil)) [79]) rfl Try.follows (f := 62) (fn := Try.f62) Try.func62 (by kernel_rfl) (by kernel_rfl) r62_eq
end Go.Proofs.Ytecadglgkhfaaaa
end

section
open Go Go.Proofs.AM
namespace Go.Proofs.Ytecadglgkhfaaaa

noncomputable def m41 (x : tT × Int × Unit) : Option ((Int × Int) × Unit) :=
 bif (decide (x.1.2.2.2.2.2.1.1 < (0 : Int))) then
 (bif (decide ((3 : Int) = (5 : Int))) then
 (some (((3 : Int), x.1.2.2.2.2.2.1.2.1), ()))
 else
 (bif (decide ((3 : Int) = (6 : Int))) then
 (some (((3 : Int), x.1.2.2.2.2.2.1.2.1), ()))
 else
 (bif (decide ((3 : Int) = (7 : Int))) then
 (some (((3 : Int), x.1.2.2.2.2.2.1.2.1), ()))
 else
 (some (((3 : Int), x.2.1), ())))))
 else
 (bif (decide (x.1.2.2.2.2.2.1.2.1 = x.2.1)) then
 (bif (decide (x.1.2.2.2.2.2.1.2.2 = (0 : Int))) then
 (bif (decide ((1 : Int) = (5 : Int))) then
 (some (((1 : Int), x.1.2.2.2.2.2.1.2.1), ()))
 else
 (bif (decide ((1 : Int) = (6 : Int))) then
 (some (((1 : Int), x.1.2.2.2.2.2.1.2.1), ()))
 else
 (bif (decide ((1 : Int) = (7 : Int))) then
 (some (((1 : Int), x.1.2.2.2.2.2.1.2.1), ()))
 else
 (some (((1 : Int), x.2.1), ())))))
 else
 (Option.bind (m62 (x.1, ())) fun (y1 : (Bool × Unit)) =>
 bif y1.1 then
 (bif (decide ((7 : Int) = (5 : Int))) then
 (some (((7 : Int), x.1.2.2.2.2.2.1.2.1), ()))
 else
 (bif (decide ((7 : Int) = (6 : Int))) then
 (some (((7 : Int), x.1.2.2.2.2.2.1.2.1), ()))
 else
 (bif (decide ((7 : Int) = (7 : Int))) then
 (some (((7 : Int), x.1.2.2.2.2.2.1.2.1), ()))
 else
 (some (((7 : Int), x.2.1), ())))))
 else
 (bif (decide (x.1.2.2.2.2.2.1.2.2 < x.1.1)) then
 (bif (decide ((6 : Int) = (5 : Int))) then
 (some (((6 : Int), x.1.2.2.2.2.2.1.2.1), ()))
 else
 (bif (decide ((6 : Int) = (6 : Int))) then
 (some (((6 : Int), x.1.2.2.2.2.2.1.2.1), ()))
 else
 (bif (decide ((6 : Int) = (7 : Int))) then
 (some (((6 : Int), x.1.2.2.2.2.2.1.2.1), ()))
 else
 (some (((6 : Int), x.2.1), ())))))
 else
 (bif (decide ((5 : Int) = (5 : Int))) then
 (some (((5 : Int), x.1.2.2.2.2.2.1.2.1), ()))
 else
 (bif (decide ((5 : Int) = (6 : Int))) then
 (some (((5 : Int), x.1.2.2.2.2.2.1.2.1), ()))
 else
 (bif (decide ((5 : Int) = (7 : Int))) then
 (some (((5 : Int), x.1.2.2.2.2.2.1.2.1), ()))
 else
 (some (((5 : Int), x.2.1), ()))))))))
 else
 (Option.bind (m62 (x.1, ())) fun (y1 : (Bool × Unit)) =>
 bif y1.1 then
 (bif (decide ((7 : Int) = (5 : Int))) then
 (some (((7 : Int), x.1.2.2.2.2.2.1.2.1), ()))
 else
 (bif (decide ((7 : Int) = (6 : Int))) then
 (some (((7 : Int), x.1.2.2.2.2.2.1.2.1), ()))
 else
 (bif (decide ((7 : Int) = (7 : Int))) then
 (some (((7 : Int), x.1.2.2.2.2.2.1.2.1), ()))
 else
 (some (((7 : Int), x.2.1), ())))))
 else
 (bif (decide (x.1.2.2.2.2.2.1.2.2 < x.1.1)) then
 (bif (decide ((6 : Int) = (5 : Int))) then
 (some (((6 : Int), x.1.2.2.2.2.2.1.2.1), ()))
 else
 (bif (decide ((6 : Int) = (6 : Int))) then
 (some (((6 : Int), x.1.2.2.2.2.2.1.2.1), ()))
 else
 (bif (decide ((6 : Int) = (7 : Int))) then
 (some (((6 : Int), x.1.2.2.2.2.2.1.2.1), ()))
 else
 (some (((6 : Int), x.2.1), ())))))
 else
 (bif (decide ((5 : Int) = (5 : Int))) then
 (some (((5 : Int), x.1.2.2.2.2.2.1.2.1), ()))
 else
 (bif (decide ((5 : Int) = (6 : Int))) then
 (some (((5 : Int), x.1.2.2.2.2.2.1.2.1), ()))
 else
 (bif (decide ((5 : Int) = (7 : Int))) then
 (some (((5 : Int), x.1.2.2.2.2.2.1.2.1), ()))
 else
 (some (((5 : Int), x.2.1), ()))))))))

noncomputable def r41 : PDen [(true, kT), (false, (.int .i64))] → Option (PDen [(true, (.pair (.int .i64) (.int .i64)))]) := fun x => afun Try.prog ({ envOf [(62, ⟨[(true, kT)], [(false, .bool)], false, m62⟩)] [] [] [] with deep := [79] }) ⟨[], []⟩ Try.f41 [(true, kT), (false, (.int .i64))] [(true, (.pair (.int .i64) (.int .i64)))] false x
theorem r41_eq : r41 = m41 := by kernel_rfl

theorem c41 : CS.Sound Try.prog 41 ⟨[(true, kT), (false, (.int .i64))], [(true, (.pair (.int .i64) (.int .i64)))], false, m41⟩ := afun_sound' (Env.Sound.deepen (envOf_sound (CSs.cons c62 (CSs.nil)) (HDs.nil) (IDs.nil)) [79]) rfl Try.follows (f := 41) (fn := Try.f41) Try.func41 (by kernel_rfl) (by kernel_rfl) r41_eq
end Go.Proofs.Ytecadglgkhfaaaa
end

section
open Go Go.Proofs.AM
namespace Go.Proofs.Ytecadglgkhfaaaa

noncomputable def m49 (x : tT × Unit) : Option (Bool × Unit) :=
 bif (decide ((((List.length x.1.2.2.2.2.2.2) : Nat) : Int) > (0 : Int))) then
 (gd ((0 : Int) ≤ (Go.IntKind.wrap .i64 ((((List.length x.1.2.2.2.2.2.2) : Nat) : Int) - (1 : Int)))) (gd ((Go.IntKind.wrap .i64 ((((List.length x.1.2.2.2.2.2.2) : Nat) : Int) - (1 : Int))) < (((List.length x.1.2.2.2.2.2.2) : Nat) : Int)) (some ((decide ((((List.length (List.getD x.1.2.2.2.2.2.2 (Int.toNat (Go.IntKind.wrap .i64 ((((List.length x.1.2.2.2.2.2.2) : Nat) : Int) - (1 : Int)))) ((0 : Int), ([] : List Int))).2) : Nat) : Int) < x.1.1)), ()))))
 else
 (some (false, ()))

noncomputable def r49 : PDen [(true, kT)] → Option (PDen [(false, .bool)]) := fun x => afun Try.prog ({ envOf [] [] [] [] with deep := [79] }) ⟨[], []⟩ Try.f49 [(true, kT)] [(false, .bool)] false x
theorem r49_eq : r49 = m49 := by kernel_rfl

theorem c49 : CS.Sound Try.prog 49 ⟨[(true, kT)], [(false, .bool)], false, m49⟩ := afun_sound' (Env.Sound.deepen (envOf_sound (CSs.nil) (HDs.nil) (IDs.nil)) [79]) rfl Try.follows (f := 49) (fn := Try.f49) Try.func49 (by kernel_rfl) (by kernel_rfl) r49_eq
end Go.Proofs.Ytecadglgkhfaaaa
end

section
open Go Go.Proofs.AM
namespace Go.Proofs.Ytecadglgkhfaaaa

noncomputable def m42 (x : tT × Unit) : Option ((Int × Int) × Unit) :=
 Option.bind (m49 (x.1, ())) fun (y1 : (Bool × Unit)) =>
 bif y1.1 then
 (some (((2 : Int), (0 : Int)), ()))
 else
 (bif (decide ((((List.length x.1.2.2.2.2.2.2) : Nat) : Int) < x.1.2.2.1)) then
 (some (((4 : Int), (0 : Int)), ()))
 else
 (gd ((0 : Int) < (((List.length x.1.2.2.2.2.2.2) : Nat) : Int)) (Option.bind (loopM (X := (Int × (Int × Int))) (E := ((Int × Int) ⊕ (Int × Int))) (fun (x2 : (Int × (Int × Int))) =>
 bif (decide (x2.1 < (((List.length (List.getD x.1.2.2.2.2.2.2 (Int.toNat (0 : Int)) ((0 : Int), ([] : List Int))).2) : Nat) : Int))) then
 (gd ((0 : Int) ≤ x2.1) (gd (x2.1 < (((List.length (List.getD x.1.2.2.2.2.2.2 (Int.toNat (0 : Int)) ((0 : Int), ([] : List Int))).2) : Nat) : Int)) (bif (decide ((List.getD (List.getD x.1.2.2.2.2.2.2 (Int.toNat (0 : Int)) ((0 : Int), ([] : List Int))).2 (Int.toNat x2.1) (0 : Int)) ≥ (0 : Int))) then
 (if x.1.1 = (0 : Int) then
 (none)
 else
 (some (Sum.inr (Sum.inr ((8 : Int), (Go.IntKind.wrap .i64 (Int.tdiv (List.getD (List.getD x.1.2.2.2.2.2.2 (Int.toNat (0 : Int)) ((0 : Int), ([] : List Int))).2 (Int.toNat x2.1) (0 : Int)) x.1.1)))))))
 else
 (some (Sum.inl ((Go.IntKind.wrap .i64 (x2.1 + (1 : Int))), (x2.2.1, x2.2.2)))))))
 else
 (some (Sum.inr (Sum.inl (x2.2.1, x2.2.2))))) ((0 : Int), ((0 : Int), (0 : Int)))) fun (y2 : ((Int × Int) ⊕ (Int × Int))) =>
 Sum.elim (fun y3 =>
 some (((9 : Int), (0 : Int)), ())) (fun y3 =>
 some (y3, ())) y2)))

noncomputable def r42 : PDen [(true, kT)] → Option (PDen [(true, (.pair (.int .i64) (.int .i64)))]) := fun x => afun Try.prog ({ envOf [(49, ⟨[(true, kT)], [(false, .bool)], false, m49⟩)] [] [] [] with deep := [79] }) ⟨[(1, ⟨[.slot 23 (.d false (.int .i64) true), .cell 1 0 (.d false (.int .i64) true), .cell 1 1 (.d false (.int .i64) true)], [], [(some 1, [.cell 1 0 (.d false (.int .i64) true), .cell 1 1 (.d false (.int .i64) true)]), (none, [.cell 1 0 (.d false (.int .i64) true), .cell 1 1 (.d false (.int .i64) true)])], none⟩)], []⟩ Try.f42 [(true, kT)] [(true, (.pair (.int .i64) (.int .i64)))] false x
theorem r42_eq : r42 = m42 := by kernel_rfl

theorem c42 : CS.Sound Try.prog 42 ⟨[(true, kT)], [(true, (.pair (.int .i64) (.int .i64)))], false, m42⟩ := afun_sound' (Env.Sound.deepen (envOf_sound (CSs.cons c49 (CSs.nil)) (HDs.nil) (IDs.nil)) [79]) rfl Try.follows (f := 42) (fn := Try.f42) Try.func42 (by kernel_rfl) (by kernel_rfl) r42_eq
end Go.Proofs.Ytecadglgkhfaaaa
end

section
open Go Go.Proofs.AM
namespace Go.Proofs.Ytecadglgkhfaaaa

noncomputable def m13 (x : tT × Int × Unit) : Option ((Int × Int) × (Int × Unit)) :=
 Option.bind (m25 (x.1, ())) fun (y1 : (Int × Unit)) =>
 bif (!(decide (y1.1 = (0 : Int)))) then
 (some (((0 : Int), (0 : Int)), (y1.1, ())))
 else
 (Option.bind (m40 (x.2.1, ((0 : Int), ((Go.IntKind.wrap .i64 ((((List.length x.1.2.2.2.2.1) : Nat) : Int) - (1 : Int))), ())))) fun (y2 : (Bool × Unit)) =>
 bif (!y2.1) then
 (some (((0 : Int), (0 : Int)), ((1 : Int), ())))
 else
 (if x.1.1 = (0 : Int) then
 (none)
 else
 (if x.1.1 = (0 : Int) then
 (none)
 else
 (bif (decide ((Int.tmod x.2.1 x.1.1) = (0 : Int))) then
 (Option.bind (m41 (x.1, ((Go.IntKind.wrap .i64 (Int.tdiv x.2.1 x.1.1)), ()))) fun (y3 : ((Int × Int) × Unit)) =>
 some (y3.1, ((0 : Int), ())))
 else
 (bif (decide (x.1.2.2.2.2.2.1.1 ≥ (0 : Int))) then
 (bif (decide (x.1.2.2.2.2.2.1.2.1 = (Go.IntKind.wrap .i64 (Int.tdiv x.2.1 x.1.1)))) then
 (bif (decide (x.1.2.2.2.2.2.1.2.2 = (Int.tmod x.2.1 x.1.1))) then
 (some (((1 : Int), (Go.IntKind.wrap .i64 (Int.tdiv x.2.1 x.1.1))), ((0 : Int), ())))
 else
 (Option.bind (m42 (x.1, ())) fun (y3 : ((Int × Int) × Unit)) =>
 some (y3.1, ((0 : Int), ()))))
 else
 (Option.bind (m42 (x.1, ())) fun (y3 : ((Int × Int) × Unit)) =>
 some (y3.1, ((0 : Int), ()))))
 else
 (Option.bind (m42 (x.1, ())) fun (y3 : ((Int × Int) × Unit)) =>
 some (y3.1, ((0 : Int), ()))))))))

noncomputable def r13 : PDen [(true, kT), (false, (.int .i64))] → Option (PDen [(true, (.pair (.int .i64) (.int .i64))), (false, (.int .i64))]) := fun x => afun Try.prog ({ envOf [(25, ⟨[(true, kT)], [(false, (.int .i64))], false, m25⟩), (40, ⟨[(false, (.int .i64)), (false, (.int .i64)), (false, (.int .i64))], [(false, .bool)], false, m40⟩), (41, ⟨[(true, kT), (false, (.int .i64))], [(true, (.pair (.int .i64) (.int .i64)))], false, m41⟩), (42, ⟨[(true, kT)], [(true, (.pair (.int .i64) (.int .i64)))], false, m42⟩)] [] [] [] with deep := [79] }) ⟨[], []⟩ Try.f13 [(true, kT), (false, (.int .i64))] [(true, (.pair (.int .i64) (.int .i64))), (false, (.int .i64))] false x
theorem r13_eq : r13 = m13 := by kernel_rfl

theorem c13 : CS.Sound Try.prog 13 ⟨[(true, kT), (false, (.int .i64))], [(true, (.pair (.int .i64) (.int .i64))), (false, (.int .i64))], false, m13⟩ := afun_sound' (Env.Sound.deepen (envOf_sound (CSs.cons c25 (CSs.cons c40 (CSs.cons c41 (CSs.cons c42 (CSs.nil))))) (HDs.nil) (IDs.nil)) [79]) rfl Try.follows (f := 13) (fn := Try.f13) Try.func13 (by kernel_rfl) (by kernel_rfl) r13_eq
end Go.Proofs.Ytecadglgkhfaaaa
end

section
open Go Go.Proofs.AM
namespace Go.Proofs.Ytecadglgkhfaaaa

noncomputable def m80 (x : (List Int) × Int × Unit) : Option (Int × Unit) :=
 Option.bind (loopM (X := Int) (E := (Unit ⊕ Int)) (fun (x1 : Int) =>
 bif (decide (x1 < (((List.length x.1) : Nat) : Int))) then
 (gd ((0 : Int) ≤ x1) (gd (x1 < (((List.length x.1) : Nat) : Int)) (bif (decide (x.2.1 = (List.getD x.1 (Int.toNat x1) (0 : Int)))) then
 (some (Sum.inr (Sum.inr x1)))
 else
 (some (Sum.inl (Go.IntKind.wrap .i64 (x1 + (1 : Int))))))))
 else
 (some (Sum.inr (Sum.inl ())))) (0 : Int)) fun (y1 : (Unit ⊕ Int)) =>
 Sum.elim (fun y2 =>
 some ((-1 : Int), ())) (fun y2 =>
 some (y2, ())) y1

noncomputable def r80 : PDen [(false, (.sl (.int .i64))), (false, (.int .i64))] → Option (PDen [(false, (.int .i64))]) := fun x => afun Try.prog ({ envOf [] [] [] [] with deep := [79] }) ⟨[(0, ⟨[.slot 8 (.d false (.int .i64) true)], [], [(some 0, []), (none, [.slot 4 (.d false (.int .i64) true)])], none⟩)], []⟩ Try.f80 [(false, (.sl (.int .i64))), (false, (.int .i64))] [(false, (.int .i64))] false x
theorem r80_eq : r80 = m80 := by kernel_rfl

theorem c80 : CS.Sound Try.prog 80 ⟨[(false, (.sl (.int .i64))), (false, (.int .i64))], [(false, (.int .i64))], false, m80⟩ := afun_sound' (Env.Sound.deepen (envOf_sound (CSs.nil) (HDs.nil) (IDs.nil)) [79]) rfl Try.follows (f := 80) (fn := Try.f80) Try.func80 (by kernel_rfl) (by kernel_rfl) r80_eq
end Go.Proofs.Ytecadglgkhfaaaa
end

section
open Go Go.Proofs.AM
namespace Go.Proofs.Ytecadglgkhfaaaa

noncomputable def m76 (x : (List Int) × Int × Unit) : Option (Bool × Unit) :=
 Option.bind (m80 (x.1, (x.2.1, ()))) fun (y1 : (Int × Unit)) =>
 some ((decide (y1.1 ≥ (0 : Int))), ())

noncomputable def r76 : PDen [(false, (.sl (.int .i64))), (false, (.int .i64))] → Option (PDen [(false, .bool)]) := fun x => afun Try.prog ({ envOf [(80, ⟨[(false, (.sl (.int .i64))), (false, (.int .i64))], [(false, (.int .i64))], false, m80⟩)] [] [] [] with deep := [79] }) ⟨[], []⟩ Try.f76 [(false, (.sl (.int .i64))), (false, (.int .i64))] [(false, .bool)] false x
theorem r76_eq : r76 = m76 := by kernel_rfl

theorem c76 : CS.Sound Try.prog 76 ⟨[(false, (.sl (.int .i64))), (false, (.int .i64))], [(false, .bool)], false, m76⟩ := afun_sound' (Env.Sound.deepen (envOf_sound (CSs.cons c80 (CSs.nil)) (HDs.nil) (IDs.nil)) [79]) rfl Try.follows (f := 76) (fn := Try.f76) Try.func76 (by kernel_rfl) (by kernel_rfl) r76_eq
end Go.Proofs.Ytecadglgkhfaaaa
end

section
open Go Go.Proofs.AM
namespace Go.Proofs.Ytecadglgkhfaaaa

noncomputable def m55 (x : tT × Unit) : Option (tT × Unit) :=
 Option.bind (m25 (x.1, ())) fun (y1 : (Int × Unit)) =>
 bif (!(decide (y1.1 = (0 : Int)))) then
 (Option.bind (m30 ((4 : Int), ((1 : Int), ((1 : Int), ())))) fun (y2 : (tT × (Int × Unit))) =>
 some (y2.1, ()))
 else
 (some (x.1, ()))

noncomputable def r55 : PDen [(true, kT)] → Option (PDen [(true, kT)]) := fun x => afun Try.prog ({ envOf [(25, ⟨[(true, kT)], [(false, (.int .i64))], false, m25⟩)] [(30, OM.hd ⟨[(false, (.int .i64)), (false, (.int .i64)), (false, (.int .i64))], [(true, kT), (false, (.int .i64))], [(.p .d (.p .d (.p .d (.p (.s 3) (.p (.s 4) .d))))), .d], false, m30⟩)] [] [] with deep := [79] }) ⟨[], []⟩ Try.f55 [(true, kT)] [(true, kT)] true x
theorem r55_eq : r55 = m55 := by kernel_rfl

theorem c55 : CS.Sound Try.prog 55 ⟨[(true, kT)], [(true, kT)], true, m55⟩ := afun_sound' (Env.Sound.deepen (envOf_sound (CSs.cons c25 (CSs.nil)) (HDs.cons (OM.Sound.hd c30) (HDs.nil)) (IDs.nil)) [79]) rfl Try.follows (f := 55) (fn := Try.f55) Try.func55 (by kernel_rfl) (by kernel_rfl) r55_eq
end Go.Proofs.Ytecadglgkhfaaaa
end

section
namespace Go.Proofs
open Go.Shelf
def Try.sortInt_ren : Go.Shelf.Ren := ⟨fun | 189 => 94 | 125 => 99 | 257 => 98 | 128 => 109 | 129 => 110 | 294 => 100 | 295 => 101 | 296 => 102 | 297 => 103 | 298 => 104 | 299 => 105 | 216 => 106 | 300 => 107 | 301 => 108 | 328 => 111 | 329 => 112 | 330 => 113 | 331 => 114 | 332 => 115 | 215 => 116 | 343 => 117 | n => n, fun | 28 => 22 | 3 => 3 | 46 => 111 | 0 => 0 | 51 => 115 | 53 => 118 | 4 => 4 | 183 => 125 | 182 => 124 | 131 => 64 | 5 => 5 | 9 => 9 | 218 => 132 | 222 => 136 | 228 => 138 | 229 => 139 | n => n, fun | n => n⟩
theorem Try.sortInt : Go.Proofs.Lays.n189 Try.prog Try.sortInt_ren := {
  mixed := by kernel_rfl
  f125 := Try.func99.trans (congrArg some (by kernel_rfl))
  f128 := Try.func109.trans (congrArg some (by kernel_rfl))
  f129 := Try.func110.trans (congrArg some (by kernel_rfl))
  f189 := Try.func94.trans (congrArg some (by kernel_rfl))
  f215 := Try.func116.trans (congrArg some (by kernel_rfl))
  f216 := Try.func106.trans (congrArg some (by kernel_rfl))
  f257 := Try.func98.trans (congrArg some (by kernel_rfl))
  f294 := Try.func100.trans (congrArg some (by kernel_rfl))
  f295 := Try.func101.trans (congrArg some (by kernel_rfl))
  f296 := Try.func102.trans (congrArg some (by kernel_rfl))
  f297 := Try.func103.trans (congrArg some (by kernel_rfl))
  f298 := Try.func104.trans (congrArg some (by kernel_rfl))
  f299 := Try.func105.trans (congrArg some (by kernel_rfl))
  f300 := Try.func107.trans (congrArg some (by kernel_rfl))
  f301 := Try.func108.trans (congrArg some (by kernel_rfl))
  f328 := Try.func111.trans (congrArg some (by kernel_rfl))
  f329 := Try.func112.trans (congrArg some (by kernel_rfl))
  f330 := Try.func113.trans (congrArg some (by kernel_rfl))
  f331 := Try.func114.trans (congrArg some (by kernel_rfl))
  f332 := Try.func115.trans (congrArg some (by kernel_rfl))
  f343 := Try.func117.trans (congrArg some (by kernel_rfl))
  t0 := Try.underlying0
  a0 := Try.isAgg0
  z0 := Try.sizeOf0
  v0 := Try.zeroValue0
  t3 := Try.underlying3
  a3 := Try.isAgg3
  z3 := Try.sizeOf3
  v3 := Try.zeroValue3
  t4 := Try.underlying4
  a4 := Try.isAgg4
  z4 := Try.sizeOf4
  v4 := Try.zeroValue4
  t5 := Try.underlying5
  a5 := Try.isAgg5
  z5 := Try.sizeOf5
  v5 := Try.zeroValue5
  t9 := Try.underlying9
  a9 := Try.isAgg9
  z9 := Try.sizeOf9
  v9 := Try.zeroValue9
  t28 := Try.underlying22
  a28 := Try.isAgg22
  z28 := Try.sizeOf22
  v28 := Try.zeroValue22
  t46 := Try.underlying111
  a46 := Try.isAgg111
  z46 := Try.sizeOf111
  v46 := Try.zeroValue111
  t51 := Try.underlying115
  a51 := Try.isAgg115
  z51 := Try.sizeOf115
  v51 := Try.zeroValue115
  t53 := Try.underlying118
  a53 := Try.isAgg118
  z53 := Try.sizeOf118
  v53 := Try.zeroValue118
  t131 := Try.underlying64
  a131 := Try.isAgg64
  z131 := Try.sizeOf64
  v131 := Try.zeroValue64
  t182 := Try.underlying124
  a182 := Try.isAgg124
  z182 := Try.sizeOf124
  v182 := Try.zeroValue124
  t183 := Try.underlying125
  a183 := Try.isAgg125
  z183 := Try.sizeOf125
  v183 := Try.zeroValue125
  t218 := Try.underlying132
  a218 := Try.isAgg132
  z218 := Try.sizeOf132
  v218 := Try.zeroValue132
  t222 := Try.underlying136
  a222 := Try.isAgg136
  z222 := Try.sizeOf136
  v222 := Try.zeroValue136
  t228 := Try.underlying138
  a228 := Try.isAgg138
  z228 := Try.sizeOf138
  v228 := Try.zeroValue138
  t229 := Try.underlying139
  a229 := Try.isAgg139
  z229 := Try.sizeOf139
  v229 := Try.zeroValue139 }
def Try.contI_ren : Go.Shelf.Ren := ⟨fun | 31 => 76 | 29 => 80 | n => n, fun | 22 => 22 | 23 => 3 | 4 => 4 | 3 => 3 | 0 => 0 | n => n, fun | n => n⟩
theorem Try.contI : Go.Proofs.SlLaysE.n31 Try.prog Try.contI_ren := {
  mixed := by kernel_rfl
  f29 := ⟨Try.f80.name, by decide, Try.func80.trans (congrArg some (by kernel_rfl))⟩
  f31 := ⟨Try.f76.name, by decide, Try.func76.trans (congrArg some (by kernel_rfl))⟩
  t0 := Try.underlying0
  a0 := Try.isAgg0
  z0 := Try.sizeOf0
  v0 := Try.zeroValue0
  t3 := Try.underlying3
  a3 := Try.isAgg3
  z3 := Try.sizeOf3
  v3 := Try.zeroValue3
  t4 := Try.underlying4
  a4 := Try.isAgg4
  z4 := Try.sizeOf4
  v4 := Try.zeroValue4
  t22 := Try.underlying22
  a22 := Try.isAgg22
  z22 := Try.sizeOf22
  v22 := Try.zeroValue22
  a23 := Try.isAgg3
  z23 := Try.sizeOf3 }
def Try.delI_ren : Go.Shelf.Ren := ⟨fun | 10 => 85 | 6 => 81 | n => n, fun | 22 => 22 | 23 => 3 | 25 => 84 | 3 => 3 | 4 => 4 | 0 => 0 | n => n, fun | n => n⟩
theorem Try.delI : Go.Proofs.SlLaysH.n10 Try.prog Try.delI_ren := {
  mixed := by kernel_rfl
  f6 := ⟨Try.f81.name, by decide, Try.func81.trans (congrArg some (by kernel_rfl))⟩
  f10 := ⟨Try.f85.name, by decide, Try.func85.trans (congrArg some (by kernel_rfl))⟩
  t0 := Try.underlying0
  a0 := Try.isAgg0
  z0 := Try.sizeOf0
  v0 := Try.zeroValue0
  t3 := Try.underlying3
  a3 := Try.isAgg3
  z3 := Try.sizeOf3
  v3 := Try.zeroValue3
  t4 := Try.underlying4
  a4 := Try.isAgg4
  z4 := Try.sizeOf4
  v4 := Try.zeroValue4
  t22 := Try.underlying22
  a22 := Try.isAgg22
  z22 := Try.sizeOf22
  v22 := Try.zeroValue22
  a23 := Try.isAgg3
  z23 := Try.sizeOf3
  t25 := Try.underlying84
  a25 := Try.isAgg84
  z25 := Try.sizeOf84
  v25 := Try.zeroValue84 }
end Go.Proofs
end

section
open Go Go.Proofs.AM Go.Shelf Go.RowKit Go.Lib Go.Sort
namespace Go.Proofs.Ytecadglgkhfaaaa
theorem s94 : (sortIHD 3).Sound Try.prog 94 := sortIHD_sound Try.sortInt rfl (fun args w => enters_of Try.func94 (by kernel_rfl) rfl args w)

theorem cont76 (A : Option Addr) (c : Nat) (ys : List Int) (x : Int) (W : World) (hrow : ys.length = 0 ∨ ∃ b off, A = some ⟨b, off, none⟩ ∧ ∀ j, j < ys.length → W.cell? ⟨b, off + j, none⟩ = some (.int .i64 ys[j]!)) (hl : ys.length ≤ 140737488355328) :
    Calls Try.prog 76 #[.slice A ys.length c, .int .i64 x] W fun e w' => e = .returned (.bool (decide (x ∈ ys))) ∧ w' = W := by
  rcases hrow with h0 | ⟨b, off, rfl, hc⟩
  · rw [h0]
    obtain rfl : ys = [] := List.length_eq_zero_iff.1 h0
    exact (AnyE.slices_Contains_empty Try.contI A c (.int .i64 x) W).mono fun e w' ⟨h1, h2⟩ => ⟨by rw [h1]; simp, h2⟩
  · refine (AnyE.slices_Contains Try.contI (Value.int .i64) (fun x y => x == y) (EqlAt.int _ _ .i64) b off ys.length c ys x W (Nat.le_refl _) (by omega) hc).mono fun e w' ⟨h1, h2⟩ => ⟨?_, h2⟩
    rw [h1, List.take_length]
    congr 2
    rw [Bool.eq_iff_iff]
    simp [List.any_eq_true]

theorem in86 : InRow Try.prog 86 := ⟨fun args w => enters_of Try.func86 (by kernel_rfl) rfl args w, fun B o A c ys x W hc hrow hl => by
  show Calls Try.prog 86 #[.int .i64 x, .pointer (some ⟨B, o, none⟩)] W _
  have hcon := fun W' hr => cont76 A c ys x W' hr hl
  have hcon := hcon W hrow
  clear hrow
  generalize ys.length = n at hc hcon
  generalize decide (x ∈ ys) = d at hcon ⊢
  go_enter Try.func86, Try.ntmps86
  go_wp2_with (go_at_call 76; refine hcon.mono ?_; rintro e w' ⟨rfl, rfl⟩)
  all_goals (go_ret; exact ⟨rfl, 0, rfl⟩)⟩

theorem del85 : DelEmpty Try.prog 85 := fun A c fv w => by
  have h := AnyE.slices_IndexFunc_empty (P := Try.prog) (ρ := Try.delI_ren) { Try.delI with } A c fv w
  change Calls Try.prog 81 _ _ _ at h
  go_enter Try.func85, Try.ntmps85
  go_wp2_with (go_at_call 81; refine h.mono ?_; rintro e w' ⟨rfl, rfl⟩)
  all_goals (go_ret; exact ⟨rfl, rfl⟩)

theorem s85 : (delIHD 3 86).Sound Try.prog 85 := delIHD_sound Try.delI rfl (fun args w => enters_of Try.func85 (by kernel_rfl) rfl args w) Try.delI.v3 in86 del85
end Go.Proofs.Ytecadglgkhfaaaa
end

section
open Go Go.Proofs.AM
namespace Go.Proofs.Ytecadglgkhfaaaa

noncomputable def m77 (x : tT × Unit) : Option (List Int) :=
 Option.bind (m55 (x.1, ())) fun (y1 : (tT × Unit)) =>
 gd ((((List.length (y1.1.2.2.2.2.2.1.1 :: ([] : List Int))) + (List.length y1.1.2.2.2.1)) * 8) ≤ 140737488355328) (gd (((List.length (y1.1.2.2.2.2.2.1.1 :: ([] : List Int))) + (List.length y1.1.2.2.2.1)) ≤ 140737488355328) (Option.bind (loopM (X := ((List Int) × Int)) (E := (List Int)) (fun (x2 : ((List Int) × Int)) =>
 bif (decide (x2.2 < (((List.length ((y1.1.2.2.2.2.2.1.1 :: ([] : List Int)) ++ y1.1.2.2.2.1)) : Nat) : Int))) then
 (gd ((0 : Int) ≤ x2.2) (gd (x2.2 < (((List.length ((y1.1.2.2.2.2.2.1.1 :: ([] : List Int)) ++ y1.1.2.2.2.1)) : Nat) : Int)) (gd ((Int.toNat x2.2) < (List.length ((y1.1.2.2.2.2.2.1.1 :: ([] : List Int)) ++ y1.1.2.2.2.1))) (bif (decide ((List.getD ((y1.1.2.2.2.2.2.1.1 :: ([] : List Int)) ++ y1.1.2.2.2.1) (Int.toNat x2.2) (0 : Int)) ≥ (0 : Int))) then
 (gd ((((List.length x2.1) + (List.length ((List.getD ((y1.1.2.2.2.2.2.1.1 :: ([] : List Int)) ++ y1.1.2.2.2.1) (Int.toNat x2.2) (0 : Int)) :: ([] : List Int)))) * 8) ≤ 140737488355328) (gd (((List.length x2.1) + (List.length ((List.getD ((y1.1.2.2.2.2.2.1.1 :: ([] : List Int)) ++ y1.1.2.2.2.1) (Int.toNat x2.2) (0 : Int)) :: ([] : List Int)))) ≤ 140737488355328) (some (Sum.inl ((x2.1 ++ ((List.getD ((y1.1.2.2.2.2.2.1.1 :: ([] : List Int)) ++ y1.1.2.2.2.1) (Int.toNat x2.2) (0 : Int)) :: ([] : List Int))), (Go.IntKind.wrap .i64 (x2.2 + (1 : Int))))))))
 else
 (some (Sum.inl (x2.1, (Go.IntKind.wrap .i64 (x2.2 + (1 : Int))))))))))
 else
 (some (Sum.inr x2.1))) (([] : List Int), (0 : Int))) fun (y2 : (List Int)) =>
 Option.bind (loopM (X := ((List Int) × Int)) (E := (List Int)) (fun (x3 : ((List Int) × Int)) =>
 bif (decide (x3.2 < (((List.length y1.1.2.2.2.2.2.2) : Nat) : Int))) then
 (gd ((0 : Int) ≤ x3.2) (gd (x3.2 < (((List.length y1.1.2.2.2.2.2.2) : Nat) : Int)) (gd ((((List.length x3.1) + (List.length ((List.getD y1.1.2.2.2.2.2.2 (Int.toNat x3.2) ((0 : Int), ([] : List Int))).1 :: ([] : List Int)))) * 8) ≤ 140737488355328) (gd (((List.length x3.1) + (List.length ((List.getD y1.1.2.2.2.2.2.2 (Int.toNat x3.2) ((0 : Int), ([] : List Int))).1 :: ([] : List Int)))) ≤ 140737488355328) (some (Sum.inl ((x3.1 ++ ((List.getD y1.1.2.2.2.2.2.2 (Int.toNat x3.2) ((0 : Int), ([] : List Int))).1 :: ([] : List Int))), (Go.IntKind.wrap .i64 (x3.2 + (1 : Int))))))))))
 else
 (some (Sum.inr x3.1))) (y2, (0 : Int))) fun (y3 : (List Int)) =>
 Option.bind (gd ((List.length y3) ≤ 140737488355328) (some (sortI y3))) fun (y4 : (List Int)) =>
 some y4))

noncomputable def r77 : PDen [(true, kT)] → Option (List (K.den (.int .i64))) := fun x => afunO Try.prog ({ envOf [(55, ⟨[(true, kT)], [(true, kT)], true, m55⟩)] [(94, sortIHD 3)] [] [] with deep := [79] }) ⟨[(0, ⟨[.slot 3 (.v 3 (.int .i64) true), .slot 18 (.d false (.int .i64) true)], [], [(some 0, [.slot 3 (.v 3 (.int .i64) true)])], none⟩), (2, ⟨[.slot 3 (.v 3 (.int .i64) true), .slot 32 (.d false (.int .i64) true)], [3], [(some 2, [.slot 3 (.v 3 (.int .i64) true)])], none⟩)], []⟩ Try.f77 [(true, kT)] 3 (.int .i64) false x
theorem r77_eq : r77 = m77 := by kernel_rfl

theorem c77 : OS.Sound Try.prog 77 ⟨[(true, kT)], 3, (.int .i64), false, m77⟩ := afunO_sound' (Env.Sound.deepen (envOf_sound (CSs.cons c55 (CSs.nil)) (HDs.cons s94 (HDs.nil)) (IDs.nil)) [79]) rfl Try.follows (f := 77) (fn := Try.f77) Try.func77 (by kernel_rfl) (by kernel_rfl) r77_eq
end Go.Proofs.Ytecadglgkhfaaaa
end

section
open Go Go.Proofs.AM
namespace Go.Proofs.Ytecadglgkhfaaaa

noncomputable def m47 (x : tT × Int × Unit) : Option (Bool × Unit) :=
 Option.bind (m40 (x.2.1, ((0 : Int), ((255 : Int), ())))) fun (y1 : (Bool × Unit)) =>
 bif y1.1 then
 (Option.bind (m77 (x.1, ())) fun (y2 : (List Int)) =>
 Option.bind (m76 (y2, (x.2.1, ()))) fun (y3 : (Bool × Unit)) =>
 some ((!y3.1), ()))
 else
 (some (false, ()))

noncomputable def r47 : PDen [(true, kT), (false, (.int .i64))] → Option (PDen [(false, .bool)]) := fun x => afun Try.prog ({ envOf [(40, ⟨[(false, (.int .i64)), (false, (.int .i64)), (false, (.int .i64))], [(false, .bool)], false, m40⟩), (76, ⟨[(false, (.sl (.int .i64))), (false, (.int .i64))], [(false, .bool)], false, m76⟩)] [(77, OS.hd ⟨[(true, kT)], 3, (.int .i64), false, m77⟩)] [] [] with deep := [79] }) ⟨[], []⟩ Try.f47 [(true, kT), (false, (.int .i64))] [(false, .bool)] false x
theorem r47_eq : r47 = m47 := by kernel_rfl

theorem c47 : CS.Sound Try.prog 47 ⟨[(true, kT), (false, (.int .i64))], [(false, .bool)], false, m47⟩ := afun_sound' (Env.Sound.deepen (envOf_sound (CSs.cons c40 (CSs.cons c76 (CSs.nil))) (HDs.cons (OS.Sound.hd c77) (HDs.nil)) (IDs.nil)) [79]) rfl Try.follows (f := 47) (fn := Try.f47) Try.func47 (by kernel_rfl) (by kernel_rfl) r47_eq
end Go.Proofs.Ytecadglgkhfaaaa
end

section
open Go Go.Proofs.AM
namespace Go.Proofs.Ytecadglgkhfaaaa

noncomputable def m78 (x : (List Int) × Unit) : Option (List Int) :=
 both (bif (decide ((((List.length x.1) : Nat) : Int) = (0 : Int))) then
 (some ([] : List Int))
 else
 (gd ((((List.length ([] : List Int)) + (List.length x.1)) * 8) ≤ 140737488355328) (gd (((List.length ([] : List Int)) + (List.length x.1)) ≤ 140737488355328) (some (([] : List Int) ++ x.1))))) (gd ((((List.length ([] : List Int)) + (List.length x.1)) * 8) ≤ 140737488355328) (gd (((List.length ([] : List Int)) + (List.length x.1)) ≤ 140737488355328) (some (([] : List Int) ++ x.1))))

noncomputable def clo (t : tT) : Option eT :=
  (loopM (X := (Int × eT)) (E := eT) (fun (x3 : (Int × eT)) =>
                      bif (decide (x3.1 < (((List.length t.2.2.2.2.2.2) : Nat) : Int))) then
                        (gd ((0 : Int) ≤ x3.1) (gd (x3.1 < (((List.length t.2.2.2.2.2.2) : Nat) : Int)) (Option.bind (m78 ((List.getD t.2.2.2.2.2.2 (Int.toNat x3.1) ((0 : Int), ([] : List Int))).2, ())) fun (y4 : (List Int)) =>
                            gd ((((List.length x3.2.2.2.2.2.2.2.2.2) + 1) * 32) ≤ 140737488355328) (gd (((List.length x3.2.2.2.2.2.2.2.2.2) + 1) ≤ 140737488355328) (some (Sum.inl ((Go.IntKind.wrap .i64 (x3.1 + (1 : Int))), (x3.2.1, (x3.2.2.1, (x3.2.2.2.1, (x3.2.2.2.2.1, (x3.2.2.2.2.2.1, (x3.2.2.2.2.2.2.1, (x3.2.2.2.2.2.2.2.1, (x3.2.2.2.2.2.2.2.2.1, (x3.2.2.2.2.2.2.2.2.2 ++ (((List.getD t.2.2.2.2.2.2 (Int.toNat x3.1) ((0 : Int), ([] : List Int))).1, y4) :: ([] : List (Int × (List Int))))))))))))))))))))
                      else
                        (some (Sum.inr (x3.2.1, (x3.2.2.1, (x3.2.2.2.1, (x3.2.2.2.2.1, (x3.2.2.2.2.2.1, (x3.2.2.2.2.2.2.1, (x3.2.2.2.2.2.2.2.1, (x3.2.2.2.2.2.2.2.2.1, x3.2.2.2.2.2.2.2.2.2))))))))))) ((0 : Int), (t.1, (t.2.1, (t.2.2.1, (((List.take (List.length (List.replicate (Int.toNat (((List.length t.2.2.2.1) : Nat) : Int)) (0 : Int))) t.2.2.2.1) ++ (List.drop (List.length t.2.2.2.1) (List.replicate (Int.toNat (((List.length t.2.2.2.1) : Nat) : Int)) (0 : Int)))), (((List.take (List.length (List.replicate (Int.toNat (((List.length t.2.2.2.2.1) : Nat) : Int)) false)) t.2.2.2.2.1) ++ (List.drop (List.length t.2.2.2.2.1) (List.replicate (Int.toNat (((List.length t.2.2.2.2.1) : Nat) : Int)) false))), (t.2.2.2.2.2.1.1, (t.2.2.2.2.2.1.2.1, (t.2.2.2.2.2.1.2.2, ([] : List (Int × (List Int)))))))))))))

noncomputable def r78 : PDen [(false, (.sl (.int .i64)))] → Option (List (K.den (.int .i64))) := fun x => afunO Try.prog ({ envOf [] [] [] [] with deep := [79] }) ⟨[], []⟩ Try.f78 [(false, (.sl (.int .i64)))] 3 (.int .i64) false x
theorem r78_eq : r78 = m78 := by kernel_rfl

theorem c78 : OS.Sound Try.prog 78 ⟨[(false, (.sl (.int .i64)))], 3, (.int .i64), false, m78⟩ := afunO_sound' (Env.Sound.deepen (envOf_sound (CSs.nil) (HDs.nil) (IDs.nil)) [79]) rfl Try.follows (f := 78) (fn := Try.f78) Try.func78 (by kernel_rfl) (by kernel_rfl) r78_eq
end Go.Proofs.Ytecadglgkhfaaaa
end

section
open Go Go.Proofs.AM
namespace Go.Proofs.Ytecadglgkhfaaaa

noncomputable def m15t (x : tT × (Int × Int) × Int × Unit) (y3 : eT) : Option (tT × (Int × Unit)) :=
 (bif (decide (x.2.1.1 = (4 : Int))) then
 (bif (decide ((((List.length y3.2.2.2.2.2.2.2.2) : Nat) : Int) < y3.2.2.1)) then
 (Option.bind (m49 ((y3.1, (y3.2.1, (y3.2.2.1, (y3.2.2.2.1, (y3.2.2.2.2.1, ((y3.2.2.2.2.2.1, (y3.2.2.2.2.2.2.1, y3.2.2.2.2.2.2.2.1)), y3.2.2.2.2.2.2.2.2)))))), ())) fun (y5 : (Bool × Unit)) =>
 bif (!y5.1) then
 (gd ((((List.length y3.2.2.2.2.2.2.2.2) + 1) * 32) ≤ 140737488355328) (gd (((List.length y3.2.2.2.2.2.2.2.2) + 1) ≤ 140737488355328) (some ((y3.1, (y3.2.1, (y3.2.2.1, (y3.2.2.2.1, (y3.2.2.2.2.1, ((y3.2.2.2.2.2.1, (y3.2.2.2.2.2.2.1, y3.2.2.2.2.2.2.2.1)), (y3.2.2.2.2.2.2.2.2 ++ ((x.2.2.1, ([] : List Int)) :: ([] : List (Int × (List Int))))))))))), ((0 : Int), ())))))
 else
 (some (((0 : Int), ((0 : Int), ((0 : Int), (([] : List Int), (([] : List Bool), (((0 : Int), ((0 : Int), (0 : Int))), ([] : List (Int × (List Int))))))))), ((51 : Int), ()))))
 else
 (some (((0 : Int), ((0 : Int), ((0 : Int), (([] : List Int), (([] : List Bool), (((0 : Int), ((0 : Int), (0 : Int))), ([] : List (Int × (List Int))))))))), ((51 : Int), ()))))
 else
 (some (((0 : Int), ((0 : Int), ((0 : Int), (([] : List Int), (([] : List Bool), (((0 : Int), ((0 : Int), (0 : Int))), ([] : List (Int × (List Int))))))))), ((51 : Int), ()))))

noncomputable def m15 (x : tT × (Int × Int) × Int × Unit) : Option (tT × (Int × Unit)) :=
 Option.bind (m25 (x.1, ())) fun (y1 : (Int × Unit)) =>
 bif (!(decide (y1.1 = (0 : Int)))) then
 (some (((0 : Int), ((0 : Int), ((0 : Int), (([] : List Int), (([] : List Bool), (((0 : Int), ((0 : Int), (0 : Int))), ([] : List (Int × (List Int))))))))), (y1.1, ())))
 else
 (Option.bind (m47 (x.1, (x.2.2.1, ()))) fun (y2 : (Bool × Unit)) =>
 bif (!y2.1) then
 (some (((0 : Int), ((0 : Int), ((0 : Int), (([] : List Int), (([] : List Bool), (((0 : Int), ((0 : Int), (0 : Int))), ([] : List (Int × (List Int))))))))), ((1 : Int), ())))
 else
 (gd ((0 : Int) ≤ (((List.length x.1.2.2.2.1) : Nat) : Int)) (gd ((((List.length x.1.2.2.2.1) : Nat) : Int) ≤ (((List.length x.1.2.2.2.1) : Nat) : Int)) (gd (((((List.length x.1.2.2.2.1) : Nat) : Int) * (8 : Int)) ≤ (140737488355328 : Int)) (gd ((0 : Int) ≤ (((List.length x.1.2.2.2.2.1) : Nat) : Int)) (gd ((((List.length x.1.2.2.2.2.1) : Nat) : Int) ≤ (((List.length x.1.2.2.2.2.1) : Nat) : Int)) (gd (((((List.length x.1.2.2.2.2.1) : Nat) : Int) * (1 : Int)) ≤ (140737488355328 : Int)) (Option.bind (clo x.1) fun (y3 : eT) =>
 bif (decide (x.2.1.1 = (3 : Int))) then
 (bif (decide (y3.2.2.2.2.2.1 < (0 : Int))) then
 (Option.bind (m40 (x.2.1.2, ((0 : Int), ((Go.IntKind.wrap .i64 (y3.2.1 - (1 : Int))), ())))) fun (y4 : (Bool × Unit)) =>
 bif y4.1 then
 (some ((y3.1, (y3.2.1, (y3.2.2.1, (y3.2.2.2.1, (y3.2.2.2.2.1, ((x.2.2.1, (x.2.1.2, (0 : Int))), y3.2.2.2.2.2.2.2.2)))))), ((0 : Int), ())))
 else
 (m15t x y3))
 else
 (m15t x y3))
 else
 (m15t x y3)))))))))

noncomputable def i15_48 : ID := aInl Try.prog ({ envOf [] [(78, OS.hd ⟨[(false, (.sl (.int .i64)))], 3, (.int .i64), false, m78⟩)] [] [] with deep := [79] }) ⟨[(9000, ⟨[.slot 31 (.d false (.int .i64) true), .cell 5 0 (.d false (.int .i64) true), .cell 5 1 (.d false (.int .i64) true), .cell 5 2 (.d false (.int .i64) true), .cell 5 3 (.v 3 (.int .i64) true), .cell 5 4 (.v 4 .bool true), .cell 5 5 (.d false (.int .i64) true), .cell 5 6 (.d false (.int .i64) true), .cell 5 7 (.d false (.int .i64) true), .cell 5 8 (.h 79 3 (.int .i64) (.int .i64))], [6, 7], [(some 0, [.cell 5 0 (.d false (.int .i64) true), .cell 5 1 (.d false (.int .i64) true), .cell 5 2 (.d false (.int .i64) true), .cell 5 3 (.v 3 (.int .i64) true), .cell 5 4 (.v 4 .bool true), .cell 5 5 (.d false (.int .i64) true), .cell 5 6 (.d false (.int .i64) true), .cell 5 7 (.d false (.int .i64) true), .cell 5 8 (.h 79 3 (.int .i64) (.int .i64))])], none⟩)], []⟩ Try.f48
noncomputable def r15 : PDen [(true, kT), (true, (.pair (.int .i64) (.int .i64))), (false, (.int .i64))] → Option (PDen [(true, kT), (false, (.int .i64))]) := fun x => afun Try.prog ({ envOf [(25, ⟨[(true, kT)], [(false, (.int .i64))], false, m25⟩), (40, ⟨[(false, (.int .i64)), (false, (.int .i64)), (false, (.int .i64))], [(false, .bool)], false, m40⟩), (47, ⟨[(true, kT), (false, (.int .i64))], [(false, .bool)], false, m47⟩), (49, ⟨[(true, kT)], [(false, .bool)], false, m49⟩)] [] [] [(48, i15_48)] with deep := [79] }) ⟨[], []⟩ Try.f15 [(true, kT), (true, (.pair (.int .i64) (.int .i64))), (false, (.int .i64))] [(true, kT), (false, (.int .i64))] false x
theorem r15_eq : r15 = m15 := by kernel_rfl

theorem i15_48_sound : i15_48.Sound Try.prog 48 := aInl_sound' (Env.Sound.deepen (envOf_sound (CSs.nil) (HDs.cons (OS.Sound.hd c78) (HDs.nil)) (IDs.nil)) [79]) Try.follows (f := 48) (fn := Try.f48) Try.func48 (by kernel_rfl) (by kernel_rfl)
theorem c15 : CS.Sound Try.prog 15 ⟨[(true, kT), (true, (.pair (.int .i64) (.int .i64))), (false, (.int .i64))], [(true, kT), (false, (.int .i64))], false, m15⟩ := afun_sound' (Env.Sound.deepen (envOf_sound (CSs.cons c25 (CSs.cons c40 (CSs.cons c47 (CSs.cons c49 (CSs.nil))))) (HDs.nil) (IDs.cons i15_48_sound (IDs.nil))) [79]) rfl Try.follows (f := 15) (fn := Try.f15) Try.func15 (by kernel_rfl) (by kernel_rfl) r15_eq
end Go.Proofs.Ytecadglgkhfaaaa
end

section
open Go Go.Proofs.AM
namespace Go.Proofs.Ytecadglgkhfaaaa

noncomputable def m18f (n : Int) (G : List (Int × (List Int))) : Option (List (Int × (List Int))) :=
 (loopM (X := (Int × (List (Int × (List Int))))) (E := (List (Int × (List Int)))) (fun (x4 : (Int × (List (Int × (List Int))))) =>
 bif (decide (x4.1 < (((List.length G) : Nat) : Int))) then
 (gd ((0 : Int) ≤ x4.1) (gd (x4.1 < (((List.length G) : Nat) : Int)) (gd ((Int.toNat x4.1) < (List.length x4.2)) (Option.bind (loopM (X := (Int × (List (Int × (List Int))))) (E := (List (Int × (List Int)))) (fun (x5 : (Int × (List (Int × (List Int))))) =>
 bif (decide (x5.1 < (((List.length (ith (A := Int) (ki := (.int .i64)) x4.2 (Int.toNat x4.1))) : Nat) : Int))) then
 (gd ((0 : Int) ≤ x5.1) (gd (x5.1 < (((List.length (ith (A := Int) (ki := (.int .i64)) x5.2 (Int.toNat x4.1))) : Nat) : Int)) (gd ((Int.toNat x5.1) < (List.length (ith (A := Int) (ki := (.int .i64)) x5.2 (Int.toNat x4.1)))) (bif (decide ((List.getD (ith (A := Int) (ki := (.int .i64)) x5.2 (Int.toNat x4.1)) (Int.toNat x5.1) (0 : Int)) ≥ (0 : Int))) then
 (bif (decide ((List.getD (ith (A := Int) (ki := (.int .i64)) x5.2 (Int.toNat x4.1)) (Int.toNat x5.1) (0 : Int)) = n)) then
 (gd ((0 : Int) ≤ x5.1) (gd (x5.1 < (((List.length (ith (A := Int) (ki := (.int .i64)) x5.2 (Int.toNat x4.1))) : Nat) : Int)) (gd ((Int.toNat x5.1) < (List.length (ith (A := Int) (ki := (.int .i64)) x5.2 (Int.toNat x4.1)))) (some (Sum.inl ((Go.IntKind.wrap .i64 (x5.1 + (1 : Int))), (setIn (A := Int) (ki := (.int .i64)) x5.2 (Int.toNat x4.1) (List.set (ith (A := Int) (ki := (.int .i64)) x5.2 (Int.toNat x4.1)) (Int.toNat x5.1) (-1 : Int)))))))))
 else
 (some (Sum.inl ((Go.IntKind.wrap .i64 (x5.1 + (1 : Int))), x5.2))))
 else
 (some (Sum.inl ((Go.IntKind.wrap .i64 (x5.1 + (1 : Int))), x5.2)))))))
 else
 (some (Sum.inr x5.2))) ((0 : Int), x4.2)) fun (y5 : (List (Int × (List Int)))) =>
 some (Sum.inl ((Go.IntKind.wrap .i64 (x4.1 + (1 : Int))), y5))))))
 else
 (some (Sum.inr x4.2))) ((0 : Int), G))

noncomputable def m18t (x : tT × (Int × Int) × Int × Unit) (y3 : eT) (y4 : List (Int × (List Int))) : Option (tT × ((Int × Int) × (Int × Unit))) :=
 (bif (decide (x.2.1.1 = (2 : Int))) then
 (Option.bind (m49 ((y3.1, (y3.2.1, (y3.2.2.1, (y3.2.2.2.1, (y3.2.2.2.2.1, ((y3.2.2.2.2.2.1, (y3.2.2.2.2.2.2.1, y3.2.2.2.2.2.2.2.1)), y4)))))), ())) fun (y5 : (Bool × Unit)) =>
 bif y5.1 then
 (gd ((0 : Int) ≤ (Go.IntKind.wrap .i64 ((((List.length y3.2.2.2.2.2.2.2.2) : Nat) : Int) - (1 : Int)))) (gd ((Go.IntKind.wrap .i64 ((((List.length y3.2.2.2.2.2.2.2.2) : Nat) : Int) - (1 : Int))) < (((List.length y3.2.2.2.2.2.2.2.2) : Nat) : Int)) (gd ((Int.toNat (Go.IntKind.wrap .i64 ((((List.length y3.2.2.2.2.2.2.2.2) : Nat) : Int) - (1 : Int)))) < (List.length y4)) (gd ((((List.length (ith (A := Int) (ki := (.int .i64)) y4 (Int.toNat (Go.IntKind.wrap .i64 ((((List.length y3.2.2.2.2.2.2.2.2) : Nat) : Int) - (1 : Int)))))) + (List.length (x.2.2.1 :: ([] : List Int)))) * 8) ≤ 140737488355328) (gd (((List.length (ith (A := Int) (ki := (.int .i64)) y4 (Int.toNat (Go.IntKind.wrap .i64 ((((List.length y3.2.2.2.2.2.2.2.2) : Nat) : Int) - (1 : Int)))))) + (List.length (x.2.2.1 :: ([] : List Int)))) ≤ 140737488355328) (gd ((0 : Int) ≤ (Go.IntKind.wrap .i64 ((((List.length y3.2.2.2.2.2.2.2.2) : Nat) : Int) - (1 : Int)))) (gd ((Go.IntKind.wrap .i64 ((((List.length y3.2.2.2.2.2.2.2.2) : Nat) : Int) - (1 : Int))) < (((List.length y3.2.2.2.2.2.2.2.2) : Nat) : Int)) (gd ((Int.toNat (Go.IntKind.wrap .i64 ((((List.length y3.2.2.2.2.2.2.2.2) : Nat) : Int) - (1 : Int)))) = (Int.toNat (Go.IntKind.wrap .i64 ((((List.length y3.2.2.2.2.2.2.2.2) : Nat) : Int) - (1 : Int))))) (gd ((Int.toNat (Go.IntKind.wrap .i64 ((((List.length y3.2.2.2.2.2.2.2.2) : Nat) : Int) - (1 : Int)))) = (Int.toNat (Go.IntKind.wrap .i64 ((((List.length y3.2.2.2.2.2.2.2.2) : Nat) : Int) - (1 : Int))))) (gd ((0 : Int) ≤ (Go.IntKind.wrap .i64 ((((List.length y3.2.2.2.2.2.2.2.2) : Nat) : Int) - (1 : Int)))) (gd ((Go.IntKind.wrap .i64 ((((List.length y3.2.2.2.2.2.2.2.2) : Nat) : Int) - (1 : Int))) < (((List.length y3.2.2.2.2.2.2.2.2) : Nat) : Int)) (gd ((Int.toNat (Go.IntKind.wrap .i64 ((((List.length y3.2.2.2.2.2.2.2.2) : Nat) : Int) - (1 : Int)))) < (List.length (setIn (A := Int) (ki := (.int .i64)) y4 (Int.toNat (Go.IntKind.wrap .i64 ((((List.length y3.2.2.2.2.2.2.2.2) : Nat) : Int) - (1 : Int)))) ((ith (A := Int) (ki := (.int .i64)) y4 (Int.toNat (Go.IntKind.wrap .i64 ((((List.length y3.2.2.2.2.2.2.2.2) : Nat) : Int) - (1 : Int))))) ++ (x.2.2.1 :: ([] : List Int)))))) (gd ((0 : Int) ≤ (Go.IntKind.wrap .i64 ((((List.length y3.2.2.2.2.2.2.2.2) : Nat) : Int) - (1 : Int)))) (gd ((Go.IntKind.wrap .i64 ((((List.length y3.2.2.2.2.2.2.2.2) : Nat) : Int) - (1 : Int))) < (((List.length y3.2.2.2.2.2.2.2.2) : Nat) : Int)) (gd ((Int.toNat (Go.IntKind.wrap .i64 ((((List.length y3.2.2.2.2.2.2.2.2) : Nat) : Int) - (1 : Int)))) < (List.length (setIn (A := Int) (ki := (.int .i64)) y4 (Int.toNat (Go.IntKind.wrap .i64 ((((List.length y3.2.2.2.2.2.2.2.2) : Nat) : Int) - (1 : Int)))) ((ith (A := Int) (ki := (.int .i64)) y4 (Int.toNat (Go.IntKind.wrap .i64 ((((List.length y3.2.2.2.2.2.2.2.2) : Nat) : Int) - (1 : Int))))) ++ (x.2.2.1 :: ([] : List Int)))))) (some ((y3.1, (y3.2.1, (y3.2.2.1, (y3.2.2.2.1, (y3.2.2.2.2.1, ((y3.2.2.2.2.2.1, (y3.2.2.2.2.2.2.1, y3.2.2.2.2.2.2.2.1)), (setIn (A := Int) (ki := (.int .i64)) y4 (Int.toNat (Go.IntKind.wrap .i64 ((((List.length y3.2.2.2.2.2.2.2.2) : Nat) : Int) - (1 : Int)))) ((ith (A := Int) (ki := (.int .i64)) y4 (Int.toNat (Go.IntKind.wrap .i64 ((((List.length y3.2.2.2.2.2.2.2.2) : Nat) : Int) - (1 : Int))))) ++ (x.2.2.1 :: ([] : List Int)))))))))), (((hth (kh := (.int .i64)) (ki := (.int .i64)) (setIn (A := Int) (ki := (.int .i64)) y4 (Int.toNat (Go.IntKind.wrap .i64 ((((List.length y3.2.2.2.2.2.2.2.2) : Nat) : Int) - (1 : Int)))) ((ith (A := Int) (ki := (.int .i64)) y4 (Int.toNat (Go.IntKind.wrap .i64 ((((List.length y3.2.2.2.2.2.2.2.2) : Nat) : Int) - (1 : Int))))) ++ (x.2.2.1 :: ([] : List Int)))) (Int.toNat (Go.IntKind.wrap .i64 ((((List.length y3.2.2.2.2.2.2.2.2) : Nat) : Int) - (1 : Int))))), (Go.IntKind.wrap .i64 ((((List.length (ith (A := Int) (ki := (.int .i64)) (setIn (A := Int) (ki := (.int .i64)) y4 (Int.toNat (Go.IntKind.wrap .i64 ((((List.length y3.2.2.2.2.2.2.2.2) : Nat) : Int) - (1 : Int)))) ((ith (A := Int) (ki := (.int .i64)) y4 (Int.toNat (Go.IntKind.wrap .i64 ((((List.length y3.2.2.2.2.2.2.2.2) : Nat) : Int) - (1 : Int))))) ++ (x.2.2.1 :: ([] : List Int)))) (Int.toNat (Go.IntKind.wrap .i64 ((((List.length y3.2.2.2.2.2.2.2.2) : Nat) : Int) - (1 : Int)))))) : Nat) : Int) - (1 : Int)))), ((0 : Int), ())))))))))))))))))))
 else
 (some (((0 : Int), ((0 : Int), ((0 : Int), (([] : List Int), (([] : List Bool), (((0 : Int), ((0 : Int), (0 : Int))), ([] : List (Int × (List Int))))))))), (((0 : Int), (0 : Int)), ((51 : Int), ())))))
 else
 (some (((0 : Int), ((0 : Int), ((0 : Int), (([] : List Int), (([] : List Bool), (((0 : Int), ((0 : Int), (0 : Int))), ([] : List (Int × (List Int))))))))), (((0 : Int), (0 : Int)), ((51 : Int), ())))))

noncomputable def m18 (x : tT × (Int × Int) × Int × Unit) : Option (tT × ((Int × Int) × (Int × Unit))) :=
 Option.bind (m25 (x.1, ())) fun (y1 : (Int × Unit)) =>
 bif (!(decide (y1.1 = (0 : Int)))) then
 (some (((0 : Int), ((0 : Int), ((0 : Int), (([] : List Int), (([] : List Bool), (((0 : Int), ((0 : Int), (0 : Int))), ([] : List (Int × (List Int))))))))), (((0 : Int), (0 : Int)), (y1.1, ()))))
 else
 (Option.bind (m40 (x.2.2.1, ((0 : Int), ((Go.IntKind.wrap .i64 ((((List.length x.1.2.2.2.2.1) : Nat) : Int) - (1 : Int))), ())))) fun (y2 : (Bool × Unit)) =>
 bif (!y2.1) then
 (some (((0 : Int), ((0 : Int), ((0 : Int), (([] : List Int), (([] : List Bool), (((0 : Int), ((0 : Int), (0 : Int))), ([] : List (Int × (List Int))))))))), (((0 : Int), (0 : Int)), ((1 : Int), ()))))
 else
 (gd ((0 : Int) ≤ (((List.length x.1.2.2.2.1) : Nat) : Int)) (gd ((((List.length x.1.2.2.2.1) : Nat) : Int) ≤ (((List.length x.1.2.2.2.1) : Nat) : Int)) (gd (((((List.length x.1.2.2.2.1) : Nat) : Int) * (8 : Int)) ≤ (140737488355328 : Int)) (gd ((0 : Int) ≤ (((List.length x.1.2.2.2.2.1) : Nat) : Int)) (gd ((((List.length x.1.2.2.2.2.1) : Nat) : Int) ≤ (((List.length x.1.2.2.2.2.1) : Nat) : Int)) (gd (((((List.length x.1.2.2.2.2.1) : Nat) : Int) * (1 : Int)) ≤ (140737488355328 : Int)) (Option.bind (clo x.1) fun (y3 : eT) =>
 Option.bind (m18f x.2.2.1 y3.2.2.2.2.2.2.2.2) fun (y4 : (List (Int × (List Int)))) =>
 bif (decide (x.2.1.1 = (1 : Int))) then
 (bif (decide (y3.2.2.2.2.2.1 ≥ (0 : Int))) then
 (if y3.1 = (0 : Int) then
 (none)
 else
 (bif (decide (y3.2.2.2.2.2.2.1 = (Go.IntKind.wrap .i64 (Int.tdiv x.2.2.1 y3.1)))) then
 (if y3.1 = (0 : Int) then
 (none)
 else
 (bif (decide (y3.2.2.2.2.2.2.2.1 = (Int.tmod x.2.2.1 y3.1))) then
 (some ((y3.1, (y3.2.1, (y3.2.2.1, (y3.2.2.2.1, (y3.2.2.2.2.1, ((y3.2.2.2.2.2.1, (y3.2.2.2.2.2.2.1, (Go.IntKind.wrap .i64 (y3.2.2.2.2.2.2.2.1 + (1 : Int))))), y4)))))), ((y3.2.2.2.2.2.1, (Go.IntKind.wrap .i64 ((Go.IntKind.wrap .i64 (y3.2.2.2.2.2.2.2.1 + (1 : Int))) - (1 : Int)))), ((0 : Int), ()))))
 else
 (m18t x y3 y4)))
 else
 (m18t x y3 y4)))
 else
 (m18t x y3 y4))
 else
 (m18t x y3 y4)))))))))

noncomputable def i18_48 : ID := aInl Try.prog ({ envOf [] [(78, OS.hd ⟨[(false, (.sl (.int .i64)))], 3, (.int .i64), false, m78⟩)] [] [] with deep := [79] }) ⟨[(11000, ⟨[.slot 31 (.d false (.int .i64) true), .cell 7 0 (.d false (.int .i64) true), .cell 7 1 (.d false (.int .i64) true), .cell 7 2 (.d false (.int .i64) true), .cell 7 3 (.v 3 (.int .i64) true), .cell 7 4 (.v 4 .bool true), .cell 7 5 (.d false (.int .i64) true), .cell 7 6 (.d false (.int .i64) true), .cell 7 7 (.d false (.int .i64) true), .cell 7 8 (.h 79 3 (.int .i64) (.int .i64))], [8, 9], [(some 0, [.cell 7 0 (.d false (.int .i64) true), .cell 7 1 (.d false (.int .i64) true), .cell 7 2 (.d false (.int .i64) true), .cell 7 3 (.v 3 (.int .i64) true), .cell 7 4 (.v 4 .bool true), .cell 7 5 (.d false (.int .i64) true), .cell 7 6 (.d false (.int .i64) true), .cell 7 7 (.d false (.int .i64) true), .cell 7 8 (.h 79 3 (.int .i64) (.int .i64))])], none⟩)], []⟩ Try.f48
noncomputable def i18_53 : ID := aInl Try.prog ({ envOf [] [] [] [] with deep := [79] }) ⟨[], []⟩ Try.f53
noncomputable def i18_52 : ID := aInl Try.prog ({ envOf [] [] [] [(53, i18_53)] with deep := [79] }) ⟨[(15000, ⟨[.slot 11 (.d false (.int .i64) true), .dvec 12 79 3 (.int .i64) (.int .i64)], [], [(some 0, [.dvec 12 79 3 (.int .i64) (.int .i64)])], none⟩), (16002, ⟨[.slot 18 (.d false (.int .i64) true), .dvec 12 79 3 (.int .i64) (.int .i64)], [], [(some 2, [.dvec 12 79 3 (.int .i64) (.int .i64)])], none⟩)], []⟩ Try.f52
noncomputable def r18 : PDen [(true, kT), (true, (.pair (.int .i64) (.int .i64))), (false, (.int .i64))] → Option (PDen [(true, kT), (true, (.pair (.int .i64) (.int .i64))), (false, (.int .i64))]) := fun x => afun Try.prog ({ envOf [(25, ⟨[(true, kT)], [(false, (.int .i64))], false, m25⟩), (40, ⟨[(false, (.int .i64)), (false, (.int .i64)), (false, (.int .i64))], [(false, .bool)], false, m40⟩), (49, ⟨[(true, kT)], [(false, .bool)], false, m49⟩)] [] [] [(48, i18_48), (52, i18_52)] with deep := [79] }) ⟨[], []⟩ Try.f18 [(true, kT), (true, (.pair (.int .i64) (.int .i64))), (false, (.int .i64))] [(true, kT), (true, (.pair (.int .i64) (.int .i64))), (false, (.int .i64))] false x
theorem r18_eq : r18 = m18 := by kernel_rfl

theorem i18_48_sound : i18_48.Sound Try.prog 48 := aInl_sound' (Env.Sound.deepen (envOf_sound (CSs.nil) (HDs.cons (OS.Sound.hd c78) (HDs.nil)) (IDs.nil)) [79]) Try.follows (f := 48) (fn := Try.f48) Try.func48 (by kernel_rfl) (by kernel_rfl)
theorem i18_53_sound : i18_53.Sound Try.prog 53 := aInl_sound' (Env.Sound.deepen (envOf_sound (CSs.nil) (HDs.nil) (IDs.nil)) [79]) Try.follows (f := 53) (fn := Try.f53) Try.func53 (by kernel_rfl) (by kernel_rfl)
theorem i18_52_sound : i18_52.Sound Try.prog 52 := aInl_sound' (Env.Sound.deepen (envOf_sound (CSs.nil) (HDs.nil) (IDs.cons i18_53_sound (IDs.nil))) [79]) Try.follows (f := 52) (fn := Try.f52) Try.func52 (by kernel_rfl) (by kernel_rfl)
theorem c18 : CS.Sound Try.prog 18 ⟨[(true, kT), (true, (.pair (.int .i64) (.int .i64))), (false, (.int .i64))], [(true, kT), (true, (.pair (.int .i64) (.int .i64))), (false, (.int .i64))], false, m18⟩ := afun_sound' (Env.Sound.deepen (envOf_sound (CSs.cons c25 (CSs.cons c40 (CSs.cons c49 (CSs.nil)))) (HDs.nil) (IDs.cons i18_48_sound (IDs.cons i18_52_sound (IDs.nil)))) [79]) rfl Try.follows (f := 18) (fn := Try.f18) Try.func18 (by kernel_rfl) (by kernel_rfl) r18_eq
end Go.Proofs.Ytecadglgkhfaaaa
end

section
open Go Go.Proofs.AM
namespace Go.Proofs.Ytecadglgkhfaaaa

noncomputable def m56 (x : tT × Int × Unit) : Option ((Int × Int) × (Bool × Unit)) :=
 Option.bind (loopM (X := (Int × (Int × Int))) (E := ((Int × Int) ⊕ (Bool × (Int × Int)))) (fun (x1 : (Int × (Int × Int))) =>
 bif (decide (x1.1 < (((List.length x.1.2.2.2.2.2.2) : Nat) : Int))) then
 (gd ((0 : Int) ≤ x1.1) (gd (x1.1 < (((List.length x.1.2.2.2.2.2.2) : Nat) : Int)) (Option.bind (m80 ((List.getD x.1.2.2.2.2.2.2 (Int.toNat x1.1) ((0 : Int), ([] : List Int))).2, (x.2.1, ()))) fun (y2 : (Int × Unit)) =>
 bif (decide (y2.1 ≥ (0 : Int))) then
 (some (Sum.inr (Sum.inr (true, ((List.getD x.1.2.2.2.2.2.2 (Int.toNat x1.1) ((0 : Int), ([] : List Int))).1, y2.1)))))
 else
 (some (Sum.inl ((Go.IntKind.wrap .i64 (x1.1 + (1 : Int))), (x1.2.1, x1.2.2)))))))
 else
 (some (Sum.inr (Sum.inl (x1.2.1, x1.2.2))))) ((0 : Int), ((0 : Int), (0 : Int)))) fun (y1 : ((Int × Int) ⊕ (Bool × (Int × Int)))) =>
 Sum.elim (fun y2 =>
 if x.1.1 = (0 : Int) then
 (none)
 else
 (if x.1.1 = (0 : Int) then
 (none)
 else
 (bif (decide (x.1.2.2.2.2.2.1.1 ≥ (0 : Int))) then
 (bif (decide (x.1.2.2.2.2.2.1.2.1 = (Go.IntKind.wrap .i64 (Int.tdiv x.2.1 x.1.1)))) then
 (bif (decide (x.1.2.2.2.2.2.1.2.2 > (Int.tmod x.2.1 x.1.1))) then
 (some ((x.1.2.2.2.2.2.1.1, (Int.tmod x.2.1 x.1.1)), (true, ())))
 else
 (gd ((0 : Int) ≤ x.2.1) (gd (x.2.1 < (((List.length x.1.2.2.2.2.1) : Nat) : Int)) (bif (List.getD x.1.2.2.2.2.1 (Int.toNat x.2.1) false) then
 (gd ((0 : Int) ≤ (Go.IntKind.wrap .i64 (Int.tdiv x.2.1 x.1.1))) (gd ((Go.IntKind.wrap .i64 (Int.tdiv x.2.1 x.1.1)) < (((List.length x.1.2.2.2.1) : Nat) : Int)) (some (((List.getD x.1.2.2.2.1 (Int.toNat (Go.IntKind.wrap .i64 (Int.tdiv x.2.1 x.1.1))) (0 : Int)), (Int.tmod x.2.1 x.1.1)), (true, ())))))
 else
 (some (((0 : Int), (0 : Int)), (false, ())))))))
 else
 (gd ((0 : Int) ≤ x.2.1) (gd (x.2.1 < (((List.length x.1.2.2.2.2.1) : Nat) : Int)) (bif (List.getD x.1.2.2.2.2.1 (Int.toNat x.2.1) false) then
 (gd ((0 : Int) ≤ (Go.IntKind.wrap .i64 (Int.tdiv x.2.1 x.1.1))) (gd ((Go.IntKind.wrap .i64 (Int.tdiv x.2.1 x.1.1)) < (((List.length x.1.2.2.2.1) : Nat) : Int)) (some (((List.getD x.1.2.2.2.1 (Int.toNat (Go.IntKind.wrap .i64 (Int.tdiv x.2.1 x.1.1))) (0 : Int)), (Int.tmod x.2.1 x.1.1)), (true, ())))))
 else
 (some (((0 : Int), (0 : Int)), (false, ())))))))
 else
 (gd ((0 : Int) ≤ x.2.1) (gd (x.2.1 < (((List.length x.1.2.2.2.2.1) : Nat) : Int)) (bif (List.getD x.1.2.2.2.2.1 (Int.toNat x.2.1) false) then
 (gd ((0 : Int) ≤ (Go.IntKind.wrap .i64 (Int.tdiv x.2.1 x.1.1))) (gd ((Go.IntKind.wrap .i64 (Int.tdiv x.2.1 x.1.1)) < (((List.length x.1.2.2.2.1) : Nat) : Int)) (some (((List.getD x.1.2.2.2.1 (Int.toNat (Go.IntKind.wrap .i64 (Int.tdiv x.2.1 x.1.1))) (0 : Int)), (Int.tmod x.2.1 x.1.1)), (true, ())))))
 else
 (some (((0 : Int), (0 : Int)), (false, ()))))))))) (fun y2 =>
 some (y2.2, (y2.1, ()))) y1

noncomputable def r56 : PDen [(true, kT), (false, (.int .i64))] → Option (PDen [(true, (.pair (.int .i64) (.int .i64))), (false, .bool)]) := fun x => afun Try.prog ({ envOf [(80, ⟨[(false, (.sl (.int .i64))), (false, (.int .i64))], [(false, (.int .i64))], false, m80⟩)] [] [] [] with deep := [79] }) ⟨[(0, ⟨[.slot 14 (.d false (.int .i64) true), .cell 1 0 (.d false (.int .i64) true), .cell 1 1 (.d false (.int .i64) true)], [], [(some 0, [.cell 1 0 (.d false (.int .i64) true), .cell 1 1 (.d false (.int .i64) true)]), (none, [.slot 5 (.d false .bool true), .cell 1 0 (.d false (.int .i64) true), .cell 1 1 (.d false (.int .i64) true)])], none⟩)], []⟩ Try.f56 [(true, kT), (false, (.int .i64))] [(true, (.pair (.int .i64) (.int .i64))), (false, .bool)] false x
theorem r56_eq : r56 = m56 := by kernel_rfl

theorem c56 : CS.Sound Try.prog 56 ⟨[(true, kT), (false, (.int .i64))], [(true, (.pair (.int .i64) (.int .i64))), (false, .bool)], false, m56⟩ := afun_sound' (Env.Sound.deepen (envOf_sound (CSs.cons c80 (CSs.nil)) (HDs.nil) (IDs.nil)) [79]) rfl Try.follows (f := 56) (fn := Try.f56) Try.func56 (by kernel_rfl) (by kernel_rfl) r56_eq
end Go.Proofs.Ytecadglgkhfaaaa
end

section
open Go Go.Proofs.AM
namespace Go.Proofs.Ytecadglgkhfaaaa

noncomputable def m22 (x : tT × Int × Unit) : Option ((Int × Int) × (Bool × Unit)) :=
 Option.bind (m55 (x.1, ())) fun (y1 : (tT × Unit)) =>
 Option.bind (m40 (x.2.1, ((0 : Int), ((Go.IntKind.wrap .i64 ((((List.length y1.1.2.2.2.2.1) : Nat) : Int) - (1 : Int))), ())))) fun (y2 : (Bool × Unit)) =>
 bif (!y2.1) then
 (some (((0 : Int), (0 : Int)), (false, ())))
 else
 (Option.bind (m56 (y1.1, (x.2.1, ()))) fun (y3 : ((Int × Int) × (Bool × Unit))) =>
 some (y3.1, (y3.2.1, ())))

noncomputable def r22 : PDen [(true, kT), (false, (.int .i64))] → Option (PDen [(true, (.pair (.int .i64) (.int .i64))), (false, .bool)]) := fun x => afun Try.prog ({ envOf [(40, ⟨[(false, (.int .i64)), (false, (.int .i64)), (false, (.int .i64))], [(false, .bool)], false, m40⟩), (55, ⟨[(true, kT)], [(true, kT)], true, m55⟩), (56, ⟨[(true, kT), (false, (.int .i64))], [(true, (.pair (.int .i64) (.int .i64))), (false, .bool)], false, m56⟩)] [] [] [] with deep := [79] }) ⟨[], []⟩ Try.f22 [(true, kT), (false, (.int .i64))] [(true, (.pair (.int .i64) (.int .i64))), (false, .bool)] false x
theorem r22_eq : r22 = m22 := by kernel_rfl

theorem c22 : CS.Sound Try.prog 22 ⟨[(true, kT), (false, (.int .i64))], [(true, (.pair (.int .i64) (.int .i64))), (false, .bool)], false, m22⟩ := afun_sound' (Env.Sound.deepen (envOf_sound (CSs.cons c40 (CSs.cons c55 (CSs.cons c56 (CSs.nil)))) (HDs.nil) (IDs.nil)) [79]) rfl Try.follows (f := 22) (fn := Try.f22) Try.func22 (by kernel_rfl) (by kernel_rfl) r22_eq
end Go.Proofs.Ytecadglgkhfaaaa
end

section
open Go Go.Proofs.AM
namespace Go.Proofs.Ytecadglgkhfaaaa

noncomputable def m10 (x : Unit) : Option (Bool × Unit) :=
 Option.bind (m30 ((4 : Int), ((2 : Int), ((1 : Int), ())))) fun (y1 : (tT × (Int × Unit))) =>
 Option.bind (m13 (y1.1, ((0 : Int), ()))) fun (y2 : ((Int × Int) × (Int × Unit))) =>
 bif (!(decide (y1.2.1 = (0 : Int)))) then
 (some (false, ()))
 else
 (bif (!(decide (y2.2.1 = (0 : Int)))) then
 (some (false, ()))
 else
 (bif (!((decide (y2.1.1 = (3 : Int))) && (decide (y2.1.2 = (0 : Int))))) then
 (some (false, ()))
 else
 (Option.bind (m15 (y1.1, (y2.1, ((7 : Int), ())))) fun (y3 : (tT × (Int × Unit))) =>
 Option.bind (m18 (y3.1, (((1 : Int), (0 : Int)), ((0 : Int), ())))) fun (y4 : (tT × ((Int × Int) × (Int × Unit)))) =>
 Option.bind (m22 (y4.1, ((0 : Int), ()))) fun (y5 : ((Int × Int) × (Bool × Unit))) =>
 bif (decide (y3.2.1 = (0 : Int))) then
 (bif (decide (y4.2.2.1 = (0 : Int))) then
 (bif ((decide (y4.2.1.1 = (7 : Int))) && (decide (y4.2.1.2 = (0 : Int)))) then
 (bif y5.2.1 then
 (some (((decide (y5.1.1 = y4.2.1.1)) && (decide (y5.1.2 = y4.2.1.2))), ()))
 else
 (some (false, ())))
 else
 (some (false, ())))
 else
 (some (false, ())))
 else
 (some (false, ())))))

noncomputable def r10 : PDen [] → Option (PDen [(false, .bool)]) := fun x => afun Try.prog ({ envOf [(13, ⟨[(true, kT), (false, (.int .i64))], [(true, (.pair (.int .i64) (.int .i64))), (false, (.int .i64))], false, m13⟩), (15, ⟨[(true, kT), (true, (.pair (.int .i64) (.int .i64))), (false, (.int .i64))], [(true, kT), (false, (.int .i64))], false, m15⟩), (18, ⟨[(true, kT), (true, (.pair (.int .i64) (.int .i64))), (false, (.int .i64))], [(true, kT), (true, (.pair (.int .i64) (.int .i64))), (false, (.int .i64))], false, m18⟩), (22, ⟨[(true, kT), (false, (.int .i64))], [(true, (.pair (.int .i64) (.int .i64))), (false, .bool)], false, m22⟩)] [(30, OM.hd ⟨[(false, (.int .i64)), (false, (.int .i64)), (false, (.int .i64))], [(true, kT), (false, (.int .i64))], [(.p .d (.p .d (.p .d (.p (.s 3) (.p (.s 4) .d))))), .d], false, m30⟩)] [] [] with deep := [79] }) ⟨[], []⟩ Try.f10 [] [(false, .bool)] false x
theorem r10_eq : r10 = m10 := by kernel_rfl

theorem c10 : CS.Sound Try.prog 10 ⟨[], [(false, .bool)], false, m10⟩ := afun_sound' (Env.Sound.deepen (envOf_sound (CSs.cons c13 (CSs.cons c15 (CSs.cons c18 (CSs.cons c22 (CSs.nil))))) (HDs.cons (OM.Sound.hd c30) (HDs.nil)) (IDs.nil)) [79]) rfl Try.follows (f := 10) (fn := Try.f10) Try.func10 (by kernel_rfl) (by kernel_rfl) r10_eq
end Go.Proofs.Ytecadglgkhfaaaa
end

section
open Go Go.Proofs.AM
namespace Go.Proofs.Ytecadglgkhfaaaa

noncomputable def m24 (x : tT × Unit) : Option (tT × (Int × (Int × Unit))) :=
 Option.bind (m25 (x.1, ())) fun (y1 : (Int × Unit)) =>
 bif (!(decide (y1.1 = (0 : Int)))) then
 (some (((0 : Int), ((0 : Int), ((0 : Int), (([] : List Int), (([] : List Bool), (((0 : Int), ((0 : Int), (0 : Int))), ([] : List (Int × (List Int))))))))), ((0 : Int), (y1.1, ()))))
 else
 (bif (decide ((((List.length x.1.2.2.2.2.2.2) : Nat) : Int) = (0 : Int))) then
 (some (((0 : Int), ((0 : Int), ((0 : Int), (([] : List Int), (([] : List Bool), (((0 : Int), ((0 : Int), (0 : Int))), ([] : List (Int × (List Int))))))))), ((0 : Int), ((51 : Int), ()))))
 else
 (gd ((0 : Int) < (((List.length x.1.2.2.2.2.2.2) : Nat) : Int)) (Option.bind (loopM (X := Int) (E := (Unit ⊕ Int)) (fun (x2 : Int) =>
 bif (decide (x2 < (((List.length (List.getD x.1.2.2.2.2.2.2 (Int.toNat (0 : Int)) ((0 : Int), ([] : List Int))).2) : Nat) : Int))) then
 (gd ((0 : Int) ≤ x2) (gd (x2 < (((List.length (List.getD x.1.2.2.2.2.2.2 (Int.toNat (0 : Int)) ((0 : Int), ([] : List Int))).2) : Nat) : Int)) (bif (decide ((List.getD (List.getD x.1.2.2.2.2.2.2 (Int.toNat (0 : Int)) ((0 : Int), ([] : List Int))).2 (Int.toNat x2) (0 : Int)) ≥ (0 : Int))) then
 (some (Sum.inr (Sum.inr x2)))
 else
 (some (Sum.inl (Go.IntKind.wrap .i64 (x2 + (1 : Int))))))))
 else
 (some (Sum.inr (Sum.inl ())))) (0 : Int)) fun (y2 : (Unit ⊕ Int)) =>
 Sum.elim (fun y3 =>
 bif (decide ((-1 : Int) ≥ (0 : Int))) then
 (some (((0 : Int), ((0 : Int), ((0 : Int), (([] : List Int), (([] : List Bool), (((0 : Int), ((0 : Int), (0 : Int))), ([] : List (Int × (List Int))))))))), ((0 : Int), ((51 : Int), ()))))
 else
 (gd ((0 : Int) ≤ (((List.length x.1.2.2.2.1) : Nat) : Int)) (gd ((((List.length x.1.2.2.2.1) : Nat) : Int) ≤ (((List.length x.1.2.2.2.1) : Nat) : Int)) (gd (((((List.length x.1.2.2.2.1) : Nat) : Int) * (8 : Int)) ≤ (140737488355328 : Int)) (gd ((0 : Int) ≤ (((List.length x.1.2.2.2.2.1) : Nat) : Int)) (gd ((((List.length x.1.2.2.2.2.1) : Nat) : Int) ≤ (((List.length x.1.2.2.2.2.1) : Nat) : Int)) (gd (((((List.length x.1.2.2.2.2.1) : Nat) : Int) * (1 : Int)) ≤ (140737488355328 : Int)) (Option.bind (clo x.1) fun (y4 : eT) =>
 gd ((0 : Int) < (((List.length y4.2.2.2.2.2.2.2.2) : Nat) : Int)) (gd ((Int.toNat (0 : Int)) < (List.length y4.2.2.2.2.2.2.2.2)) (gd ((1 : Int) ≤ (((List.length y4.2.2.2.2.2.2.2.2) : Nat) : Int)) (gd ((((List.length y4.2.2.2.2.2.2.2.2) : Nat) : Int) ≤ (((List.length y4.2.2.2.2.2.2.2.2) : Nat) : Int)) (some ((y4.1, (y4.2.1, (y4.2.2.1, (y4.2.2.2.1, (y4.2.2.2.2.1, ((y4.2.2.2.2.2.1, (y4.2.2.2.2.2.2.1, y4.2.2.2.2.2.2.2.1)), (List.take ((Int.toNat (((List.length y4.2.2.2.2.2.2.2.2) : Nat) : Int)) - (Int.toNat (1 : Int))) (List.drop (Int.toNat (1 : Int)) y4.2.2.2.2.2.2.2.2)))))))), ((hth (kh := (.int .i64)) (ki := (.int .i64)) y4.2.2.2.2.2.2.2.2 (Int.toNat (0 : Int))), ((0 : Int), ()))))))))))))))) (fun y3 =>
 bif (decide (y3 ≥ (0 : Int))) then
 (some (((0 : Int), ((0 : Int), ((0 : Int), (([] : List Int), (([] : List Bool), (((0 : Int), ((0 : Int), (0 : Int))), ([] : List (Int × (List Int))))))))), ((0 : Int), ((51 : Int), ()))))
 else
 (gd ((0 : Int) ≤ (((List.length x.1.2.2.2.1) : Nat) : Int)) (gd ((((List.length x.1.2.2.2.1) : Nat) : Int) ≤ (((List.length x.1.2.2.2.1) : Nat) : Int)) (gd (((((List.length x.1.2.2.2.1) : Nat) : Int) * (8 : Int)) ≤ (140737488355328 : Int)) (gd ((0 : Int) ≤ (((List.length x.1.2.2.2.2.1) : Nat) : Int)) (gd ((((List.length x.1.2.2.2.2.1) : Nat) : Int) ≤ (((List.length x.1.2.2.2.2.1) : Nat) : Int)) (gd (((((List.length x.1.2.2.2.2.1) : Nat) : Int) * (1 : Int)) ≤ (140737488355328 : Int)) (Option.bind (clo x.1) fun (y4 : eT) =>
 gd ((0 : Int) < (((List.length y4.2.2.2.2.2.2.2.2) : Nat) : Int)) (gd ((Int.toNat (0 : Int)) < (List.length y4.2.2.2.2.2.2.2.2)) (gd ((1 : Int) ≤ (((List.length y4.2.2.2.2.2.2.2.2) : Nat) : Int)) (gd ((((List.length y4.2.2.2.2.2.2.2.2) : Nat) : Int) ≤ (((List.length y4.2.2.2.2.2.2.2.2) : Nat) : Int)) (some ((y4.1, (y4.2.1, (y4.2.2.1, (y4.2.2.2.1, (y4.2.2.2.2.1, ((y4.2.2.2.2.2.1, (y4.2.2.2.2.2.2.1, y4.2.2.2.2.2.2.2.1)), (List.take ((Int.toNat (((List.length y4.2.2.2.2.2.2.2.2) : Nat) : Int)) - (Int.toNat (1 : Int))) (List.drop (Int.toNat (1 : Int)) y4.2.2.2.2.2.2.2.2)))))))), ((hth (kh := (.int .i64)) (ki := (.int .i64)) y4.2.2.2.2.2.2.2.2 (Int.toNat (0 : Int))), ((0 : Int), ()))))))))))))))) y2)))

noncomputable def i24_48 : ID := aInl Try.prog ({ envOf [] [(78, OS.hd ⟨[(false, (.sl (.int .i64)))], 3, (.int .i64), false, m78⟩)] [] [] with deep := [79] }) ⟨[(8000, ⟨[.slot 31 (.d false (.int .i64) true), .cell 4 0 (.d false (.int .i64) true), .cell 4 1 (.d false (.int .i64) true), .cell 4 2 (.d false (.int .i64) true), .cell 4 3 (.v 3 (.int .i64) true), .cell 4 4 (.v 4 .bool true), .cell 4 5 (.d false (.int .i64) true), .cell 4 6 (.d false (.int .i64) true), .cell 4 7 (.d false (.int .i64) true), .cell 4 8 (.h 79 3 (.int .i64) (.int .i64))], [5, 6], [(some 0, [.cell 4 0 (.d false (.int .i64) true), .cell 4 1 (.d false (.int .i64) true), .cell 4 2 (.d false (.int .i64) true), .cell 4 3 (.v 3 (.int .i64) true), .cell 4 4 (.v 4 .bool true), .cell 4 5 (.d false (.int .i64) true), .cell 4 6 (.d false (.int .i64) true), .cell 4 7 (.d false (.int .i64) true), .cell 4 8 (.h 79 3 (.int .i64) (.int .i64))])], none⟩)], []⟩ Try.f48
noncomputable def i24_58 : ID := aInl Try.prog ({ envOf [] [] [] [] with deep := [79] }) ⟨[], []⟩ Try.f58
noncomputable def i24_81 : ID := aInl Try.prog ({ envOf [] [] [] [(58, i24_58)] with deep := [79] }) ⟨[(3000, ⟨[.slot 8 (.d false (.int .i64) true)], [], [(some 0, []), (none, [.slot 4 (.d false (.int .i64) true)])], none⟩)], []⟩ Try.f81
noncomputable def i24_57 : ID := aInl Try.prog ({ envOf [] [] [] [(81, i24_81)] with deep := [79] }) ⟨[], []⟩ Try.f57
noncomputable def r24 : PDen [(true, kT)] → Option (PDen [(true, kT), (false, (.int .i64)), (false, (.int .i64))]) := fun x => afun Try.prog ({ envOf [(25, ⟨[(true, kT)], [(false, (.int .i64))], false, m25⟩)] [] [] [(48, i24_48), (57, i24_57)] with deep := [79] }) ⟨[], []⟩ Try.f24 [(true, kT)] [(true, kT), (false, (.int .i64)), (false, (.int .i64))] false x
theorem r24_eq : r24 = m24 := by kernel_rfl

theorem i24_48_sound : i24_48.Sound Try.prog 48 := aInl_sound' (Env.Sound.deepen (envOf_sound (CSs.nil) (HDs.cons (OS.Sound.hd c78) (HDs.nil)) (IDs.nil)) [79]) Try.follows (f := 48) (fn := Try.f48) Try.func48 (by kernel_rfl) (by kernel_rfl)
theorem i24_58_sound : i24_58.Sound Try.prog 58 := aInl_sound' (Env.Sound.deepen (envOf_sound (CSs.nil) (HDs.nil) (IDs.nil)) [79]) Try.follows (f := 58) (fn := Try.f58) Try.func58 (by kernel_rfl) (by kernel_rfl)
theorem i24_81_sound : i24_81.Sound Try.prog 81 := aInl_sound' (Env.Sound.deepen (envOf_sound (CSs.nil) (HDs.nil) (IDs.cons i24_58_sound (IDs.nil))) [79]) Try.follows (f := 81) (fn := Try.f81) Try.func81 (by kernel_rfl) (by kernel_rfl)
theorem i24_57_sound : i24_57.Sound Try.prog 57 := aInl_sound' (Env.Sound.deepen (envOf_sound (CSs.nil) (HDs.nil) (IDs.cons i24_81_sound (IDs.nil))) [79]) Try.follows (f := 57) (fn := Try.f57) Try.func57 (by kernel_rfl) (by kernel_rfl)
theorem c24 : CS.Sound Try.prog 24 ⟨[(true, kT)], [(true, kT), (false, (.int .i64)), (false, (.int .i64))], false, m24⟩ := afun_sound' (Env.Sound.deepen (envOf_sound (CSs.cons c25 (CSs.nil)) (HDs.nil) (IDs.cons i24_48_sound (IDs.cons i24_57_sound (IDs.nil)))) [79]) rfl Try.follows (f := 24) (fn := Try.f24) Try.func24 (by kernel_rfl) (by kernel_rfl) r24_eq
end Go.Proofs.Ytecadglgkhfaaaa
end

section
open Go Go.Proofs.AM
namespace Go.Proofs.Ytecadglgkhfaaaa

noncomputable def m61f (n P : Int) (G : List (Int × (List Int))) : Option (List (Int × (List Int))) :=
 (loopM (X := (Int × (List (Int × (List Int))))) (E := (List (Int × (List Int)))) (fun (x4 : (Int × (List (Int × (List Int))))) =>
 bif (decide (x4.1 < (((List.length G) : Nat) : Int))) then
 (gd ((0 : Int) ≤ x4.1) (gd (x4.1 < (((List.length G) : Nat) : Int)) (gd ((Int.toNat x4.1) < (List.length x4.2)) (Option.bind (loopM (X := (Int × (List (Int × (List Int))))) (E := (List (Int × (List Int)))) (fun (x5 : (Int × (List (Int × (List Int))))) =>
 bif (decide (x5.1 < (((List.length (ith (A := Int) (ki := (.int .i64)) x4.2 (Int.toNat x4.1))) : Nat) : Int))) then
 (gd ((0 : Int) ≤ x5.1) (gd (x5.1 < (((List.length (ith (A := Int) (ki := (.int .i64)) x5.2 (Int.toNat x4.1))) : Nat) : Int)) (gd ((Int.toNat x5.1) < (List.length (ith (A := Int) (ki := (.int .i64)) x5.2 (Int.toNat x4.1)))) (bif (decide ((List.getD (ith (A := Int) (ki := (.int .i64)) x5.2 (Int.toNat x4.1)) (Int.toNat x5.1) (0 : Int)) ≥ (0 : Int))) then
 (if P = (0 : Int) then
 (none)
 else
 (bif (decide ((Go.IntKind.wrap .i64 (Int.tdiv (List.getD (ith (A := Int) (ki := (.int .i64)) x5.2 (Int.toNat x4.1)) (Int.toNat x5.1) (0 : Int)) P)) = n)) then
 (gd ((0 : Int) ≤ x5.1) (gd (x5.1 < (((List.length (ith (A := Int) (ki := (.int .i64)) x5.2 (Int.toNat x4.1))) : Nat) : Int)) (gd ((Int.toNat x5.1) < (List.length (ith (A := Int) (ki := (.int .i64)) x5.2 (Int.toNat x4.1)))) (some (Sum.inl ((Go.IntKind.wrap .i64 (x5.1 + (1 : Int))), (setIn (A := Int) (ki := (.int .i64)) x5.2 (Int.toNat x4.1) (List.set (ith (A := Int) (ki := (.int .i64)) x5.2 (Int.toNat x4.1)) (Int.toNat x5.1) (-1 : Int)))))))))
 else
 (some (Sum.inl ((Go.IntKind.wrap .i64 (x5.1 + (1 : Int))), x5.2)))))
 else
 (some (Sum.inl ((Go.IntKind.wrap .i64 (x5.1 + (1 : Int))), x5.2)))))))
 else
 (some (Sum.inr x5.2))) ((0 : Int), x4.2)) fun (y5 : (List (Int × (List Int)))) =>
 some (Sum.inl ((Go.IntKind.wrap .i64 (x4.1 + (1 : Int))), y5))))))
 else
 (some (Sum.inr x4.2))) ((0 : Int), G))

noncomputable def m61 (x : tT × Int × Int × Unit) : Option (tT × ((List Int) × Unit)) :=
 Option.bind (m77 (x.1, ())) fun (y1 : (List Int)) =>
 gd ((0 : Int) ≤ (((List.length x.1.2.2.2.1) : Nat) : Int)) (gd ((((List.length x.1.2.2.2.1) : Nat) : Int) ≤ (((List.length x.1.2.2.2.1) : Nat) : Int)) (gd (((((List.length x.1.2.2.2.1) : Nat) : Int) * (8 : Int)) ≤ (140737488355328 : Int)) (gd ((0 : Int) ≤ (((List.length x.1.2.2.2.2.1) : Nat) : Int)) (gd ((((List.length x.1.2.2.2.2.1) : Nat) : Int) ≤ (((List.length x.1.2.2.2.2.1) : Nat) : Int)) (gd (((((List.length x.1.2.2.2.2.1) : Nat) : Int) * (1 : Int)) ≤ (140737488355328 : Int)) (Option.bind (clo x.1) fun (y2 : eT) =>
 gd ((0 : Int) ≤ y2.1) (gd (y2.1 ≤ y2.1) (gd ((y2.1 * (1 : Int)) ≤ (140737488355328 : Int)) (Option.bind (loopM (X := (Int × (List Bool))) (E := (List Bool)) (fun (x3 : (Int × (List Bool))) =>
 bif (decide (x3.1 < y2.1)) then
 (Option.bind (m56 ((y2.1, (y2.2.1, (y2.2.2.1, (y2.2.2.2.1, (y2.2.2.2.2.1, ((y2.2.2.2.2.2.1, (y2.2.2.2.2.2.2.1, y2.2.2.2.2.2.2.2.1)), y2.2.2.2.2.2.2.2.2)))))), ((Go.IntKind.wrap .i64 ((Go.IntKind.wrap .i64 (x.2.1 * y2.1)) + x3.1)), ()))) fun (y4 : ((Int × Int) × (Bool × Unit))) =>
 bif y4.2.1 then
 (gd ((0 : Int) ≤ x3.1) (gd (x3.1 < (((List.length x3.2) : Nat) : Int)) (gd ((Int.toNat x3.1) < (List.length x3.2)) (some (Sum.inl ((Go.IntKind.wrap .i64 (x3.1 + (1 : Int))), (List.set x3.2 (Int.toNat x3.1) true)))))))
 else
 (some (Sum.inl ((Go.IntKind.wrap .i64 (x3.1 + (1 : Int))), x3.2))))
 else
 (some (Sum.inr x3.2))) ((0 : Int), (List.replicate (Int.toNat y2.1) false))) fun (y3 : (List Bool)) =>
 gd ((0 : Int) ≤ (Go.IntKind.wrap .i64 (x.2.1 * y2.1))) (gd ((Go.IntKind.wrap .i64 (x.2.1 * y2.1)) ≤ (((List.length y2.2.2.2.2.1) : Nat) : Int)) (gd ((((List.length y2.2.2.2.2.1) : Nat) : Int) ≤ (((List.length y2.2.2.2.2.1) : Nat) : Int)) (gd ((0 : Int) ≤ x.2.1) (gd (x.2.1 < (((List.length y2.2.2.2.1) : Nat) : Int)) (gd ((Int.toNat x.2.1) < (List.length y2.2.2.2.1)) (Option.bind (m61f x.2.1 y2.1 y2.2.2.2.2.2.2.2.2) fun (y4 : (List (Int × (List Int)))) =>
 bif (decide (y2.2.2.2.2.2.1 ≥ (0 : Int))) then
 (bif (decide (y2.2.2.2.2.2.2.1 = x.2.1)) then
 (Option.bind (m77 ((y2.1, (y2.2.1, (y2.2.2.1, ((List.set y2.2.2.2.1 (Int.toNat x.2.1) x.2.2.1), ((((List.take (Int.toNat (Go.IntKind.wrap .i64 (x.2.1 * y2.1))) y2.2.2.2.2.1) ++ (List.take ((Int.toNat (((List.length y2.2.2.2.2.1) : Nat) : Int)) - (Int.toNat (Go.IntKind.wrap .i64 (x.2.1 * y2.1)))) y3)) ++ (List.drop ((Int.toNat (Go.IntKind.wrap .i64 (x.2.1 * y2.1))) + (min (List.length y3) ((Int.toNat (((List.length y2.2.2.2.2.1) : Nat) : Int)) - (Int.toNat (Go.IntKind.wrap .i64 (x.2.1 * y2.1)))))) y2.2.2.2.2.1)), (((-1 : Int), ((0 : Int), (0 : Int))), y4)))))), ())) fun (y5 : (List Int)) =>
 Option.bind (gd ((List.length y1) ≤ 140737488355328) (gd ((List.length y5) ≤ 140737488355328) (some (delI y1 y5)))) fun (y6 : (List Int)) =>
 some ((y2.1, (y2.2.1, (y2.2.2.1, ((List.set y2.2.2.2.1 (Int.toNat x.2.1) x.2.2.1), ((((List.take (Int.toNat (Go.IntKind.wrap .i64 (x.2.1 * y2.1))) y2.2.2.2.2.1) ++ (List.take ((Int.toNat (((List.length y2.2.2.2.2.1) : Nat) : Int)) - (Int.toNat (Go.IntKind.wrap .i64 (x.2.1 * y2.1)))) y3)) ++ (List.drop ((Int.toNat (Go.IntKind.wrap .i64 (x.2.1 * y2.1))) + (min (List.length y3) ((Int.toNat (((List.length y2.2.2.2.2.1) : Nat) : Int)) - (Int.toNat (Go.IntKind.wrap .i64 (x.2.1 * y2.1)))))) y2.2.2.2.2.1)), (((-1 : Int), ((0 : Int), (0 : Int))), y4)))))), (y6, ())))
 else
 (Option.bind (m77 ((y2.1, (y2.2.1, (y2.2.2.1, ((List.set y2.2.2.2.1 (Int.toNat x.2.1) x.2.2.1), ((((List.take (Int.toNat (Go.IntKind.wrap .i64 (x.2.1 * y2.1))) y2.2.2.2.2.1) ++ (List.take ((Int.toNat (((List.length y2.2.2.2.2.1) : Nat) : Int)) - (Int.toNat (Go.IntKind.wrap .i64 (x.2.1 * y2.1)))) y3)) ++ (List.drop ((Int.toNat (Go.IntKind.wrap .i64 (x.2.1 * y2.1))) + (min (List.length y3) ((Int.toNat (((List.length y2.2.2.2.2.1) : Nat) : Int)) - (Int.toNat (Go.IntKind.wrap .i64 (x.2.1 * y2.1)))))) y2.2.2.2.2.1)), ((y2.2.2.2.2.2.1, (y2.2.2.2.2.2.2.1, y2.2.2.2.2.2.2.2.1)), y4)))))), ())) fun (y5 : (List Int)) =>
 Option.bind (gd ((List.length y1) ≤ 140737488355328) (gd ((List.length y5) ≤ 140737488355328) (some (delI y1 y5)))) fun (y6 : (List Int)) =>
 some ((y2.1, (y2.2.1, (y2.2.2.1, ((List.set y2.2.2.2.1 (Int.toNat x.2.1) x.2.2.1), ((((List.take (Int.toNat (Go.IntKind.wrap .i64 (x.2.1 * y2.1))) y2.2.2.2.2.1) ++ (List.take ((Int.toNat (((List.length y2.2.2.2.2.1) : Nat) : Int)) - (Int.toNat (Go.IntKind.wrap .i64 (x.2.1 * y2.1)))) y3)) ++ (List.drop ((Int.toNat (Go.IntKind.wrap .i64 (x.2.1 * y2.1))) + (min (List.length y3) ((Int.toNat (((List.length y2.2.2.2.2.1) : Nat) : Int)) - (Int.toNat (Go.IntKind.wrap .i64 (x.2.1 * y2.1)))))) y2.2.2.2.2.1)), ((y2.2.2.2.2.2.1, (y2.2.2.2.2.2.2.1, y2.2.2.2.2.2.2.2.1)), y4)))))), (y6, ()))))
 else
 (Option.bind (m77 ((y2.1, (y2.2.1, (y2.2.2.1, ((List.set y2.2.2.2.1 (Int.toNat x.2.1) x.2.2.1), ((((List.take (Int.toNat (Go.IntKind.wrap .i64 (x.2.1 * y2.1))) y2.2.2.2.2.1) ++ (List.take ((Int.toNat (((List.length y2.2.2.2.2.1) : Nat) : Int)) - (Int.toNat (Go.IntKind.wrap .i64 (x.2.1 * y2.1)))) y3)) ++ (List.drop ((Int.toNat (Go.IntKind.wrap .i64 (x.2.1 * y2.1))) + (min (List.length y3) ((Int.toNat (((List.length y2.2.2.2.2.1) : Nat) : Int)) - (Int.toNat (Go.IntKind.wrap .i64 (x.2.1 * y2.1)))))) y2.2.2.2.2.1)), ((y2.2.2.2.2.2.1, (y2.2.2.2.2.2.2.1, y2.2.2.2.2.2.2.2.1)), y4)))))), ())) fun (y5 : (List Int)) =>
 Option.bind (gd ((List.length y1) ≤ 140737488355328) (gd ((List.length y5) ≤ 140737488355328) (some (delI y1 y5)))) fun (y6 : (List Int)) =>
 some ((y2.1, (y2.2.1, (y2.2.2.1, ((List.set y2.2.2.2.1 (Int.toNat x.2.1) x.2.2.1), ((((List.take (Int.toNat (Go.IntKind.wrap .i64 (x.2.1 * y2.1))) y2.2.2.2.2.1) ++ (List.take ((Int.toNat (((List.length y2.2.2.2.2.1) : Nat) : Int)) - (Int.toNat (Go.IntKind.wrap .i64 (x.2.1 * y2.1)))) y3)) ++ (List.drop ((Int.toNat (Go.IntKind.wrap .i64 (x.2.1 * y2.1))) + (min (List.length y3) ((Int.toNat (((List.length y2.2.2.2.2.1) : Nat) : Int)) - (Int.toNat (Go.IntKind.wrap .i64 (x.2.1 * y2.1)))))) y2.2.2.2.2.1)), ((y2.2.2.2.2.2.1, (y2.2.2.2.2.2.2.1, y2.2.2.2.2.2.2.2.1)), y4)))))), (y6, ()))))))))))))))))))

noncomputable def i61_48 : ID := aInl Try.prog ({ envOf [] [(78, OS.hd ⟨[(false, (.sl (.int .i64)))], 3, (.int .i64), false, m78⟩)] [] [] with deep := [79] }) ⟨[(10000, ⟨[.slot 31 (.d false (.int .i64) true), .cell 6 0 (.d false (.int .i64) true), .cell 6 1 (.d false (.int .i64) true), .cell 6 2 (.d false (.int .i64) true), .cell 6 3 (.v 3 (.int .i64) true), .cell 6 4 (.v 4 .bool true), .cell 6 5 (.d false (.int .i64) true), .cell 6 6 (.d false (.int .i64) true), .cell 6 7 (.d false (.int .i64) true), .cell 6 8 (.h 79 3 (.int .i64) (.int .i64))], [7, 8], [(some 0, [.cell 6 0 (.d false (.int .i64) true), .cell 6 1 (.d false (.int .i64) true), .cell 6 2 (.d false (.int .i64) true), .cell 6 3 (.v 3 (.int .i64) true), .cell 6 4 (.v 4 .bool true), .cell 6 5 (.d false (.int .i64) true), .cell 6 6 (.d false (.int .i64) true), .cell 6 7 (.d false (.int .i64) true), .cell 6 8 (.h 79 3 (.int .i64) (.int .i64))])], none⟩)], []⟩ Try.f48
noncomputable def i61_84 : ID := aInl Try.prog ({ envOf [] [] [] [] with deep := [79] }) ⟨[], []⟩ Try.f84
noncomputable def i61_52 : ID := aInl Try.prog ({ envOf [] [] [] [(84, i61_84)] with deep := [79] }) ⟨[(21000, ⟨[.slot 11 (.d false (.int .i64) true), .dvec 11 79 3 (.int .i64) (.int .i64)], [], [(some 0, [.dvec 11 79 3 (.int .i64) (.int .i64)])], none⟩), (22002, ⟨[.slot 18 (.d false (.int .i64) true), .dvec 11 79 3 (.int .i64) (.int .i64)], [], [(some 2, [.dvec 11 79 3 (.int .i64) (.int .i64)])], none⟩)], []⟩ Try.f52
noncomputable def i61_83 : ID := aInl Try.prog ({ envOf [] [] [] [] with deep := [79] }) ⟨[], []⟩ Try.f83
noncomputable def i61_95 : ID := aInl Try.prog ({ envOf [(56, ⟨[(true, kT), (false, (.int .i64))], [(true, (.pair (.int .i64) (.int .i64))), (false, .bool)], false, m56⟩)] [] [] [] with deep := [79] }) ⟨[(20000, ⟨[.slot 5 (.d false (.int .i64) true), .vec 12 4 .bool true], [], [(some 0, [.vec 12 4 .bool true])], none⟩)], []⟩ Try.f95
noncomputable def r61 : PDen [(true, kT), (false, (.int .i64)), (false, (.int .i64))] → Option (PDen [(true, kT), (false, (.sl (.int .i64)))]) := fun x => afun Try.prog ({ envOf [] [(85, delIHD 3 86), (77, OS.hd ⟨[(true, kT)], 3, (.int .i64), false, m77⟩)] [] [(48, i61_48), (52, i61_52), (83, i61_83), (95, i61_95)] with deep := [79] }) ⟨[], []⟩ Try.f61 [(true, kT), (false, (.int .i64)), (false, (.int .i64))] [(true, kT), (false, (.sl (.int .i64)))] false x
theorem r61_eq : r61 = m61 := by kernel_rfl

theorem i61_48_sound : i61_48.Sound Try.prog 48 := aInl_sound' (Env.Sound.deepen (envOf_sound (CSs.nil) (HDs.cons (OS.Sound.hd c78) (HDs.nil)) (IDs.nil)) [79]) Try.follows (f := 48) (fn := Try.f48) Try.func48 (by kernel_rfl) (by kernel_rfl)
theorem i61_84_sound : i61_84.Sound Try.prog 84 := aInl_sound' (Env.Sound.deepen (envOf_sound (CSs.nil) (HDs.nil) (IDs.nil)) [79]) Try.follows (f := 84) (fn := Try.f84) Try.func84 (by kernel_rfl) (by kernel_rfl)
theorem i61_52_sound : i61_52.Sound Try.prog 52 := aInl_sound' (Env.Sound.deepen (envOf_sound (CSs.nil) (HDs.nil) (IDs.cons i61_84_sound (IDs.nil))) [79]) Try.follows (f := 52) (fn := Try.f52) Try.func52 (by kernel_rfl) (by kernel_rfl)
theorem i61_83_sound : i61_83.Sound Try.prog 83 := aInl_sound' (Env.Sound.deepen (envOf_sound (CSs.nil) (HDs.nil) (IDs.nil)) [79]) Try.follows (f := 83) (fn := Try.f83) Try.func83 (by kernel_rfl) (by kernel_rfl)
theorem i61_95_sound : i61_95.Sound Try.prog 95 := aInl_sound' (Env.Sound.deepen (envOf_sound (CSs.cons c56 (CSs.nil)) (HDs.nil) (IDs.nil)) [79]) Try.follows (f := 95) (fn := Try.f95) Try.func95 (by kernel_rfl) (by kernel_rfl)
theorem c61 : CS.Sound Try.prog 61 ⟨[(true, kT), (false, (.int .i64)), (false, (.int .i64))], [(true, kT), (false, (.sl (.int .i64)))], false, m61⟩ := afun_sound' (Env.Sound.deepen (envOf_sound (CSs.nil) (HDs.cons s85 (HDs.cons (OS.Sound.hd c77) (HDs.nil))) (IDs.cons i61_48_sound (IDs.cons i61_52_sound (IDs.cons i61_83_sound (IDs.cons i61_95_sound (IDs.nil)))))) [79]) rfl Try.follows (f := 61) (fn := Try.f61) Try.func61 (by kernel_rfl) (by kernel_rfl) r61_eq
end Go.Proofs.Ytecadglgkhfaaaa
end

section
open Go Go.Proofs.AM
namespace Go.Proofs.Ytecadglgkhfaaaa

noncomputable def m26 (x : tT × Int × Int × Unit) : Option (tT × ((List Int) × (Int × Unit))) :=
 Option.bind (m25 (x.1, ())) fun (y1 : (Int × Unit)) =>
 bif (!(decide (y1.1 = (0 : Int)))) then
 (some (((0 : Int), ((0 : Int), ((0 : Int), (([] : List Int), (([] : List Bool), (((0 : Int), ((0 : Int), (0 : Int))), ([] : List (Int × (List Int))))))))), (([] : List Int), (y1.1, ()))))
 else
 (Option.bind (m40 (x.2.1, ((0 : Int), ((Go.IntKind.wrap .i64 (x.1.2.1 - (1 : Int))), ())))) fun (y2 : (Bool × Unit)) =>
 bif (!y2.1) then
 (some (((0 : Int), ((0 : Int), ((0 : Int), (([] : List Int), (([] : List Bool), (((0 : Int), ((0 : Int), (0 : Int))), ([] : List (Int × (List Int))))))))), (([] : List Int), ((1 : Int), ()))))
 else
 (Option.bind (m47 (x.1, (x.2.2.1, ()))) fun (y3 : (Bool × Unit)) =>
 bif (!y3.1) then
 (some (((0 : Int), ((0 : Int), ((0 : Int), (([] : List Int), (([] : List Bool), (((0 : Int), ((0 : Int), (0 : Int))), ([] : List (Int × (List Int))))))))), (([] : List Int), ((1 : Int), ()))))
 else
 (Option.bind (m61 (x.1, (x.2.1, (x.2.2.1, ())))) fun (y4 : (tT × ((List Int) × Unit))) =>
 some (y4.1, (y4.2.1, ((0 : Int), ()))))))

noncomputable def r26 : PDen [(true, kT), (false, (.int .i64)), (false, (.int .i64))] → Option (PDen [(true, kT), (false, (.sl (.int .i64))), (false, (.int .i64))]) := fun x => afun Try.prog ({ envOf [(25, ⟨[(true, kT)], [(false, (.int .i64))], false, m25⟩), (40, ⟨[(false, (.int .i64)), (false, (.int .i64)), (false, (.int .i64))], [(false, .bool)], false, m40⟩), (47, ⟨[(true, kT), (false, (.int .i64))], [(false, .bool)], false, m47⟩), (61, ⟨[(true, kT), (false, (.int .i64)), (false, (.int .i64))], [(true, kT), (false, (.sl (.int .i64)))], false, m61⟩)] [] [] [] with deep := [79] }) ⟨[], []⟩ Try.f26 [(true, kT), (false, (.int .i64)), (false, (.int .i64))] [(true, kT), (false, (.sl (.int .i64))), (false, (.int .i64))] false x
theorem r26_eq : r26 = m26 := by kernel_rfl

theorem c26 : CS.Sound Try.prog 26 ⟨[(true, kT), (false, (.int .i64)), (false, (.int .i64))], [(true, kT), (false, (.sl (.int .i64))), (false, (.int .i64))], false, m26⟩ := afun_sound' (Env.Sound.deepen (envOf_sound (CSs.cons c25 (CSs.cons c40 (CSs.cons c47 (CSs.cons c61 (CSs.nil))))) (HDs.nil) (IDs.nil)) [79]) rfl Try.follows (f := 26) (fn := Try.f26) Try.func26 (by kernel_rfl) (by kernel_rfl) r26_eq
end Go.Proofs.Ytecadglgkhfaaaa
end

section
open Go Go.Proofs.AM
namespace Go.Proofs.Ytecadglgkhfaaaa

noncomputable def m28 (x : tT × Unit) : Option (tT × ((List Int) × (Int × Unit))) :=
 Option.bind (m25 (x.1, ())) fun (y1 : (Int × Unit)) =>
 bif (!(decide (y1.1 = (0 : Int)))) then
 (some (((0 : Int), ((0 : Int), ((0 : Int), (([] : List Int), (([] : List Bool), (((0 : Int), ((0 : Int), (0 : Int))), ([] : List (Int × (List Int))))))))), (([] : List Int), (y1.1, ()))))
 else
 (bif (decide (x.1.2.2.2.2.2.1.1 < (0 : Int))) then
 (some (((0 : Int), ((0 : Int), ((0 : Int), (([] : List Int), (([] : List Bool), (((0 : Int), ((0 : Int), (0 : Int))), ([] : List (Int × (List Int))))))))), (([] : List Int), ((51 : Int), ()))))
 else
 (Option.bind (m62 (x.1, ())) fun (y2 : (Bool × Unit)) =>
 bif y2.1 then
 (some (((0 : Int), ((0 : Int), ((0 : Int), (([] : List Int), (([] : List Bool), (((0 : Int), ((0 : Int), (0 : Int))), ([] : List (Int × (List Int))))))))), (([] : List Int), ((51 : Int), ()))))
 else
 (Option.bind (m61 (x.1, (x.1.2.2.2.2.2.1.2.1, (x.1.2.2.2.2.2.1.1, ())))) fun (y3 : (tT × ((List Int) × Unit))) =>
 some (y3.1, (y3.2.1, ((0 : Int), ()))))))

noncomputable def r28 : PDen [(true, kT)] → Option (PDen [(true, kT), (false, (.sl (.int .i64))), (false, (.int .i64))]) := fun x => afun Try.prog ({ envOf [(25, ⟨[(true, kT)], [(false, (.int .i64))], false, m25⟩), (61, ⟨[(true, kT), (false, (.int .i64)), (false, (.int .i64))], [(true, kT), (false, (.sl (.int .i64)))], false, m61⟩), (62, ⟨[(true, kT)], [(false, .bool)], false, m62⟩)] [] [] [] with deep := [79] }) ⟨[], []⟩ Try.f28 [(true, kT)] [(true, kT), (false, (.sl (.int .i64))), (false, (.int .i64))] false x
theorem r28_eq : r28 = m28 := by kernel_rfl

theorem c28 : CS.Sound Try.prog 28 ⟨[(true, kT)], [(true, kT), (false, (.sl (.int .i64))), (false, (.int .i64))], false, m28⟩ := afun_sound' (Env.Sound.deepen (envOf_sound (CSs.cons c25 (CSs.cons c61 (CSs.cons c62 (CSs.nil)))) (HDs.nil) (IDs.nil)) [79]) rfl Try.follows (f := 28) (fn := Try.f28) Try.func28 (by kernel_rfl) (by kernel_rfl) r28_eq
end Go.Proofs.Ytecadglgkhfaaaa
end

section
open Go Go.Proofs.AM
namespace Go.Proofs.Ytecadglgkhfaaaa

noncomputable def m32 (x : tT × Int × Unit) : Option ((List ((Int × Int) × Int)) × Unit) :=
 Option.bind (m55 (x.1, ())) fun (y1 : (tT × Unit)) =>
 gd ((0 : Int) ≤ (((List.length y1.1.2.2.2.1) : Nat) : Int)) (gd ((((List.length y1.1.2.2.2.1) : Nat) : Int) ≤ (((List.length y1.1.2.2.2.1) : Nat) : Int)) (gd (((((List.length y1.1.2.2.2.1) : Nat) : Int) * (8 : Int)) ≤ (140737488355328 : Int)) (gd ((0 : Int) ≤ (((List.length y1.1.2.2.2.2.1) : Nat) : Int)) (gd ((((List.length y1.1.2.2.2.2.1) : Nat) : Int) ≤ (((List.length y1.1.2.2.2.2.1) : Nat) : Int)) (gd (((((List.length y1.1.2.2.2.2.1) : Nat) : Int) * (1 : Int)) ≤ (140737488355328 : Int)) (Option.bind (clo y1.1) fun (y2 : eT) =>
 Option.bind (m40 (x.2.1, ((0 : Int), ((Go.IntKind.wrap .i64 (y2.2.1 - (1 : Int))), ())))) fun (y3 : (Bool × Unit)) =>
 bif (!y3.1) then
 (some (([] : List ((Int × Int) × Int)), ()))
 else
 (Option.bind (loopM (X := (Int × (List ((Int × Int) × Int)))) (E := (List ((Int × Int) × Int))) (fun (x4 : (Int × (List ((Int × Int) × Int)))) =>
 bif (decide (x4.1 < y2.1)) then
 (Option.bind (m56 ((y2.1, (y2.2.1, (y2.2.2.1, (y2.2.2.2.1, (y2.2.2.2.2.1, ((y2.2.2.2.2.2.1, (y2.2.2.2.2.2.2.1, y2.2.2.2.2.2.2.2.1)), y2.2.2.2.2.2.2.2.2)))))), ((Go.IntKind.wrap .i64 ((Go.IntKind.wrap .i64 (x.2.1 * y2.1)) + x4.1)), ()))) fun (y5 : ((Int × Int) × (Bool × Unit))) =>
 bif y5.2.1 then
 (gd ((((List.length x4.2) + (List.length ((y5.1, x4.1) :: ([] : List ((Int × Int) × Int))))) * 24) ≤ 140737488355328) (gd (((List.length x4.2) + (List.length ((y5.1, x4.1) :: ([] : List ((Int × Int) × Int))))) ≤ 140737488355328) (some (Sum.inl ((Go.IntKind.wrap .i64 (x4.1 + (1 : Int))), (x4.2 ++ ((y5.1, x4.1) :: ([] : List ((Int × Int) × Int)))))))))
 else
 (some (Sum.inl ((Go.IntKind.wrap .i64 (x4.1 + (1 : Int))), x4.2))))
 else
 (some (Sum.inr x4.2))) ((0 : Int), ([] : List ((Int × Int) × Int)))) fun (y4 : (List ((Int × Int) × Int))) =>
 some (y4, ()))))))))

noncomputable def i32_48 : ID := aInl Try.prog ({ envOf [] [(78, OS.hd ⟨[(false, (.sl (.int .i64)))], 3, (.int .i64), false, m78⟩)] [] [] with deep := [79] }) ⟨[(8000, ⟨[.slot 31 (.d false (.int .i64) true), .cell 4 0 (.d false (.int .i64) true), .cell 4 1 (.d false (.int .i64) true), .cell 4 2 (.d false (.int .i64) true), .cell 4 3 (.v 3 (.int .i64) true), .cell 4 4 (.v 4 .bool true), .cell 4 5 (.d false (.int .i64) true), .cell 4 6 (.d false (.int .i64) true), .cell 4 7 (.d false (.int .i64) true), .cell 4 8 (.h 79 3 (.int .i64) (.int .i64))], [5, 6], [(some 0, [.cell 4 0 (.d false (.int .i64) true), .cell 4 1 (.d false (.int .i64) true), .cell 4 2 (.d false (.int .i64) true), .cell 4 3 (.v 3 (.int .i64) true), .cell 4 4 (.v 4 .bool true), .cell 4 5 (.d false (.int .i64) true), .cell 4 6 (.d false (.int .i64) true), .cell 4 7 (.d false (.int .i64) true), .cell 4 8 (.h 79 3 (.int .i64) (.int .i64))])], none⟩)], []⟩ Try.f48
noncomputable def i32_83 : ID := aInl Try.prog ({ envOf [] [] [] [] with deep := [79] }) ⟨[], []⟩ Try.f83
noncomputable def i32_65 : ID := aInl Try.prog ({ envOf [(40, ⟨[(false, (.int .i64)), (false, (.int .i64)), (false, (.int .i64))], [(false, .bool)], false, m40⟩), (55, ⟨[(true, kT)], [(true, kT)], true, m55⟩)] [] [] [(48, i32_48), (83, i32_83)] with deep := [79] }) ⟨[], []⟩ Try.f65
noncomputable def i32_91 : ID := aInl Try.prog ({ envOf [] [] [] [] with deep := [79] }) ⟨[], []⟩ Try.f91
noncomputable def i32_95 : ID := aInl Try.prog ({ envOf [(56, ⟨[(true, kT), (false, (.int .i64))], [(true, (.pair (.int .i64) (.int .i64))), (false, .bool)], false, m56⟩)] [] [] [] with deep := [79] }) ⟨[(17000, ⟨[.slot 5 (.d false (.int .i64) true), .cell 13 0 (.v 95 (.pair (.pair (.int .i64) (.int .i64)) (.int .i64)) true)], [], [(some 0, [.cell 13 0 (.v 95 (.pair (.pair (.int .i64) (.int .i64)) (.int .i64)) true)])], none⟩)], []⟩ Try.f95
noncomputable def r32 : PDen [(true, kT), (false, (.int .i64))] → Option (PDen [(false, (.sl (.pair (.pair (.int .i64) (.int .i64)) (.int .i64))))]) := fun x => afun Try.prog ({ envOf [] [] [] [(65, i32_65), (91, i32_91), (95, i32_95)] with deep := [79] }) ⟨[], []⟩ Try.f32 [(true, kT), (false, (.int .i64))] [(false, (.sl (.pair (.pair (.int .i64) (.int .i64)) (.int .i64))))] false x
theorem r32_eq : r32 = m32 := by kernel_rfl

theorem i32_48_sound : i32_48.Sound Try.prog 48 := aInl_sound' (Env.Sound.deepen (envOf_sound (CSs.nil) (HDs.cons (OS.Sound.hd c78) (HDs.nil)) (IDs.nil)) [79]) Try.follows (f := 48) (fn := Try.f48) Try.func48 (by kernel_rfl) (by kernel_rfl)
theorem i32_83_sound : i32_83.Sound Try.prog 83 := aInl_sound' (Env.Sound.deepen (envOf_sound (CSs.nil) (HDs.nil) (IDs.nil)) [79]) Try.follows (f := 83) (fn := Try.f83) Try.func83 (by kernel_rfl) (by kernel_rfl)
theorem i32_65_sound : i32_65.Sound Try.prog 65 := aInl_sound' (Env.Sound.deepen (envOf_sound (CSs.cons c40 (CSs.cons c55 (CSs.nil))) (HDs.nil) (IDs.cons i32_48_sound (IDs.cons i32_83_sound (IDs.nil)))) [79]) Try.follows (f := 65) (fn := Try.f65) Try.func65 (by kernel_rfl) (by kernel_rfl)
theorem i32_91_sound : i32_91.Sound Try.prog 91 := aInl_sound' (Env.Sound.deepen (envOf_sound (CSs.nil) (HDs.nil) (IDs.nil)) [79]) Try.follows (f := 91) (fn := Try.f91) Try.func91 (by kernel_rfl) (by kernel_rfl)
theorem i32_95_sound : i32_95.Sound Try.prog 95 := aInl_sound' (Env.Sound.deepen (envOf_sound (CSs.cons c56 (CSs.nil)) (HDs.nil) (IDs.nil)) [79]) Try.follows (f := 95) (fn := Try.f95) Try.func95 (by kernel_rfl) (by kernel_rfl)
theorem c32 : CS.Sound Try.prog 32 ⟨[(true, kT), (false, (.int .i64))], [(false, (.sl (.pair (.pair (.int .i64) (.int .i64)) (.int .i64))))], false, m32⟩ := afun_sound' (Env.Sound.deepen (envOf_sound (CSs.nil) (HDs.nil) (IDs.cons i32_65_sound (IDs.cons i32_91_sound (IDs.cons i32_95_sound (IDs.nil))))) [79]) rfl Try.follows (f := 32) (fn := Try.f32) Try.func32 (by kernel_rfl) (by kernel_rfl) r32_eq
end Go.Proofs.Ytecadglgkhfaaaa
end

section
open Go Go.Proofs.AM
namespace Go.Proofs.Ytecadglgkhfaaaa

noncomputable def m34 (x : tT × Unit) : Option ((List ((Int × Int) × Int)) × Unit) :=
 Option.bind (m55 (x.1, ())) fun (y1 : (tT × Unit)) =>
 gd ((0 : Int) ≤ (((List.length y1.1.2.2.2.1) : Nat) : Int)) (gd ((((List.length y1.1.2.2.2.1) : Nat) : Int) ≤ (((List.length y1.1.2.2.2.1) : Nat) : Int)) (gd (((((List.length y1.1.2.2.2.1) : Nat) : Int) * (8 : Int)) ≤ (140737488355328 : Int)) (gd ((0 : Int) ≤ (((List.length y1.1.2.2.2.2.1) : Nat) : Int)) (gd ((((List.length y1.1.2.2.2.2.1) : Nat) : Int) ≤ (((List.length y1.1.2.2.2.2.1) : Nat) : Int)) (gd (((((List.length y1.1.2.2.2.2.1) : Nat) : Int) * (1 : Int)) ≤ (140737488355328 : Int)) (Option.bind (clo y1.1) fun (y2 : eT) =>
 bif (decide (y2.2.2.2.2.2.1 < (0 : Int))) then
 (some (([] : List ((Int × Int) × Int)), ()))
 else
 (Option.bind (loopM (X := (Int × (List ((Int × Int) × Int)))) (E := (List ((Int × Int) × Int))) (fun (x3 : (Int × (List ((Int × Int) × Int)))) =>
 bif (decide (x3.1 < y2.1)) then
 (Option.bind (m56 ((y2.1, (y2.2.1, (y2.2.2.1, (y2.2.2.2.1, (y2.2.2.2.2.1, ((y2.2.2.2.2.2.1, (y2.2.2.2.2.2.2.1, y2.2.2.2.2.2.2.2.1)), y2.2.2.2.2.2.2.2.2)))))), ((Go.IntKind.wrap .i64 ((Go.IntKind.wrap .i64 (y2.2.2.2.2.2.2.1 * y2.1)) + x3.1)), ()))) fun (y4 : ((Int × Int) × (Bool × Unit))) =>
 bif y4.2.1 then
 (gd ((((List.length x3.2) + (List.length ((y4.1, x3.1) :: ([] : List ((Int × Int) × Int))))) * 24) ≤ 140737488355328) (gd (((List.length x3.2) + (List.length ((y4.1, x3.1) :: ([] : List ((Int × Int) × Int))))) ≤ 140737488355328) (some (Sum.inl ((Go.IntKind.wrap .i64 (x3.1 + (1 : Int))), (x3.2 ++ ((y4.1, x3.1) :: ([] : List ((Int × Int) × Int)))))))))
 else
 (some (Sum.inl ((Go.IntKind.wrap .i64 (x3.1 + (1 : Int))), x3.2))))
 else
 (some (Sum.inr x3.2))) (y2.2.2.2.2.2.2.2.1, ([] : List ((Int × Int) × Int)))) fun (y3 : (List ((Int × Int) × Int))) =>
 some (y3, ()))))))))

noncomputable def i34_48 : ID := aInl Try.prog ({ envOf [] [(78, OS.hd ⟨[(false, (.sl (.int .i64)))], 3, (.int .i64), false, m78⟩)] [] [] with deep := [79] }) ⟨[(8000, ⟨[.slot 31 (.d false (.int .i64) true), .cell 4 0 (.d false (.int .i64) true), .cell 4 1 (.d false (.int .i64) true), .cell 4 2 (.d false (.int .i64) true), .cell 4 3 (.v 3 (.int .i64) true), .cell 4 4 (.v 4 .bool true), .cell 4 5 (.d false (.int .i64) true), .cell 4 6 (.d false (.int .i64) true), .cell 4 7 (.d false (.int .i64) true), .cell 4 8 (.h 79 3 (.int .i64) (.int .i64))], [5, 6], [(some 0, [.cell 4 0 (.d false (.int .i64) true), .cell 4 1 (.d false (.int .i64) true), .cell 4 2 (.d false (.int .i64) true), .cell 4 3 (.v 3 (.int .i64) true), .cell 4 4 (.v 4 .bool true), .cell 4 5 (.d false (.int .i64) true), .cell 4 6 (.d false (.int .i64) true), .cell 4 7 (.d false (.int .i64) true), .cell 4 8 (.h 79 3 (.int .i64) (.int .i64))])], none⟩)], []⟩ Try.f48
noncomputable def i34_83 : ID := aInl Try.prog ({ envOf [] [] [] [] with deep := [79] }) ⟨[], []⟩ Try.f83
noncomputable def i34_68 : ID := aInl Try.prog ({ envOf [(55, ⟨[(true, kT)], [(true, kT)], true, m55⟩)] [] [] [(48, i34_48), (83, i34_83)] with deep := [79] }) ⟨[], []⟩ Try.f68
noncomputable def i34_92 : ID := aInl Try.prog ({ envOf [] [] [] [] with deep := [79] }) ⟨[], []⟩ Try.f92
noncomputable def i34_95 : ID := aInl Try.prog ({ envOf [(56, ⟨[(true, kT), (false, (.int .i64))], [(true, (.pair (.int .i64) (.int .i64))), (false, .bool)], false, m56⟩)] [] [] [] with deep := [79] }) ⟨[(17000, ⟨[.slot 5 (.d false (.int .i64) true), .cell 13 0 (.v 95 (.pair (.pair (.int .i64) (.int .i64)) (.int .i64)) true)], [], [(some 0, [.cell 13 0 (.v 95 (.pair (.pair (.int .i64) (.int .i64)) (.int .i64)) true)])], none⟩)], []⟩ Try.f95
noncomputable def r34 : PDen [(true, kT)] → Option (PDen [(false, (.sl (.pair (.pair (.int .i64) (.int .i64)) (.int .i64))))]) := fun x => afun Try.prog ({ envOf [] [] [] [(68, i34_68), (92, i34_92), (95, i34_95)] with deep := [79] }) ⟨[], []⟩ Try.f34 [(true, kT)] [(false, (.sl (.pair (.pair (.int .i64) (.int .i64)) (.int .i64))))] false x
theorem r34_eq : r34 = m34 := by kernel_rfl

theorem i34_48_sound : i34_48.Sound Try.prog 48 := aInl_sound' (Env.Sound.deepen (envOf_sound (CSs.nil) (HDs.cons (OS.Sound.hd c78) (HDs.nil)) (IDs.nil)) [79]) Try.follows (f := 48) (fn := Try.f48) Try.func48 (by kernel_rfl) (by kernel_rfl)
theorem i34_83_sound : i34_83.Sound Try.prog 83 := aInl_sound' (Env.Sound.deepen (envOf_sound (CSs.nil) (HDs.nil) (IDs.nil)) [79]) Try.follows (f := 83) (fn := Try.f83) Try.func83 (by kernel_rfl) (by kernel_rfl)
theorem i34_68_sound : i34_68.Sound Try.prog 68 := aInl_sound' (Env.Sound.deepen (envOf_sound (CSs.cons c55 (CSs.nil)) (HDs.nil) (IDs.cons i34_48_sound (IDs.cons i34_83_sound (IDs.nil)))) [79]) Try.follows (f := 68) (fn := Try.f68) Try.func68 (by kernel_rfl) (by kernel_rfl)
theorem i34_92_sound : i34_92.Sound Try.prog 92 := aInl_sound' (Env.Sound.deepen (envOf_sound (CSs.nil) (HDs.nil) (IDs.nil)) [79]) Try.follows (f := 92) (fn := Try.f92) Try.func92 (by kernel_rfl) (by kernel_rfl)
theorem i34_95_sound : i34_95.Sound Try.prog 95 := aInl_sound' (Env.Sound.deepen (envOf_sound (CSs.cons c56 (CSs.nil)) (HDs.nil) (IDs.nil)) [79]) Try.follows (f := 95) (fn := Try.f95) Try.func95 (by kernel_rfl) (by kernel_rfl)
theorem c34 : CS.Sound Try.prog 34 ⟨[(true, kT)], [(false, (.sl (.pair (.pair (.int .i64) (.int .i64)) (.int .i64))))], false, m34⟩ := afun_sound' (Env.Sound.deepen (envOf_sound (CSs.nil) (HDs.nil) (IDs.cons i34_68_sound (IDs.cons i34_92_sound (IDs.cons i34_95_sound (IDs.nil))))) [79]) rfl Try.follows (f := 34) (fn := Try.f34) Try.func34 (by kernel_rfl) (by kernel_rfl) r34_eq
end Go.Proofs.Ytecadglgkhfaaaa
end

section
namespace Go.Proofs.Ytecadglgkhfaaaa
open Go Go.Proofs.AM

abbrev Log := Int × List Int
abbrev Tab := Int × (Int × (Int × (List Int × (List Bool × ((Int × (Int × Int)) × List Log)))))

def shape (P L K : Int) : Prop := 4 ≤ P ∧ P ≤ 32 ∧ 1 ≤ L ∧ L ≤ 256 ∧ 1 ≤ K ∧ K ≤ 8

theorem shape_mul {P L K : Int} (h : shape P L K) : 0 < P * L ∧ P * L ≤ 8192 ∧ L * P = P * L := by
  obtain ⟨h1, h2, h3, h4, _⟩ := h
  have := Int.mul_le_mul (a := P) (b := L) (c := 32) (d := 256) (by omega) (by omega) (by omega) (by omega)
  exact ⟨Int.mul_pos (by omega) (by omega), by omega, Int.mul_comm _ _⟩

theorem take_snoc {A : Type} (l : List A) (i : Nat) (h : i < l.length) (z : A) : l.take (i + 1) = l.take i ++ [l.getD i z] := by
  rw [List.take_add_one, List.getD_eq_getElem?_getD, List.getElem?_eq_getElem h]; rfl

theorem getD_set {A : Type} (l : List A) (i j : Nat) (x z : A) (h : i < l.length) : (l.set i x).getD j z = if i = j then x else l.getD j z := by
  simp only [List.getD_eq_getElem?_getD, List.getElem?_set]
  by_cases e : i = j
  · subst e; simp [h]
  · simp [e]

theorem getD_rep {A : Type} (n j : Nat) (x : A) : (List.replicate n x).getD j x = x := by
  rw [List.getD_eq_getElem?_getD, List.getElem?_replicate]
  split <;> rfl

theorem getD_mem {A : Type} {l : List A} {i : Nat} {z : A} (h : i < l.length) : l.getD i z ∈ l := by
  rw [List.getD_eq_getElem?_getD, List.getElem?_eq_getElem h]; simp

theorem m97_one : ∀ n : Fin 1025, m97 (1, ((n.val : Int), ())) = some (0, ((n.val : Int), ())) := by
  unfold m97; decide +kernel

theorem rep_copy {A : Type} (a z : A) (N b : Nat) (hb : b < N) :
    (List.take b (List.replicate b a ++ List.replicate (N - b) z) ++ List.take (N - b) (List.take b (List.replicate b a ++ List.replicate (N - b) z)) ++ List.drop (b + min b (N - b)) (List.replicate b a ++ List.replicate (N - b) z)) = List.replicate (b + min b (N - b)) a ++ List.replicate (N - (b + min b (N - b))) z := by
  have e1 : List.take b (List.replicate b a ++ List.replicate (N - b) z) = List.replicate b a := by simp [List.take_append]
  rw [e1]
  have e2 : List.take (N - b) (List.replicate b a) = List.replicate (min b (N - b)) a := by rw [List.take_replicate, Nat.min_comm]
  rw [e2, List.replicate_append_replicate]
  congr 1
  rw [List.drop_append]
  simp [List.drop_replicate]
  omega

theorem m64_eq (a : Int) (N : Nat) (n1 : 1 ≤ N) (n2 : N ≤ 1024) : m64 ([a], ((N : Int), ())) = some (List.replicate N a) := by
  have hm : m90 ((IntKind.wrap .u64 (((List.length [a]) : Nat) : Int)), ((IntKind.wrap .u64 (N : Int)), ())) = some (0, ((N : Int), ())) := by
    rw [wrapU64 (n := (N : Int)) (by omega) (by omega), wrapU64 (n := ((List.length [a] : Nat) : Int)) (by simp) (by simp)]
    unfold m90
    have := m97_one ⟨N, by omega⟩
    simp only [List.length_singleton] at this ⊢
    rw [show ((1 : Nat) : Int) = 1 from rfl, this]; rfl
  unfold m64
  simp only [hm, Option.bind_some]
  rw [wrap64 (n := (N : Int)) (by omega) (by omega)]
  simp only [Bool.cond_eq_ite, decide_eq_true_eq]
  rw [if_neg (by omega), if_neg (by omega), if_neg (by omega), gd_pos (by omega), gd_pos (by omega), gd_pos (by omega)]
  rw [loop_wf (e := List.replicate N a) (fun x e => ∃ b : Nat, 1 ≤ b ∧ b ≤ N ∧ x = ((b : Int), List.replicate b a ++ List.replicate (N - b) 0) ∧ e = List.replicate N a) (fun x => N - x.1.toNat)]
  · rfl
  · rintro x e ⟨b, b1, b2, rfl, rfl⟩
    have hl : (List.replicate b a ++ List.replicate (N - b) (0 : Int)).length = N := by simp; omega
    simp only [hl]
    by_cases hb : b < N
    · right
      refine ⟨(((b + min b (N - b) : Nat) : Int), _), ?_, ⟨b + min b (N - b), by omega, by omega, rfl, trivial⟩, ?_⟩
      · rw [if_pos (by omega), gd_pos (by omega), gd_pos (by omega), gd_pos (by omega), gd_pos (by omega), gd_pos (by omega)]
        simp only [Int.toNat_natCast, Int.toNat_zero, Nat.sub_zero, List.drop_zero, List.length_take, hl, Nat.min_eq_left b2]
        rw [rep_copy _ _ _ _ hb, wrap64 (by omega) (by omega)]
        congr 4
      · simp only [Int.toNat_natCast]; omega
    · left
      obtain rfl : b = N := by omega
      rw [if_neg (by omega)]
      simp
  · refine ⟨1, by omega, n1, ?_, rfl⟩
    simp only [List.length_singleton, List.length_replicate, Int.toNat_natCast]
    congr 1
    · omega
    · rw [List.drop_replicate, List.take_of_length_le (by simp; omega)]; rfl

theorem m40_eq (a b c : Int) : m40 (a, (b, (c, ()))) = some (decide (b ≤ a ∧ a ≤ c), ()) := by
  unfold m40
  by_cases h : b ≤ a <;> simp [h]

def newT (P L K : Int) : Tab := (P, (L, (K, (List.replicate L.toNat (-1 : Int), (List.replicate (L * P).toNat false, ((-1, (0, 0)), []))))))
def zeroT : Tab := (0, (0, (0, ([], ([], ((0, (0, 0)), []))))))

theorem m30_no {P L K : Int} (h : ¬ shape P L K) : m30 (P, (L, (K, ()))) = some (zeroT, (1, ())) := by
  unfold m30
  simp only [Bool.cond_eq_ite, decide_eq_true_eq]
  repeat' split
  all_goals first | rfl | (exfalso; exact h ⟨by omega, by omega, by omega, by omega, by omega, by omega⟩)

theorem m30_yes {P L K : Int} (h : shape P L K) : m30 (P, (L, (K, ()))) = some (newT P L K, (0, ())) := by
  have hm := shape_mul h
  obtain ⟨h1, h2, h3, h4, h5, h6⟩ := h
  obtain ⟨Q, rfl⟩ : ∃ Q : Nat, P = Q := ⟨P.toNat, by omega⟩
  obtain ⟨N, rfl⟩ : ∃ N : Nat, L = N := ⟨L.toNat, by omega⟩
  unfold m30
  simp only [Bool.cond_eq_ite, decide_eq_true_eq]
  rw [if_neg (by omega), if_neg (by omega), if_neg (by omega), if_neg (by omega), if_neg (by omega), if_neg (by omega), m64_eq _ _ (by omega) (by omega), wrap64 (n := (N : Int) * Q) (by omega) (by omega)]
  simp only [Option.bind_some]
  rw [gd_pos (by omega), gd_pos (by omega), gd_pos (by omega)]
  simp only [newT, Int.toNat_natCast]
end Go.Proofs.Ytecadglgkhfaaaa
end

section
namespace Go.Proofs.Ytecadglgkhfaaaa
open Go Go.Proofs.AM

structure LogOk (P L : Int) (n i : Nat) (g : Log) : Prop where
  p0 : 0 ≤ g.1
  p1 : g.1 ≤ 255
  le : (g.2.length : Int) ≤ P
  eq : i + 1 < n → (g.2.length : Int) = P
  pg : ∀ j, j < g.2.length → -1 ≤ g.2.getD j 0 ∧ g.2.getD j 0 < P * L

structure Lists (P L K : Int) (D : List Int) (H : List Bool) (S : Int × (Int × Int)) (G : List Log) : Prop where
  sh : shape P L K
  dl : (D.length : Int) = L
  hl : (H.length : Int) = P * L
  gl : (G.length : Int) ≤ K
  lg : ∀ i, i < G.length → LogOk P L G.length i (G.getD i (0, []))
  sq : S = (-1, (0, 0)) ∨ (0 ≤ S.1 ∧ S.1 ≤ 255 ∧ 0 ≤ S.2.1 ∧ S.2.1 < L ∧ 0 ≤ S.2.2 ∧ S.2.2 ≤ P)

theorem m59_ok (P L K : Int) (D : List Int) (H : List Bool) (S : Int × (Int × Int)) (G : List Log) :
    Ok (m59 ((P, (L, (K, (D, (H, (S, G)))))), ())) (fun r => r.1 = true ↔ Lists P L K D H S G) := by
  unfold m59
  by_cases hs : shape P L K
  rotate_left
  · rw [m30_no hs]
    exact Ok.some ⟨fun h => by simp at h, fun h => absurd h.sh hs⟩
  rw [m30_yes hs]
  simp only [Option.bind_some]
  have hm := shape_mul hs
  obtain ⟨p1, p2, p3, p4, p5, p6⟩ := hs
  refine Ok.ncond (fun h => absurd trivial h) (fun _ => ?_)
  refine Ok.ncond (fun h => Ok.some ⟨fun h => by simp at h, fun g => absurd g.dl h⟩) (fun q1 => ?_)
  rw [wrap64 (n := L * P) (by omega) (by omega)]
  refine Ok.ncond (fun h => Ok.some ⟨fun h => by simp at h, fun g => absurd (g.hl.trans hm.2.2.symm) h⟩) (fun q2 => ?_)
  refine Ok.cond (fun h => Ok.some ⟨fun h => by simp at h, fun g => by have := g.gl; omega⟩) (fun q3 => ?_)
  have inner : ∀ g : Log, (g.2.length : Int) ≤ P → Ok (loopM (X := Int) (E := (Unit ⊕ Int)) (fun (x4 : Int) =>
                                bif (decide (x4 < (((List.length g.2) : Nat) : Int))) then
                                  (gd ((0 : Int) ≤ x4) (gd (x4 < (((List.length g.2) : Nat) : Int)) (Option.bind (m40 ((List.getD g.2 (Int.toNat x4) (0 : Int)), ((-1 : Int), ((Go.IntKind.wrap .i64 ((((List.length H) : Nat) : Int) - (1 : Int))), ())))) fun (y5 : (Bool × Unit)) =>
                                      bif (!y5.1) then
                                        (some (Sum.inr (Sum.inr x4)))
                                      else
                                        (some (Sum.inl (Go.IntKind.wrap .i64 (x4 + (1 : Int))))))))
                                else
                                  (some (Sum.inr (Sum.inl ())))) (0 : Int))
      (fun e => match e with
        | .inl _ => ∀ j, j < g.2.length → -1 ≤ g.2.getD j 0 ∧ g.2.getD j 0 < P * L
        | .inr j => 0 ≤ j ∧ ¬ ∀ j, j < g.2.length → -1 ≤ g.2.getD j 0 ∧ g.2.getD j 0 < P * L) := by
    intro g hg
    refine Ok.loop g.2.length (fun i x => x = (i : Int) ∧ ∀ j, j < i → -1 ≤ g.2.getD j 0 ∧ g.2.getD j 0 < P * L) ⟨rfl, fun j hj => by omega⟩ ?_
    rintro i x hi ⟨rfl, hq⟩
    refine Ok.cond (fun hc => ?_) (fun hc => Ok.inr (fun j hj => hq j (by omega)))
    simp only [Int.toNat_natCast] at hc ⊢
    rw [wrap64 (n := (i : Int) + 1) (by omega) (by omega), wrap64 (n := ((List.length H : Nat) : Int) - 1) (by omega) (by omega), m40_eq]
    simp only [Option.bind_some]
    refine Ok.gd (by omega) (Ok.gd (by omega) ?_)
    refine Ok.ncond (fun h => Ok.inr ⟨by omega, fun hall => h ?_⟩) (fun h => Ok.inl ⟨by omega, by omega, fun j hj => ?_⟩)
    · have := hall i (by omega); omega
    · by_cases e : j = i
      · subst e; omega
      · exact hq j (by omega)
  refine Ok.bind (S := fun e => match e with
    | .inl _ => ∀ i, i < G.length → LogOk P L G.length i (G.getD i (0, []))
    | .inr v => v = false ∧ ¬ ∀ i, i < G.length → LogOk P L G.length i (G.getD i (0, []))) (Ok.loop G.length (fun i x => x = (i : Int) ∧ ∀ k, k < i → LogOk P L G.length k (G.getD k (0, []))) ⟨rfl, fun j hj => by omega⟩ ?_) fun y hy => ?_
  · rintro i x hi ⟨rfl, hq⟩
    refine Ok.cond (fun hc => ?_) (fun hc => Ok.inr (fun k hk => hq k (by omega)))
    simp only [Int.toNat_natCast] at hc ⊢
    have hiG : i < G.length := by omega
    rw [wrap64 (n := (i : Int) + 1) (by omega) (by omega), wrap64 (n := ((List.length G : Nat) : Int) - 1) (by omega) (by omega), m40_eq]
    simp only [Option.bind_some]
    refine Ok.gd (by omega) (Ok.gd (by omega) ?_)
    have no : ∀ {A : Type} {R : A → Prop}, ¬ LogOk P L G.length i (G.getD i (0, [])) → Ok (Option.some (Sum.inr (Sum.inr false) : A ⊕ (Unit ⊕ Bool))) (fun s => s.elim R (fun e : Unit ⊕ Bool => match e with
        | .inl _ => ∀ i, i < G.length → LogOk P L G.length i (G.getD i (0, []))
        | .inr v => v = false ∧ ¬ ∀ i, i < G.length → LogOk P L G.length i (G.getD i (0, [])))) := fun h => Ok.inr ⟨rfl, fun hall => h (hall i hiG)⟩
    refine Ok.cond (fun h => no fun k => by have := k.le; omega) (fun h1 => ?_)
    have rest : (i + 1 < G.length → ((G.getD i (0, [])).2.length : Int) = P) → Ok (bif !decide (0 ≤ (G.getD i (0, [])).1 ∧ (G.getD i (0, [])).1 ≤ 255) then Option.some (Sum.inr (Sum.inr false)) else
          Option.bind (loopM (X := Int) (E := (Unit ⊕ Int)) (fun (x4 : Int) =>
                                bif (decide (x4 < (((List.length (G.getD i (0, [])).2) : Nat) : Int))) then
                                  (gd ((0 : Int) ≤ x4) (gd (x4 < (((List.length (G.getD i (0, [])).2) : Nat) : Int)) (Option.bind (m40 ((List.getD (G.getD i (0, [])).2 (Int.toNat x4) (0 : Int)), ((-1 : Int), ((Go.IntKind.wrap .i64 ((((List.length H) : Nat) : Int) - (1 : Int))), ())))) fun (y5 : (Bool × Unit)) =>
                                      bif (!y5.1) then
                                        (some (Sum.inr (Sum.inr x4)))
                                      else
                                        (some (Sum.inl (Go.IntKind.wrap .i64 (x4 + (1 : Int))))))))
                                else
                                  (some (Sum.inr (Sum.inl ())))) (0 : Int)) fun (y4 : (Unit ⊕ Int)) =>
                            Sum.elim (fun y5 =>
                              bif (decide ((-1 : Int) ≥ (0 : Int))) then
                                (some (Sum.inr (Sum.inr false)))
                              else
                                (some (Sum.inl ((i : Int) + (1 : Int))))) (fun y5 =>
                              bif (decide (y5 ≥ (0 : Int))) then
                                (some (Sum.inr (Sum.inr false)))
                              else
                                (some (Sum.inl ((i : Int) + (1 : Int))))) y4)
        (fun s : Int ⊕ (Unit ⊕ Bool) => s.elim (fun y => i < G.length ∧ (y = ((i + 1 : Nat) : Int) ∧ ∀ k, k < i + 1 → LogOk P L G.length k (G.getD k (0, [])))) (fun e => match e with
        | .inl _ => ∀ i, i < G.length → LogOk P L G.length i (G.getD i (0, []))
        | .inr v => v = false ∧ ¬ ∀ i, i < G.length → LogOk P L G.length i (G.getD i (0, [])))) := by
      intro heq
      refine Ok.ncond (fun h => no fun k => h ⟨k.p0, k.p1⟩) (fun h2 => ?_)
      refine Ok.bind (inner (G.getD i (0, [])) (by omega)) fun y hy => ?_
      refine Ok.elim (fun v e => ?_) (fun v e => ?_)
      · subst e
        refine Ok.cond (fun h => by omega) (fun _ => Ok.inl ⟨hiG, by simp, fun k hk => ?_⟩)
        by_cases e : k = i
        · subst e; exact ⟨h2.1, h2.2, by omega, heq, hy⟩
        · exact hq k (by omega)
      · subst e
        exact Ok.cond (fun _ => no fun k => hy.2 k.pg) (fun h => absurd hy.1 (by omega))
    refine Ok.cond (fun h2 => ?_) (fun h2 => ?_)
    · refine Ok.cond (fun h => no fun k => by have := k.eq (by omega); omega) (fun h3 => ?_)
      exact rest fun _ => by omega
    · exact rest fun h => by omega
  refine Ok.elim (fun v e => ?_) (fun v e => ?_)
  rotate_left
  · subst e
    exact Ok.some ⟨fun h => by rw [hy.1] at h; simp at h, fun g => absurd g.lg hy.2⟩
  subst e
  obtain ⟨s1, s2, s3⟩ := S
  simp only
  rw [m40_eq, m40_eq, m40_eq, wrap64 (n := L - 1) (by omega) (by omega)]
  simp only [Option.bind_some]
  have fin : ((s1, (s2, s3)) = ((-1 : Int), ((0 : Int), (0 : Int))) ∨ (0 ≤ s1 ∧ s1 ≤ 255 ∧ 0 ≤ s2 ∧ s2 < L ∧ 0 ≤ s3 ∧ s3 ≤ P)) ↔ Lists P L K D H (s1, (s2, s3)) G :=
    ⟨fun h => ⟨⟨p1, p2, p3, p4, p5, p6⟩, q1, q2.trans hm.2.2, by omega, hy, h⟩, fun h => h.sq⟩
  refine Ok.cond (fun h => Ok.some ?_) (fun h => ?_)
  · rw [← fin]
    simp only [Bool.and_eq_true, decide_eq_true_eq, Prod.mk.injEq]
    constructor
    · rintro ⟨h1, h2, h3⟩; exact .inl ⟨h1, h2, h3⟩
    · rintro (⟨h1, h2, h3⟩ | h1)
      · exact ⟨h1, h2, h3⟩
      · omega
  · refine Ok.cond (fun h1 => Ok.cond (fun h2 => Ok.some ?_) (fun h2 => Ok.some ?_)) (fun h1 => Ok.some ?_)
    all_goals
      rw [← fin]
      simp only [decide_eq_true_eq, Bool.false_eq_true, false_iff, Prod.mk.injEq]
      omega
end Go.Proofs.Ytecadglgkhfaaaa
end

section
namespace Go.Proofs.Ytecadglgkhfaaaa
open Go Go.Proofs.AM

def posi (D : List Int) : List Int := D.filter fun x => decide (0 ≤ x)

theorem posi_snoc (D : List Int) (x : Int) : posi (D ++ [x]) = if 0 ≤ x then posi D ++ [x] else posi D := by
  unfold posi
  rw [List.filter_append]
  by_cases h : 0 ≤ x <;> simp [h]

theorem posi_app (D E : List Int) : posi (D ++ E) = posi D ++ posi E := by unfold posi; rw [List.filter_append]
theorem posi_cons (D : List Int) (x : Int) : posi (x :: D) = if 0 ≤ x then x :: posi D else posi D := by
  unfold posi; by_cases h : 0 ≤ x <;> simp [h]
theorem posi_len (D : List Int) : (posi D).length ≤ D.length := List.length_filter_le _ _
theorem mem_posi {D : List Int} {x : Int} : x ∈ posi D ↔ x ∈ D ∧ 0 ≤ x := by unfold posi; simp
theorem posi_perm {D E : List Int} (h : D.Perm E) : (posi D).Perm (posi E) := h.filter _

theorem nodup_snoc {l : List Int} {x : Int} : (l ++ [x]).Nodup ↔ l.Nodup ∧ x ∉ l := by
  rw [List.nodup_append]
  constructor
  · rintro ⟨h1, _, h3⟩
    exact ⟨h1, fun h => h3 x h x (by simp) rfl⟩
  · rintro ⟨h1, h2⟩
    exact ⟨h1, by simp, fun a ha b hb e => h2 (by simp at hb; subst hb; exact e ▸ ha)⟩

theorem nodup_pos {l : List Int} {x : Int} (h : 0 ≤ x) : (posi (l ++ [x])).Nodup ↔ (posi l).Nodup ∧ x ∉ posi l := by
  rw [posi_snoc, if_pos h, nodup_snoc]
theorem posi_neg {l : List Int} {x : Int} (h : x < 0) : posi (l ++ [x]) = posi l := by
  rw [posi_snoc, if_neg (by omega)]

def Seen (m : List (Int × Bool)) (l : List Int) : Prop := ∀ x, mget (false, .int .i64) m x false = decide (x ∈ posi l)

theorem seen_nil : Seen [] [] := fun x => by simp [posi, mget]

theorem seen_pos {m : List (Int × Bool)} {l : List Int} {n : Int} (h : Seen m l) (hn : 0 ≤ n) : Seen (mset (false, .int .i64) m n true) (l ++ [n]) := by
  intro x
  have hx := h x
  rw [mget_ifind] at hx ⊢
  rw [mset_ifind, posi_snoc, if_pos hn]
  by_cases e : x = n
  · subst e; simp
  · rw [if_neg e, hx]; simp [e]

theorem seen_neg {m : List (Int × Bool)} {l : List Int} {n : Int} (h : Seen m l) (hn : n < 0) : Seen m (l ++ [n]) := by
  intro x; rw [posi_neg hn]; exact h x

def J (A : Prop) (ok : Bool) (m : List (Int × Bool)) (l : List Int) : Prop := (ok = true ∧ A ∧ (posi l).Nodup ∧ Seen m l) ∨ (ok = false ∧ ¬ (A ∧ (posi l).Nodup))

theorem J.pos {A : Prop} {m : List (Int × Bool)} {l : List Int} {n : Int} (h : J A true m l) (hn : 0 ≤ n) : J A (!(mget (false, .int .i64) m n false)) (mset (false, .int .i64) m n true) (l ++ [n]) := by
  rcases h with ⟨_, h1, h2, h3⟩ | ⟨h, _⟩
  rotate_left
  · simp at h
  have := h3 n
  unfold J
  rw [this, nodup_pos hn]
  by_cases hm : n ∈ posi l
  · right; exact ⟨by simp [hm], fun h => h.2.2 hm⟩
  · left; exact ⟨by simp [hm], h1, ⟨h2, hm⟩, seen_pos h3 hn⟩

theorem J.neg {A : Prop} {ok : Bool} {m : List (Int × Bool)} {l : List Int} {n : Int} (h : J A ok m l) (hn : n < 0) : J A ok m (l ++ [n]) := by
  unfold J at h ⊢
  rw [posi_neg hn]
  rcases h with ⟨h0, h1, h2, h3⟩ | h
  · exact .inl ⟨h0, h1, h2, seen_neg h3 hn⟩
  · exact .inr h

theorem J.bad {A : Prop} {m m' : List (Int × Bool)} {l : List Int} {n : Int} (h : J A false m l) : J A false m' (l ++ [n]) := by
  rcases h with ⟨h, _⟩ | ⟨_, h⟩
  · simp at h
  · refine .inr ⟨rfl, fun g => h ⟨g.1, ?_⟩⟩
    have := g.2
    rw [posi_snoc] at this
    split at this
    · exact (nodup_snoc.1 this).1
    · exact this

theorem m25p_ok (A : Prop) (g : List Int) (hg : g.length ≤ 32) (q : List Int) (ok : Bool) (m : List (Int × Bool)) (h : J A ok m q) : Ok (m25p g (ok, (0, m))) (fun r => J A r.1 r.2 (q ++ g)) := by
  unfold m25p
  refine Ok.loop g.length (fun i x => x.2.1 = (i : Int) ∧ J A x.1 x.2.2 (q ++ g.take i)) ⟨rfl, by simpa using h⟩ ?_
  rintro i ⟨x1, x2, x3⟩ hi ⟨hx, hj⟩
  simp only at hx hj
  subst hx
  refine Ok.cond (fun hc => ?_) (fun hc => Ok.inr (by simp only at hc; rw [List.take_of_length_le (by omega)] at hj; exact hj))
  simp only [Int.toNat_natCast] at hc ⊢
  have hi' : i < g.length := by omega
  rw [wrap64 (n := (i : Int) + 1) (by omega) (by omega), take_snoc g i hi' 0, ← List.append_assoc]
  refine Ok.gd (by omega) (Ok.gd (by omega) ?_)
  refine Ok.condb (fun e => ?_) (fun e => ?_)
  · subst e
    refine Ok.cond (fun h1 => ?_) (fun h1 => ?_)
    · exact Ok.cond (fun _ => Ok.inl ⟨hi', by simp, hj.pos h1⟩) (fun h => absurd h1 h)
    · exact Ok.cond (fun h => absurd h h1) (fun _ => Ok.inl ⟨hi', by simp, hj.neg (by omega)⟩)
  · subst e
    exact Ok.inl ⟨hi', by simp, hj.bad⟩

structure Good (P L K : Int) (D : List Int) (H : List Bool) (S : Int × (Int × Int)) (G : List Log) : Prop where
  li : Lists P L K D H S G
  d1 : ∀ i, i < D.length → -1 ≤ D.getD i 0 ∧ D.getD i 0 ≤ 255
  hd : ∀ p, p < H.length → H.getD p false = true → 0 ≤ D.getD (p / P.toNat) 0
  nb : (posi (S.1 :: D ++ G.map (·.1))).Nodup
  np : (posi (G.flatMap (·.2))).Nodup

theorem blk_lt {P L : Int} {D : List Int} {H : List Bool} (hs : shape P L 1) (h1 : (D.length : Int) = L) (h2 : (H.length : Int) = P * L) (i : Nat) (hi : i < H.length) : i / P.toNat < D.length := by
  obtain ⟨p1, p2, p3, p4, _⟩ := hs
  obtain ⟨Q, rfl⟩ : ∃ Q : Nat, P = Q := ⟨P.toNat, by omega⟩
  have : H.length = Q * D.length := by
    have : ((H.length : Nat) : Int) = ((Q * D.length : Nat) : Int) := by rw [h2, Int.natCast_mul, h1]
    exact_mod_cast this
  simp only [Int.toNat_natCast]
  exact Nat.div_lt_of_lt_mul (by omega)

theorem m25r_ok (P L K : Int) (D : List Int) (H : List Bool) (S : Int × (Int × Int)) (G : List Log) (hl : Lists P L K D H S G) (ok : Bool) (m : List (Int × Bool)) (h0 : J True ok m [S.1]) :
    Ok (m25r ((P, (L, (K, (D, (H, (S, G)))))), ()) (ok, (0, m))) (fun r => (r.1 = 0 ∧ Good P L K D H S G) ∨ (r.1 = 50 ∧ ¬ Good P L K D H S G)) := by
  have hs := hl.sh
  obtain ⟨p1, p2, p3, p4, p5, p6⟩ := hs
  have hDl := hl.dl
  have hHl := hl.hl
  have hGl := hl.gl
  unfold m25r
  refine Ok.bind (S := fun y => J (∀ k, k < D.length → -1 ≤ D.getD k 0 ∧ D.getD k 0 ≤ 255) y.1 y.2 (S.1 :: D)) (Ok.loop D.length (fun i x => x.2.1 = (i : Int) ∧ J (∀ k, k < i → -1 ≤ D.getD k 0 ∧ D.getD k 0 ≤ 255) x.1 x.2.2 ([S.1] ++ D.take i)) ⟨rfl, ?_⟩ ?_) fun y hy => ?_
  · simpa [J] using h0
  · rintro i ⟨x1, x2, x3⟩ hi ⟨hx, hj⟩
    simp only at hx hj
    subst hx
    refine Ok.cond (fun hc => ?_) (fun hc => Ok.inr (by simp only at hc; obtain rfl : i = D.length := by omega
                                                        rw [List.take_of_length_le (by omega)] at hj; exact hj))
    simp only [Int.toNat_natCast] at hc ⊢
    have hi' : i < D.length := by omega
    rw [wrap64 (n := (i : Int) + 1) (by omega) (by omega), take_snoc D i hi' 0, ← List.append_assoc, m40_eq]
    simp only [Option.bind_some]
    have up : -1 ≤ D.getD i 0 ∧ D.getD i 0 ≤ 255 → ∀ {ok m l}, J (∀ k, k < i → -1 ≤ D.getD k 0 ∧ D.getD k 0 ≤ 255) ok m l → J (∀ k, k < i + 1 → -1 ≤ D.getD k 0 ∧ D.getD k 0 ≤ 255) ok m l := by
      intro hd ok m l h
      have : (∀ k, k < i + 1 → -1 ≤ D.getD k 0 ∧ D.getD k 0 ≤ 255) ↔ (∀ k, k < i → -1 ≤ D.getD k 0 ∧ D.getD k 0 ≤ 255) :=
        ⟨fun h k hk => h k (by omega), fun h k hk => by by_cases e : k = i
                                                        · subst e; exact hd
                                                        · exact h k (by omega)⟩
      unfold J at h ⊢
      rw [this]; exact h
    refine Ok.gd (by omega) (Ok.gd (by omega) ?_)
    refine Ok.condb (fun e => ?_) (fun e => ?_)
    · subst e
      refine Ok.cond (fun hd => ?_) (fun hd => Ok.inl ⟨hi', by simp, .inr ⟨rfl, fun h => hd (h.1 i (by omega))⟩⟩)
      refine Ok.cond (fun h1 => ?_) (fun h1 => ?_)
      · exact Ok.cond (fun _ => Ok.inl ⟨hi', by simp, up hd (hj.pos h1)⟩) (fun h => absurd h1 h)
      · exact Ok.cond (fun h => absurd h h1) (fun _ => Ok.inl ⟨hi', by simp, up hd (hj.neg (by omega))⟩)
    · subst e
      refine Ok.inl ⟨hi', by simp, .inr ⟨rfl, fun h => ?_⟩⟩
      rcases hj.bad (m' := x3) (n := D.getD i 0) with ⟨h', _⟩ | ⟨_, h'⟩
      · simp at h'
      · exact h' ⟨fun k hk => h.1 k (by omega), h.2⟩
  -- the logs
  have hA : ∀ n : Nat, n ≤ G.length → ∀ g ∈ G.take n, g.2.length ≤ 32 := fun n hn g hg => by
    obtain ⟨i, hi, e⟩ := List.getElem_of_mem hg
    rw [List.getElem_take] at e
    have hi2 : i < G.length := by simp at hi; omega
    have := (hl.lg i hi2).le
    rw [List.getD_eq_getElem?_getD, List.getElem?_eq_getElem hi2] at this
    simp only [Option.getD_some] at this
    rw [e] at this
    omega
  obtain ⟨C, hC⟩ : ∃ C : Prop, C = (∀ k, k < D.length → -1 ≤ D.getD k 0 ∧ D.getD k 0 ≤ 255) := ⟨_, rfl⟩
  rw [← hC] at hy
  have lstep : ∀ i, i < G.length → ∀ (A : Prop) (ok1 : Bool) (mb mp : List (Int × Bool)) (q : List Int) (hq : J A ok1 mp q), Ok (m25p (G.getD i (0, [])).2 (ok1, (0, mp))) (fun r => J A r.1 r.2 (q ++ (G.getD i (0, [])).2)) := fun i hi A ok1 mb mp q hq =>
    m25p_ok A _ (hA G.length (by omega) _ (by rw [List.take_of_length_le (by omega)]; exact getD_mem hi)) q ok1 mp hq
  refine Ok.bind (S := fun y => (y.1 = true ∧ C ∧ (posi (S.1 :: D ++ G.map (·.1))).Nodup ∧ (posi (G.flatMap (·.2))).Nodup) ∨ (y.1 = false ∧ ¬ (C ∧ (posi (S.1 :: D ++ G.map (·.1))).Nodup ∧ (posi (G.flatMap (·.2))).Nodup)))
    (Ok.loop G.length (fun i x => x.2.1 = (i : Int) ∧ J (C ∧ (posi (S.1 :: D ++ (G.take i).map (·.1))).Nodup) x.1 x.2.2.2 ((G.take i).flatMap (·.2)) ∧ (x.1 = true → Seen x.2.2.1 (S.1 :: D ++ (G.take i).map (·.1)))) ⟨rfl, ?_, ?_⟩ ?_) fun y2 hy2 => ?_
  · simp only [List.take_zero, List.map_nil, List.append_nil, List.flatMap_nil]
    rcases hy with ⟨h1, h2, h3, h4⟩ | ⟨h1, h2⟩
    · exact .inl ⟨h1, ⟨h2, h3⟩, by simp [posi], seen_nil⟩
    · exact .inr ⟨h1, fun h => h2 h.1⟩
  · simp only [List.take_zero, List.map_nil, List.append_nil]
    intro h
    rcases hy with ⟨_, _, _, h4⟩ | ⟨h1, _⟩
    · exact h4
    · rw [h] at h1; simp at h1
  · rintro i ⟨x1, x2, x3, x4⟩ hi ⟨hx, hj, hsn⟩
    simp only at hx hj hsn
    subst hx
    refine Ok.cond (fun hc => ?_) (fun hc => Ok.inr ?_)
    · simp only [Int.toNat_natCast] at hc ⊢
      have hi' : i < G.length := by omega
      rw [wrap64 (n := (i : Int) + 1) (by omega) (by omega), take_snoc G i hi' (0, []), List.map_append, List.flatMap_append, ← List.append_assoc]
      simp only [List.map_cons, List.map_nil, List.flatMap_cons, List.flatMap_nil, List.append_nil]
      have hp0 := (hl.lg i hi').p0
      refine Ok.gd (by omega) (Ok.gd (by omega) ?_)
      refine Ok.condb (fun e => ?_) (fun e => ?_)
      · subst e
        refine Ok.cond (fun h1 => Ok.cond (fun _ => ?_) (fun h => absurd hp0 h)) (fun h => absurd hp0 h)
        have hsn := hsn rfl
        have hj2 : J (C ∧ (posi (S.1 :: D ++ (G.take i).map (·.1) ++ [(G.getD i (0, [])).1])).Nodup) (!(mget (false, .int .i64) x3 (G.getD i (0, [])).1 false)) x4 ((G.take i).flatMap (·.2)) := by
          rcases hj with ⟨_, h1, h2, h3⟩ | ⟨h, _⟩
          · rw [hsn, nodup_pos hp0]
            by_cases hm : (G.getD i (0, [])).1 ∈ posi (S.1 :: D ++ (G.take i).map (·.1))
            · exact .inr ⟨by rw [decide_eq_true hm]; rfl, fun h => h.1.2.2 hm⟩
            · exact .inl ⟨by rw [decide_eq_false hm]; rfl, ⟨h1.1, h1.2, hm⟩, h2, h3⟩
          · simp at h
        refine Ok.bind (lstep i hi' _ _ x3 x4 _ hj2) fun r hr => ?_
        exact Ok.inl ⟨hi', by simp, hr, fun _ => seen_pos hsn hp0⟩
      · subst e
        have hj2 : J (C ∧ (posi (S.1 :: D ++ (G.take i).map (·.1) ++ [(G.getD i (0, [])).1])).Nodup) false x4 ((G.take i).flatMap (·.2)) := by
          rcases hj with ⟨h, _⟩ | ⟨_, h⟩
          · simp at h
          · exact .inr ⟨rfl, fun g => h ⟨⟨g.1.1, ((nodup_pos hp0).1 g.1.2).1⟩, g.2⟩⟩
        refine Ok.bind (lstep i hi' _ _ x3 x4 _ hj2) fun r hr => ?_
        refine Ok.inl ⟨hi', by simp, hr, fun h => ?_⟩
        rcases hr with ⟨_, hA, h2, _⟩ | ⟨h', _⟩
        · rcases hj2 with ⟨h', _⟩ | ⟨_, h'⟩
          · simp at h'
          · refine absurd ⟨hA, ?_⟩ h'
            rw [posi_app] at h2
            exact (List.nodup_append.1 h2).1
        · rw [h] at h'; simp at h'
    · simp only at hc
      obtain rfl : i = G.length := by omega
      rw [List.take_of_length_le (by omega)] at hj
      rcases hj with ⟨h1, h2, h3, _⟩ | ⟨h1, h2⟩
      · exact .inl ⟨h1, h2.1, h2.2, h3⟩
      · exact .inr ⟨h1, fun h => h2 ⟨⟨h.1, h.2.1⟩, h.2.2⟩⟩
  -- the pages that are there
  obtain ⟨Q, rfl⟩ : ∃ Q : Nat, P = Q := ⟨P.toNat, by omega⟩
  have hsm := shape_mul hl.sh
  have hdv := blk_lt (L := L) (D := D) (H := H) ⟨p1, p2, p3, p4, by omega, by omega⟩ hDl hHl
  simp only [Int.toNat_natCast] at hdv
  obtain ⟨B, hB⟩ : ∃ B : Prop, B = (C ∧ (posi (S.1 :: D ++ G.map (·.1))).Nodup ∧ (posi (G.flatMap (·.2))).Nodup) := ⟨_, rfl⟩
  rw [← hB] at hy2
  refine Ok.bind (S := fun y => (y = true ↔ B ∧ ∀ p, p < H.length → H.getD p false = true → 0 ≤ D.getD (p / Q) 0)) (Ok.loop H.length (fun i x => x.2 = (i : Int) ∧ (x.1 = true ↔ B ∧ ∀ p, p < i → H.getD p false = true → 0 ≤ D.getD (p / Q) 0)) ⟨rfl, ?_⟩ ?_) fun y3 hy3 => ?_
  · simp only
    rcases hy2 with ⟨h1, h2⟩ | ⟨h1, h2⟩
    · rw [h1]; exact ⟨fun _ => ⟨hB ▸ h2, fun p hp => by omega⟩, fun _ => rfl⟩
    · rw [h1]; exact ⟨fun h => by simp at h, fun h => absurd (hB ▸ h.1) h2⟩
  · rintro i ⟨x1, x2⟩ hi ⟨hx, hg⟩
    simp only at hx hg
    subst hx
    refine Ok.cond (fun hc => ?_) (fun hc => Ok.inr (by simp only at hc; obtain rfl : i = H.length := by omega
                                                        exact hg))
    simp only [Int.toNat_natCast] at hc ⊢
    have hi' : i < H.length := by omega
    have hdi := hdv i hi'
    obtain ⟨n, hmv⟩ : ∃ n, i / Q = n := ⟨_, rfl⟩
    have e1 : Int.tdiv (i : Int) (Q : Int) = (n : Int) := by rw [Int.tdiv_eq_ediv_of_nonneg (by omega), ← hmv]; rfl
    rw [hmv] at hdi
    rw [wrap64 (n := (i : Int) + 1) (by omega) (by omega), e1, wrap64 (n := (n : Int)) (by omega) (by omega)]
    simp only [Int.toNat_natCast]
    have more : (H.getD i false = true → 0 ≤ D.getD n 0) → ((∀ p, p < i + 1 → H.getD p false = true → 0 ≤ D.getD (p / Q) 0) ↔ (∀ p, p < i → H.getD p false = true → 0 ≤ D.getD (p / Q) 0)) := fun hn =>
      ⟨fun h k hk => h k (by omega), fun h k hk hv => by by_cases e : k = i
                                                         · subst e; rw [hmv]; exact hn hv
                                                         · exact h k (by omega) hv⟩
    refine Ok.gd (by omega) (Ok.gd (by omega) ?_)
    refine Ok.condb (fun e => ?_) (fun e => ?_)
    · refine Ok.condb (fun hh => ?_) (fun hh => ?_)
      · refine Ok.inl ⟨hi', by simp, ?_⟩
        simp only [Bool.not_eq_true'] at hh
        simp only
        rw [more (fun h => by rw [hh] at h; simp at h), ← hg]
        exact ⟨fun _ => e, fun _ => trivial⟩
      · refine Ok.ite (fun h => by omega) (fun _ => Ok.gd (by omega) (Ok.gd (by omega) ?_))
        refine Ok.inl ⟨hi', by simp, ?_⟩
        simp only [Bool.not_eq_false'] at hh
        simp only [decide_eq_true_eq]
        have := hg.1 e
        constructor
        · intro h; rw [more fun _ => h]; exact this
        · intro h; have := h.2 i (by omega) hh; rw [hmv] at this; exact this
    · refine Ok.inl ⟨hi', by simp, fun h => by simp at h, fun h => ?_⟩
      have : x1 = true := hg.2 ⟨h.1, fun p hp => h.2 p (by omega)⟩
      rw [e] at this; simp at this
  have fin : y3 = true ↔ Good Q L K D H S G := by
    rw [hy3, hB, hC]
    constructor
    · rintro ⟨⟨h1, h2, h3⟩, h4⟩
      exact ⟨hl, h1, by simpa using h4, h2, h3⟩
    · intro h
      exact ⟨⟨h.d1, h.nb, h.np⟩, by simpa using h.hd⟩
  refine Ok.condb (fun h => Ok.some (.inr ⟨rfl, fun g => ?_⟩)) (fun h => Ok.some (.inl ⟨rfl, ?_⟩))
  · rw [fin.2 g] at h; simp at h
  · simp only [Bool.not_eq_false'] at h
    exact fin.1 h

theorem m25_ok (P L K : Int) (D : List Int) (H : List Bool) (S : Int × (Int × Int)) (G : List Log) :
    Ok (m25 ((P, (L, (K, (D, (H, (S, G)))))), ())) (fun r => (r.1 = 0 ∧ Good P L K D H S G) ∨ (r.1 = 50 ∧ ¬ Good P L K D H S G)) := by
  unfold m25
  refine Ok.bind (m59_ok P L K D H S G) fun y hy => ?_
  refine Ok.condb (fun h => Ok.some (.inr ⟨rfl, fun g => ?_⟩)) (fun h => ?_)
  · rw [hy.2 g.li] at h; simp at h
  simp only [Bool.not_eq_false'] at h
  have hl := hy.1 h
  refine Ok.cond (fun h1 => Ok.cond (fun _ => ?_) (fun h => absurd h1 h)) (fun h1 => Ok.cond (fun h => absurd h h1) (fun _ => ?_))
  · refine m25r_ok P L K D H S G hl _ _ ?_
    have := J.pos (A := True) (m := []) (l := []) (n := S.1) (.inl ⟨rfl, trivial, by simp [posi], seen_nil⟩) h1
    simpa using this
  · refine m25r_ok P L K D H S G hl _ _ ?_
    have := J.neg (A := True) (ok := true) (m := []) (l := []) (n := S.1) (.inl ⟨rfl, trivial, by simp [posi], seen_nil⟩) (by simp only at h1; omega)
    simpa using this
end Go.Proofs.Ytecadglgkhfaaaa
end

section
open Go Go.Proofs.AM
namespace Go.Proofs.Ytecadglgkhfaaaa

noncomputable def m72 (x : tT × Unit) : Option (Bool × Unit) :=
 bif (decide (x.1.2.2.2.2.2.1.1 < (0 : Int))) then
 (bif (decide (x.1.2.2.2.2.2.1.1 = (-1 : Int))) then
 (bif (decide (x.1.2.2.2.2.2.1.2.1 = (0 : Int))) then
 (some ((decide (x.1.2.2.2.2.2.1.2.2 = (0 : Int))), ()))
 else
 (some (false, ())))
 else
 (some (false, ())))
 else
 (bif (decide (x.1.2.2.2.2.2.1.2.1 ≥ (0 : Int))) then
 (bif (decide (x.1.2.2.2.2.2.1.2.1 < x.1.2.1)) then
 (bif (decide (x.1.2.2.2.2.2.1.2.2 ≥ (0 : Int))) then
 (some ((decide (x.1.2.2.2.2.2.1.2.2 ≤ x.1.1)), ()))
 else
 (some (false, ())))
 else
 (some (false, ())))
 else
 (some (false, ())))

noncomputable def r72 : PDen [(true, kT)] → Option (PDen [(false, .bool)]) := fun x => afun Try.prog ({ envOf [] [] [] [] with deep := [79] }) ⟨[], []⟩ Try.f72 [(true, kT)] [(false, .bool)] false x
theorem r72_eq : r72 = m72 := by kernel_rfl

theorem c72 : CS.Sound Try.prog 72 ⟨[(true, kT)], [(false, .bool)], false, m72⟩ := afun_sound' (Env.Sound.deepen (envOf_sound (CSs.nil) (HDs.nil) (IDs.nil)) [79]) rfl Try.follows (f := 72) (fn := Try.f72) Try.func72 (by kernel_rfl) (by kernel_rfl) r72_eq
end Go.Proofs.Ytecadglgkhfaaaa
end

section
open Go Go.Proofs.AM
namespace Go.Proofs.Ytecadglgkhfaaaa

noncomputable def m73p (n : Int) (g : List Int) (z : Int × List Bool) : Option ((List Bool) ⊕ (Bool × (List Bool))) :=
 loopM (X := (Int × (List Bool))) (E := ((List Bool) ⊕ (Bool × (List Bool)))) (fun (x2 : (Int × (List Bool))) => bif (decide (x2.1 < (((List.length g) : Nat) : Int))) then (gd ((0 : Int) ≤ x2.1) (gd (x2.1 < (((List.length g) : Nat) : Int)) (bif (decide ((List.getD g (Int.toNat x2.1) (0 : Int)) < (-1 : Int))) then (some (Sum.inr (Sum.inr (false, x2.2)))) else (bif (decide ((List.getD g (Int.toNat x2.1) (0 : Int)) ≥ n)) then (some (Sum.inr (Sum.inr (false, x2.2)))) else (bif (decide ((List.getD g (Int.toNat x2.1) (0 : Int)) ≥ (0 : Int))) then (gd ((0 : Int) ≤ (List.getD g (Int.toNat x2.1) (0 : Int))) (gd ((List.getD g (Int.toNat x2.1) (0 : Int)) < (((List.length x2.2) : Nat) : Int)) (gd ((Int.toNat (List.getD g (Int.toNat x2.1) (0 : Int))) < (List.length x2.2)) (bif (List.getD x2.2 (Int.toNat (List.getD g (Int.toNat x2.1) (0 : Int))) false) then (some (Sum.inr (Sum.inr (false, x2.2)))) else (bif (decide ((List.getD g (Int.toNat x2.1) (0 : Int)) ≥ (0 : Int))) then (gd ((0 : Int) ≤ (List.getD g (Int.toNat x2.1) (0 : Int))) (gd ((List.getD g (Int.toNat x2.1) (0 : Int)) < (((List.length x2.2) : Nat) : Int)) (gd ((Int.toNat (List.getD g (Int.toNat x2.1) (0 : Int))) < (List.length x2.2)) (some (Sum.inl ((Go.IntKind.wrap .i64 (x2.1 + (1 : Int))), (List.set x2.2 (Int.toNat (List.getD g (Int.toNat x2.1) (0 : Int))) true))))))) else (some (Sum.inl ((Go.IntKind.wrap .i64 (x2.1 + (1 : Int))), x2.2)))))))) else (bif (decide ((List.getD g (Int.toNat x2.1) (0 : Int)) ≥ (0 : Int))) then (gd ((0 : Int) ≤ (List.getD g (Int.toNat x2.1) (0 : Int))) (gd ((List.getD g (Int.toNat x2.1) (0 : Int)) < (((List.length x2.2) : Nat) : Int)) (gd ((Int.toNat (List.getD g (Int.toNat x2.1) (0 : Int))) < (List.length x2.2)) (some (Sum.inl ((Go.IntKind.wrap .i64 (x2.1 + (1 : Int))), (List.set x2.2 (Int.toNat (List.getD g (Int.toNat x2.1) (0 : Int))) true))))))) else (some (Sum.inl ((Go.IntKind.wrap .i64 (x2.1 + (1 : Int))), x2.2))))))))) else (some (Sum.inr (Sum.inl x2.2)))) z

noncomputable def m73 (x : tT × Unit) : Option (Bool × Unit) :=
 bif (decide ((((List.length x.1.2.2.2.2.2.2) : Nat) : Int) > x.1.2.2.1)) then
 (some (false, ()))
 else
 (gd ((0 : Int) ≤ (Go.IntKind.wrap .i64 (x.1.1 * x.1.2.1))) (gd ((Go.IntKind.wrap .i64 (x.1.1 * x.1.2.1)) ≤ (Go.IntKind.wrap .i64 (x.1.1 * x.1.2.1))) (gd (((Go.IntKind.wrap .i64 (x.1.1 * x.1.2.1)) * (1 : Int)) ≤ (140737488355328 : Int)) (Option.bind (loopM (X := (Int × (List Bool))) (E := ((List Bool) ⊕ (Bool × (List Bool)))) (fun (x1 : (Int × (List Bool))) =>
 bif (decide (x1.1 < (((List.length x.1.2.2.2.2.2.2) : Nat) : Int))) then
 (gd ((0 : Int) ≤ x1.1) (gd (x1.1 < (((List.length x.1.2.2.2.2.2.2) : Nat) : Int)) (bif (decide ((List.getD x.1.2.2.2.2.2.2 (Int.toNat x1.1) ((0 : Int), ([] : List Int))).1 < (0 : Int))) then
 (some (Sum.inr (Sum.inr (false, x1.2))))
 else
 (bif (decide ((((List.length (List.getD x.1.2.2.2.2.2.2 (Int.toNat x1.1) ((0 : Int), ([] : List Int))).2) : Nat) : Int) > x.1.1)) then
 (some (Sum.inr (Sum.inr (false, x1.2))))
 else
 (bif (decide (x1.1 < (Go.IntKind.wrap .i64 ((((List.length x.1.2.2.2.2.2.2) : Nat) : Int) - (1 : Int))))) then
 (bif (!(decide ((((List.length (List.getD x.1.2.2.2.2.2.2 (Int.toNat x1.1) ((0 : Int), ([] : List Int))).2) : Nat) : Int) = x.1.1))) then
 (some (Sum.inr (Sum.inr (false, x1.2))))
 else
 (Option.bind (m73p (Go.IntKind.wrap .i64 (x.1.1 * x.1.2.1)) ((List.getD x.1.2.2.2.2.2.2 (Int.toNat x1.1) ((0 : Int), ([] : List Int))).2) ((0 : Int), x1.2)) fun (y2 : ((List Bool) ⊕ (Bool × (List Bool)))) =>
 Sum.elim (fun y3 =>
 some (Sum.inl ((Go.IntKind.wrap .i64 (x1.1 + (1 : Int))), y3))) (fun y3 =>
 some (Sum.inr (Sum.inr (y3.1, y3.2)))) y2))
 else
 (Option.bind (m73p (Go.IntKind.wrap .i64 (x.1.1 * x.1.2.1)) ((List.getD x.1.2.2.2.2.2.2 (Int.toNat x1.1) ((0 : Int), ([] : List Int))).2) ((0 : Int), x1.2)) fun (y2 : ((List Bool) ⊕ (Bool × (List Bool)))) =>
 Sum.elim (fun y3 =>
 some (Sum.inl ((Go.IntKind.wrap .i64 (x1.1 + (1 : Int))), y3))) (fun y3 =>
 some (Sum.inr (Sum.inr (y3.1, y3.2)))) y2))))))
 else
 (some (Sum.inr (Sum.inl x1.2)))) ((0 : Int), (List.replicate (Int.toNat (Go.IntKind.wrap .i64 (x.1.1 * x.1.2.1))) false))) fun (y1 : ((List Bool) ⊕ (Bool × (List Bool)))) =>
 Sum.elim (fun y2 =>
 some (true, ())) (fun y2 =>
 some (y2.1, ())) y1))))

noncomputable def r73 : PDen [(true, kT)] → Option (PDen [(false, .bool)]) := fun x => afun Try.prog ({ envOf [] [] [] [] with deep := [79] }) ⟨[(0, ⟨[.slot 4 (.d false (.int .i64) true), .vec 1 4 .bool true], [], [(some 0, [.vec 1 4 .bool true]), (none, [.slot 2 (.d false .bool true), .vec 1 4 .bool true])], none⟩), (2, ⟨[.slot 6 (.d false (.int .i64) true), .vec 1 4 .bool true], [], [(some 2, [.vec 1 4 .bool true]), (none, [.slot 2 (.d false .bool true), .vec 1 4 .bool true])], none⟩)], []⟩ Try.f73 [(true, kT)] [(false, .bool)] false x
theorem r73_eq : r73 = m73 := by kernel_rfl

theorem c73 : CS.Sound Try.prog 73 ⟨[(true, kT)], [(false, .bool)], false, m73⟩ := afun_sound' (Env.Sound.deepen (envOf_sound (CSs.nil) (HDs.nil) (IDs.nil)) [79]) rfl Try.follows (f := 73) (fn := Try.f73) Try.func73 (by kernel_rfl) (by kernel_rfl) r73_eq
end Go.Proofs.Ytecadglgkhfaaaa
end

section
open Go Go.Proofs.AM
namespace Go.Proofs.Ytecadglgkhfaaaa

noncomputable def m74 (x : tT × Unit) : Option ((List Int) × Unit) :=
 Option.bind (loopM (X := ((List Int) × Int)) (E := (List Int)) (fun (x1 : ((List Int) × Int)) =>
 bif (decide (x1.2 < (((List.length x.1.2.2.2.1) : Nat) : Int))) then
 (gd ((0 : Int) ≤ x1.2) (gd (x1.2 < (((List.length x.1.2.2.2.1) : Nat) : Int)) (bif (decide ((List.getD x.1.2.2.2.1 (Int.toNat x1.2) (0 : Int)) ≥ (0 : Int))) then
 (gd ((0 : Int) ≤ x1.2) (gd (x1.2 < (((List.length x.1.2.2.2.1) : Nat) : Int)) (gd ((((List.length x1.1) + (List.length ((List.getD x.1.2.2.2.1 (Int.toNat x1.2) (0 : Int)) :: ([] : List Int)))) * 8) ≤ 140737488355328) (gd (((List.length x1.1) + (List.length ((List.getD x.1.2.2.2.1 (Int.toNat x1.2) (0 : Int)) :: ([] : List Int)))) ≤ 140737488355328) (some (Sum.inl ((x1.1 ++ ((List.getD x.1.2.2.2.1 (Int.toNat x1.2) (0 : Int)) :: ([] : List Int))), (Go.IntKind.wrap .i64 (x1.2 + (1 : Int))))))))))
 else
 (some (Sum.inl (x1.1, (Go.IntKind.wrap .i64 (x1.2 + (1 : Int)))))))))
 else
 (some (Sum.inr x1.1))) (([] : List Int), (0 : Int))) fun (y1 : (List Int)) =>
 bif (decide (x.1.2.2.2.2.2.1.1 ≥ (0 : Int))) then
 (gd ((((List.length y1) + (List.length (x.1.2.2.2.2.2.1.1 :: ([] : List Int)))) * 8) ≤ 140737488355328) (gd (((List.length y1) + (List.length (x.1.2.2.2.2.2.1.1 :: ([] : List Int)))) ≤ 140737488355328) (Option.bind (loopM (X := ((List Int) × Int)) (E := (List Int)) (fun (x2 : ((List Int) × Int)) =>
 bif (decide (x2.2 < (((List.length x.1.2.2.2.2.2.2) : Nat) : Int))) then
 (gd ((0 : Int) ≤ x2.2) (gd (x2.2 < (((List.length x.1.2.2.2.2.2.2) : Nat) : Int)) (gd ((((List.length x2.1) + (List.length ((List.getD x.1.2.2.2.2.2.2 (Int.toNat x2.2) ((0 : Int), ([] : List Int))).1 :: ([] : List Int)))) * 8) ≤ 140737488355328) (gd (((List.length x2.1) + (List.length ((List.getD x.1.2.2.2.2.2.2 (Int.toNat x2.2) ((0 : Int), ([] : List Int))).1 :: ([] : List Int)))) ≤ 140737488355328) (some (Sum.inl ((x2.1 ++ ((List.getD x.1.2.2.2.2.2.2 (Int.toNat x2.2) ((0 : Int), ([] : List Int))).1 :: ([] : List Int))), (Go.IntKind.wrap .i64 (x2.2 + (1 : Int))))))))))
 else
 (some (Sum.inr x2.1))) ((y1 ++ (x.1.2.2.2.2.2.1.1 :: ([] : List Int))), (0 : Int))) fun (y2 : (List Int)) =>
 some (y2, ()))))
 else
 (Option.bind (loopM (X := ((List Int) × Int)) (E := (List Int)) (fun (x2 : ((List Int) × Int)) =>
 bif (decide (x2.2 < (((List.length x.1.2.2.2.2.2.2) : Nat) : Int))) then
 (gd ((0 : Int) ≤ x2.2) (gd (x2.2 < (((List.length x.1.2.2.2.2.2.2) : Nat) : Int)) (gd ((((List.length x2.1) + (List.length ((List.getD x.1.2.2.2.2.2.2 (Int.toNat x2.2) ((0 : Int), ([] : List Int))).1 :: ([] : List Int)))) * 8) ≤ 140737488355328) (gd (((List.length x2.1) + (List.length ((List.getD x.1.2.2.2.2.2.2 (Int.toNat x2.2) ((0 : Int), ([] : List Int))).1 :: ([] : List Int)))) ≤ 140737488355328) (some (Sum.inl ((x2.1 ++ ((List.getD x.1.2.2.2.2.2.2 (Int.toNat x2.2) ((0 : Int), ([] : List Int))).1 :: ([] : List Int))), (Go.IntKind.wrap .i64 (x2.2 + (1 : Int))))))))))
 else
 (some (Sum.inr x2.1))) (y1, (0 : Int))) fun (y2 : (List Int)) =>
 some (y2, ()))

noncomputable def r74 : PDen [(true, kT)] → Option (PDen [(false, (.sl (.int .i64)))]) := fun x => afun Try.prog ({ envOf [] [] [] [] with deep := [79] }) ⟨[(2000, ⟨[.slot 3 (.v 3 (.int .i64) true), .slot 4 (.d false (.int .i64) true)], [], [(some 0, [.slot 3 (.v 3 (.int .i64) true)])], none⟩), (3002, ⟨[.slot 3 (.v 3 (.int .i64) true), .slot 5 (.d false (.int .i64) true)], [1], [(some 2, [.slot 3 (.v 3 (.int .i64) true)])], none⟩), (5002, ⟨[.slot 3 (.v 3 (.int .i64) true), .slot 5 (.d false (.int .i64) true)], [3], [(some 2, [.slot 3 (.v 3 (.int .i64) true)])], none⟩)], []⟩ Try.f74 [(true, kT)] [(false, (.sl (.int .i64)))] false x
theorem r74_eq : r74 = m74 := by kernel_rfl

theorem c74 : CS.Sound Try.prog 74 ⟨[(true, kT)], [(false, (.sl (.int .i64)))], false, m74⟩ := afun_sound' (Env.Sound.deepen (envOf_sound (CSs.nil) (HDs.nil) (IDs.nil)) [79]) rfl Try.follows (f := 74) (fn := Try.f74) Try.func74 (by kernel_rfl) (by kernel_rfl) r74_eq
end Go.Proofs.Ytecadglgkhfaaaa
end

section
open Go Go.Proofs.AM
namespace Go.Proofs.Ytecadglgkhfaaaa

noncomputable def m71 (x : Int × Int × Int × Unit) : Option (tT × (Int × Unit)) :=
 bif (decide (x.1 < (4 : Int))) then
 (some (((0 : Int), ((0 : Int), ((0 : Int), (([] : List Int), (([] : List Bool), (((0 : Int), ((0 : Int), (0 : Int))), ([] : List (Int × (List Int))))))))), ((1 : Int), ())))
 else
 (bif (decide (x.1 > (32 : Int))) then
 (some (((0 : Int), ((0 : Int), ((0 : Int), (([] : List Int), (([] : List Bool), (((0 : Int), ((0 : Int), (0 : Int))), ([] : List (Int × (List Int))))))))), ((1 : Int), ())))
 else
 (bif (decide (x.2.1 < (1 : Int))) then
 (some (((0 : Int), ((0 : Int), ((0 : Int), (([] : List Int), (([] : List Bool), (((0 : Int), ((0 : Int), (0 : Int))), ([] : List (Int × (List Int))))))))), ((1 : Int), ())))
 else
 (bif (decide (x.2.1 > (256 : Int))) then
 (some (((0 : Int), ((0 : Int), ((0 : Int), (([] : List Int), (([] : List Bool), (((0 : Int), ((0 : Int), (0 : Int))), ([] : List (Int × (List Int))))))))), ((1 : Int), ())))
 else
 (bif (decide (x.2.2.1 < (1 : Int))) then
 (some (((0 : Int), ((0 : Int), ((0 : Int), (([] : List Int), (([] : List Bool), (((0 : Int), ((0 : Int), (0 : Int))), ([] : List (Int × (List Int))))))))), ((1 : Int), ())))
 else
 (bif (decide (x.2.2.1 > (8 : Int))) then
 (some (((0 : Int), ((0 : Int), ((0 : Int), (([] : List Int), (([] : List Bool), (((0 : Int), ((0 : Int), (0 : Int))), ([] : List (Int × (List Int))))))))), ((1 : Int), ())))
 else
 (Option.bind (loopM (X := (Int × eT)) (E := eT) (fun (x1 : (Int × eT)) =>
 bif (decide (x1.1 < x.2.1)) then
 (gd ((((List.length x1.2.2.2.2.1) + (List.length ((-1 : Int) :: ([] : List Int)))) * 8) ≤ 140737488355328) (gd (((List.length x1.2.2.2.2.1) + (List.length ((-1 : Int) :: ([] : List Int)))) ≤ 140737488355328) (some (Sum.inl ((Go.IntKind.wrap .i64 (x1.1 + (1 : Int))), (x1.2.1, (x1.2.2.1, (x1.2.2.2.1, ((x1.2.2.2.2.1 ++ ((-1 : Int) :: ([] : List Int))), (x1.2.2.2.2.2.1, (x1.2.2.2.2.2.2.1, (x1.2.2.2.2.2.2.2.1, (x1.2.2.2.2.2.2.2.2.1, x1.2.2.2.2.2.2.2.2.2)))))))))))))
 else
 (some (Sum.inr (x1.2.1, (x1.2.2.1, (x1.2.2.2.1, (x1.2.2.2.2.1, (x1.2.2.2.2.2.1, (x1.2.2.2.2.2.2.1, (x1.2.2.2.2.2.2.2.1, (x1.2.2.2.2.2.2.2.2.1, x1.2.2.2.2.2.2.2.2.2))))))))))) ((0 : Int), (x.1, (x.2.1, (x.2.2.1, (([] : List Int), (([] : List Bool), ((0 : Int), ((0 : Int), ((0 : Int), ([] : List (Int × (List Int))))))))))))) fun (y1 : eT) =>
 gd ((0 : Int) ≤ (Go.IntKind.wrap .i64 (x.1 * x.2.1))) (gd ((Go.IntKind.wrap .i64 (x.1 * x.2.1)) ≤ (Go.IntKind.wrap .i64 (x.1 * x.2.1))) (gd (((Go.IntKind.wrap .i64 (x.1 * x.2.1)) * (1 : Int)) ≤ (140737488355328 : Int)) (some ((y1.1, (y1.2.1, (y1.2.2.1, (y1.2.2.2.1, ((List.replicate (Int.toNat (Go.IntKind.wrap .i64 (x.1 * x.2.1))) false), (((-1 : Int), (y1.2.2.2.2.2.2.1, y1.2.2.2.2.2.2.2.1)), y1.2.2.2.2.2.2.2.2)))))), ((0 : Int), ())))))))))))

noncomputable def r71 : PDen [(false, (.int .i64)), (false, (.int .i64)), (false, (.int .i64))] → Option (PDen [(true, kT), (false, (.int .i64))]) := fun x => afunM Try.prog ({ envOf [] [] [] [] with deep := [79] }) ⟨[(0, ⟨[.slot 9 (.d false (.int .i64) true), .cell 1 0 (.d false (.int .i64) true), .cell 1 1 (.d false (.int .i64) true), .cell 1 2 (.d false (.int .i64) true), .cell 1 3 (.v 3 (.int .i64) true), .cell 1 4 (.d false (.sl .bool) false), .cell 1 5 (.d false (.int .i64) true), .cell 1 6 (.d false (.int .i64) true), .cell 1 7 (.d false (.int .i64) true), .cell 1 8 (.d false (.sl (.pair (.int .i64) (.sl (.int .i64)))) false)], [], [(some 0, [.cell 1 0 (.d false (.int .i64) true), .cell 1 1 (.d false (.int .i64) true), .cell 1 2 (.d false (.int .i64) true), .cell 1 3 (.v 3 (.int .i64) true), .cell 1 4 (.d false (.sl .bool) false), .cell 1 5 (.d false (.int .i64) true), .cell 1 6 (.d false (.int .i64) true), .cell 1 7 (.d false (.int .i64) true), .cell 1 8 (.d false (.sl (.pair (.int .i64) (.sl (.int .i64)))) false)])], none⟩)], []⟩ Try.f71 [(false, (.int .i64)), (false, (.int .i64)), (false, (.int .i64))] [(true, kT), (false, (.int .i64))] [(.p .d (.p .d (.p .d (.p (.s 3) (.p (.s 4) .d))))), .d] true x
theorem r71_eq : r71 = m71 := by kernel_rfl

theorem c71 : OM.Sound Try.prog 71 ⟨[(false, (.int .i64)), (false, (.int .i64)), (false, (.int .i64))], [(true, kT), (false, (.int .i64))], [(.p .d (.p .d (.p .d (.p (.s 3) (.p (.s 4) .d))))), .d], true, m71⟩ := afunM_sound' (Env.Sound.deepen (envOf_sound (CSs.nil) (HDs.nil) (IDs.nil)) [79]) rfl Try.follows (f := 71) (fn := Try.f71) Try.func71 (by kernel_rfl) (by kernel_rfl) r71_eq
end Go.Proofs.Ytecadglgkhfaaaa
end

section
open Go Go.Proofs.AM
namespace Go.Proofs.Ytecadglgkhfaaaa

noncomputable def m43 (x : tT × Unit) : Option (Int × Unit) :=
 Option.bind (m71 (x.1.1, (x.1.2.1, (x.1.2.2.1, ())))) fun (y1 : (tT × (Int × Unit))) =>
 bif (!(decide (y1.2.1 = (0 : Int)))) then
 (some ((50 : Int), ()))
 else
 (bif (!(decide ((((List.length x.1.2.2.2.1) : Nat) : Int) = x.1.2.1))) then
 (some ((50 : Int), ()))
 else
 (bif (!(decide ((((List.length x.1.2.2.2.2.1) : Nat) : Int) = (Go.IntKind.wrap .i64 (x.1.2.1 * x.1.1))))) then
 (some ((50 : Int), ()))
 else
 (Option.bind (loopM (X := Int) (E := (Unit ⊕ Int)) (fun (x2 : Int) =>
 bif (decide (x2 < (((List.length x.1.2.2.2.1) : Nat) : Int))) then
 (gd ((0 : Int) ≤ x2) (gd (x2 < (((List.length x.1.2.2.2.1) : Nat) : Int)) (bif (decide ((List.getD x.1.2.2.2.1 (Int.toNat x2) (0 : Int)) < (-1 : Int))) then
 (some (Sum.inr (Sum.inr (50 : Int))))
 else
 (some (Sum.inl (Go.IntKind.wrap .i64 (x2 + (1 : Int))))))))
 else
 (some (Sum.inr (Sum.inl ())))) (0 : Int)) fun (y2 : (Unit ⊕ Int)) =>
 Sum.elim (fun y3 =>
 Option.bind (loopM (X := Int) (E := (Unit ⊕ Int)) (fun (x4 : Int) =>
 bif (decide (x4 < (((List.length x.1.2.2.2.2.1) : Nat) : Int))) then
 (gd ((0 : Int) ≤ x4) (gd (x4 < (((List.length x.1.2.2.2.2.1) : Nat) : Int)) (bif (List.getD x.1.2.2.2.2.1 (Int.toNat x4) false) then
 (if x.1.1 = (0 : Int) then
 (none)
 else
 (gd ((0 : Int) ≤ (Go.IntKind.wrap .i64 (Int.tdiv x4 x.1.1))) (gd ((Go.IntKind.wrap .i64 (Int.tdiv x4 x.1.1)) < (((List.length x.1.2.2.2.1) : Nat) : Int)) (bif (decide ((List.getD x.1.2.2.2.1 (Int.toNat (Go.IntKind.wrap .i64 (Int.tdiv x4 x.1.1))) (0 : Int)) < (0 : Int))) then
 (some (Sum.inr (Sum.inr (50 : Int))))
 else
 (some (Sum.inl (Go.IntKind.wrap .i64 (x4 + (1 : Int)))))))))
 else
 (some (Sum.inl (Go.IntKind.wrap .i64 (x4 + (1 : Int))))))))
 else
 (some (Sum.inr (Sum.inl ())))) (0 : Int)) fun (y4 : (Unit ⊕ Int)) =>
 Sum.elim (fun y5 =>
 Option.bind (m72 (x.1, ())) fun (y6 : (Bool × Unit)) =>
 bif (!y6.1) then
 (some ((50 : Int), ()))
 else
 (Option.bind (m73 (x.1, ())) fun (y7 : (Bool × Unit)) =>
 bif (!y7.1) then
 (some ((50 : Int), ()))
 else
 (gd (((256 : Int) * (1 : Int)) ≤ (140737488355328 : Int)) (Option.bind (m74 (x.1, ())) fun (y8 : ((List Int) × Unit)) =>
 Option.bind (loopM (X := (Int × (List Bool))) (E := ((List Bool) ⊕ (Int × (List Bool)))) (fun (x9 : (Int × (List Bool))) =>
 bif (decide (x9.1 < (((List.length y8.1) : Nat) : Int))) then
 (gd ((0 : Int) ≤ x9.1) (gd (x9.1 < (((List.length y8.1) : Nat) : Int)) (bif (decide ((List.getD y8.1 (Int.toNat x9.1) (0 : Int)) ≥ (256 : Int))) then
 (some (Sum.inr (Sum.inr ((50 : Int), x9.2))))
 else
 (gd ((0 : Int) ≤ x9.1) (gd (x9.1 < (((List.length y8.1) : Nat) : Int)) (gd ((0 : Int) ≤ (List.getD y8.1 (Int.toNat x9.1) (0 : Int))) (gd ((List.getD y8.1 (Int.toNat x9.1) (0 : Int)) < (((List.length x9.2) : Nat) : Int)) (gd ((Int.toNat (List.getD y8.1 (Int.toNat x9.1) (0 : Int))) < (List.length x9.2)) (bif (List.getD x9.2 (Int.toNat (List.getD y8.1 (Int.toNat x9.1) (0 : Int))) false) then
 (some (Sum.inr (Sum.inr ((50 : Int), x9.2))))
 else
 (gd ((0 : Int) ≤ x9.1) (gd (x9.1 < (((List.length y8.1) : Nat) : Int)) (gd ((0 : Int) ≤ (List.getD y8.1 (Int.toNat x9.1) (0 : Int))) (gd ((List.getD y8.1 (Int.toNat x9.1) (0 : Int)) < (((List.length x9.2) : Nat) : Int)) (gd ((Int.toNat (List.getD y8.1 (Int.toNat x9.1) (0 : Int))) < (List.length x9.2)) (some (Sum.inl ((Go.IntKind.wrap .i64 (x9.1 + (1 : Int))), (List.set x9.2 (Int.toNat (List.getD y8.1 (Int.toNat x9.1) (0 : Int))) true))))))))))))))))))
 else
 (some (Sum.inr (Sum.inl x9.2)))) ((0 : Int), (List.replicate (Int.toNat (256 : Int)) false))) fun (y9 : ((List Bool) ⊕ (Int × (List Bool)))) =>
 Sum.elim (fun y10 =>
 some ((0 : Int), ())) (fun y10 =>
 some (y10.1, ())) y9)))) (fun y5 =>
 some (y5, ())) y4) (fun y3 =>
 some (y3, ())) y2)))

noncomputable def clr (t : tT) : Option eT :=
  (loopM (X := (Int × eT)) (E := eT) (fun (x3 : (Int × eT)) =>
                  bif (decide (x3.1 < (((List.length t.2.2.2.2.2.2) : Nat) : Int))) then
                    (gd ((0 : Int) ≤ x3.1) (gd (x3.1 < (((List.length t.2.2.2.2.2.2) : Nat) : Int)) (gd ((0 : Int) ≤ x3.1) (gd (x3.1 < (((List.length t.2.2.2.2.2.2) : Nat) : Int)) (gd ((((List.length ([] : List Int)) + (List.length (List.getD t.2.2.2.2.2.2 (Int.toNat x3.1) ((0 : Int), ([] : List Int))).2)) * 8) ≤ 140737488355328) (gd (((List.length ([] : List Int)) + (List.length (List.getD t.2.2.2.2.2.2 (Int.toNat x3.1) ((0 : Int), ([] : List Int))).2)) ≤ 140737488355328) (gd ((((List.length x3.2.2.2.2.2.2.2.2.2) + 1) * 32) ≤ 140737488355328) (gd (((List.length x3.2.2.2.2.2.2.2.2.2) + 1) ≤ 140737488355328) (some (Sum.inl ((Go.IntKind.wrap .i64 (x3.1 + (1 : Int))), (x3.2.1, (x3.2.2.1, (x3.2.2.2.1, (x3.2.2.2.2.1, (x3.2.2.2.2.2.1, (x3.2.2.2.2.2.2.1, (x3.2.2.2.2.2.2.2.1, (x3.2.2.2.2.2.2.2.2.1, (x3.2.2.2.2.2.2.2.2.2 ++ (((List.getD t.2.2.2.2.2.2 (Int.toNat x3.1) ((0 : Int), ([] : List Int))).1, (([] : List Int) ++ (List.getD t.2.2.2.2.2.2 (Int.toNat x3.1) ((0 : Int), ([] : List Int))).2)) :: ([] : List (Int × (List Int))))))))))))))))))))))))
                  else
                    (some (Sum.inr (x3.2.1, (x3.2.2.1, (x3.2.2.2.1, (x3.2.2.2.2.1, (x3.2.2.2.2.2.1, (x3.2.2.2.2.2.2.1, (x3.2.2.2.2.2.2.2.1, (x3.2.2.2.2.2.2.2.2.1, x3.2.2.2.2.2.2.2.2.2))))))))))) ((0 : Int), (t.1, (t.2.1, (t.2.2.1, ((([] : List Int) ++ t.2.2.2.1), ((([] : List Bool) ++ t.2.2.2.2.1), (t.2.2.2.2.2.1.1, (t.2.2.2.2.2.1.2.1, (t.2.2.2.2.2.1.2.2, ([] : List (Int × (List Int)))))))))))))

noncomputable def r43 : PDen [(true, kT)] → Option (PDen [(false, (.int .i64))]) := fun x => afun Try.prog ({ envOf [(72, ⟨[(true, kT)], [(false, .bool)], false, m72⟩), (73, ⟨[(true, kT)], [(false, .bool)], false, m73⟩), (74, ⟨[(true, kT)], [(false, (.sl (.int .i64)))], false, m74⟩)] [(71, OM.hd ⟨[(false, (.int .i64)), (false, (.int .i64)), (false, (.int .i64))], [(true, kT), (false, (.int .i64))], [(.p .d (.p .d (.p .d (.p (.s 3) (.p (.s 4) .d))))), .d], true, m71⟩)] [] [] with deep := [79] }) ⟨[(0, ⟨[.slot 5 (.d false (.int .i64) true)], [], [(some 0, []), (none, [.slot 2 (.d false (.int .i64) true)])], none⟩), (2, ⟨[.slot 6 (.d false (.int .i64) true)], [], [(some 2, []), (none, [.slot 2 (.d false (.int .i64) true)])], none⟩), (4, ⟨[.slot 9 (.d false (.int .i64) true), .vec 4 4 .bool true], [], [(some 4, [.vec 4 4 .bool true]), (none, [.slot 2 (.d false (.int .i64) true), .vec 4 4 .bool true])], none⟩)], []⟩ Try.f43 [(true, kT)] [(false, (.int .i64))] false x
theorem r43_eq : r43 = m43 := by kernel_rfl

theorem c43 : CS.Sound Try.prog 43 ⟨[(true, kT)], [(false, (.int .i64))], false, m43⟩ := afun_sound' (Env.Sound.deepen (envOf_sound (CSs.cons c72 (CSs.cons c73 (CSs.cons c74 (CSs.nil)))) (HDs.cons (OM.Sound.hd c71) (HDs.nil)) (IDs.nil)) [79]) rfl Try.follows (f := 43) (fn := Try.f43) Try.func43 (by kernel_rfl) (by kernel_rfl) r43_eq
end Go.Proofs.Ytecadglgkhfaaaa
end

section
namespace Go.Proofs.Ytecadglgkhfaaaa
open Go Go.Proofs.AM

def RangeOk (n : Int) (g : List Int) : Prop := ∀ j, j < g.length → -1 ≤ g.getD j 0 ∧ g.getD j 0 < n

structure LogL (P L : Int) (n i : Nat) (g : Log) : Prop where
  p0 : 0 ≤ g.1
  le : (g.2.length : Int) ≤ P
  eq : i + 1 < n → (g.2.length : Int) = P
  pg : RangeOk (P * L) g.2

theorem posi_all {l : List Int} (h : ∀ x ∈ l, 0 ≤ x) : posi l = l := by
  unfold posi; rw [List.filter_eq_self]; intro a ha; simpa using h a ha

end Go.Proofs.Ytecadglgkhfaaaa
end

section
open Go Go.Proofs.AM
namespace Go.Proofs.Ytecadglgkhfaaaa

noncomputable def m11 (x : tT × Unit) : Option (Bool × Unit) :=
 bif (decide ((((List.length x.1.2.2.2.1) : Nat) : Int) ≤ (64 : Int))) then
 (bif (decide ((((List.length x.1.2.2.2.2.1) : Nat) : Int) ≤ (1024 : Int))) then
 (some ((decide ((((List.length x.1.2.2.2.2.2.2) : Nat) : Int) ≤ (12 : Int))), ()))
 else
 (some (false, ())))
 else
 (some (false, ()))

noncomputable def r11 : PDen [(true, kT)] → Option (PDen [(false, .bool)]) := fun x => afun Try.prog ({ envOf [] [] [] [] with deep := [79] }) ⟨[], []⟩ Try.f11 [(true, kT)] [(false, .bool)] false x
theorem r11_eq : r11 = m11 := by kernel_rfl

theorem c11 : CS.Sound Try.prog 11 ⟨[(true, kT)], [(false, .bool)], false, m11⟩ := afun_sound' (Env.Sound.deepen (envOf_sound (CSs.nil) (HDs.nil) (IDs.nil)) [79]) rfl Try.follows (f := 11) (fn := Try.f11) Try.func11 (by kernel_rfl) (by kernel_rfl) r11_eq
end Go.Proofs.Ytecadglgkhfaaaa
end

section
open Go Go.Proofs.AM
namespace Go.Proofs.Ytecadglgkhfaaaa

noncomputable def m44 (x : tT × Int × Unit) : Option (Bool × Unit) :=
 bif (decide (x.2.1 ≥ (0 : Int))) then
 (some ((decide (x.2.1 < (Go.IntKind.wrap .i64 (x.1.1 * x.1.2.1)))), ()))
 else
 (some (false, ()))

noncomputable def r44 : PDen [(true, kT), (false, (.int .i64))] → Option (PDen [(false, .bool)]) := fun x => afun Try.prog ({ envOf [] [] [] [] with deep := [79] }) ⟨[], []⟩ Try.f44 [(true, kT), (false, (.int .i64))] [(false, .bool)] false x
theorem r44_eq : r44 = m44 := by kernel_rfl

theorem c44 : CS.Sound Try.prog 44 ⟨[(true, kT), (false, (.int .i64))], [(false, .bool)], false, m44⟩ := afun_sound' (Env.Sound.deepen (envOf_sound (CSs.nil) (HDs.nil) (IDs.nil)) [79]) rfl Try.follows (f := 44) (fn := Try.f44) Try.func44 (by kernel_rfl) (by kernel_rfl) r44_eq
end Go.Proofs.Ytecadglgkhfaaaa
end

section
open Go Go.Proofs.AM
namespace Go.Proofs.Ytecadglgkhfaaaa

noncomputable def m75 (x : tT × Int × Unit) : Option ((Int × Int) × (Bool × Unit)) :=
 Option.bind (loopM (X := (Int × (Int × Int))) (E := ((Int × Int) ⊕ (Bool × (Int × Int)))) (fun (x1 : (Int × (Int × Int))) =>
 bif (decide (x1.1 < (((List.length x.1.2.2.2.2.2.2) : Nat) : Int))) then
 (Option.bind (loopM (X := (Int × (Int × Int))) (E := ((Int × Int) ⊕ (Bool × (Int × Int)))) (fun (x2 : (Int × (Int × Int))) =>
 gd ((0 : Int) ≤ x1.1) (gd (x1.1 < (((List.length x.1.2.2.2.2.2.2) : Nat) : Int)) (bif (decide (x2.1 < (((List.length (List.getD x.1.2.2.2.2.2.2 (Int.toNat x1.1) ((0 : Int), ([] : List Int))).2) : Nat) : Int))) then
 (gd ((0 : Int) ≤ x1.1) (gd (x1.1 < (((List.length x.1.2.2.2.2.2.2) : Nat) : Int)) (gd ((0 : Int) ≤ x2.1) (gd (x2.1 < (((List.length (List.getD x.1.2.2.2.2.2.2 (Int.toNat x1.1) ((0 : Int), ([] : List Int))).2) : Nat) : Int)) (bif (decide ((List.getD (List.getD x.1.2.2.2.2.2.2 (Int.toNat x1.1) ((0 : Int), ([] : List Int))).2 (Int.toNat x2.1) (0 : Int)) = x.2.1)) then
 (gd ((0 : Int) ≤ x1.1) (gd (x1.1 < (((List.length x.1.2.2.2.2.2.2) : Nat) : Int)) (some (Sum.inr (Sum.inr (true, ((List.getD x.1.2.2.2.2.2.2 (Int.toNat x1.1) ((0 : Int), ([] : List Int))).1, x2.1)))))))
 else
 (some (Sum.inl ((Go.IntKind.wrap .i64 (x2.1 + (1 : Int))), (x2.2.1, x2.2.2)))))))))
 else
 (some (Sum.inr (Sum.inl (x2.2.1, x2.2.2))))))) ((0 : Int), (x1.2.1, x1.2.2))) fun (y2 : ((Int × Int) ⊕ (Bool × (Int × Int)))) =>
 Sum.elim (fun y3 =>
 some (Sum.inl ((Go.IntKind.wrap .i64 (x1.1 + (1 : Int))), (y3.1, y3.2)))) (fun y3 =>
 some (Sum.inr (Sum.inr (y3.1, (y3.2.1, y3.2.2))))) y2)
 else
 (some (Sum.inr (Sum.inl (x1.2.1, x1.2.2))))) ((0 : Int), ((0 : Int), (0 : Int)))) fun (y1 : ((Int × Int) ⊕ (Bool × (Int × Int)))) =>
 Sum.elim (fun y2 =>
 some (((0 : Int), (0 : Int)), (false, ()))) (fun y2 =>
 some (y2.2, (y2.1, ()))) y1

noncomputable def r75 : PDen [(true, kT), (false, (.int .i64))] → Option (PDen [(true, (.pair (.int .i64) (.int .i64))), (false, .bool)]) := fun x => afun Try.prog ({ envOf [] [] [] [] with deep := [79] }) ⟨[(0, ⟨[.slot 6 (.d false (.int .i64) true), .cell 1 0 (.d false (.int .i64) true), .cell 1 1 (.d false (.int .i64) true)], [], [(some 0, [.cell 1 0 (.d false (.int .i64) true), .cell 1 1 (.d false (.int .i64) true)]), (none, [.slot 5 (.d false .bool true), .cell 1 0 (.d false (.int .i64) true), .cell 1 1 (.d false (.int .i64) true)])], none⟩), (2, ⟨[.slot 7 (.d false (.int .i64) true), .cell 1 0 (.d false (.int .i64) true), .cell 1 1 (.d false (.int .i64) true)], [], [(some 2, [.cell 1 0 (.d false (.int .i64) true), .cell 1 1 (.d false (.int .i64) true)]), (none, [.slot 5 (.d false .bool true), .cell 1 0 (.d false (.int .i64) true), .cell 1 1 (.d false (.int .i64) true)])], none⟩)], []⟩ Try.f75 [(true, kT), (false, (.int .i64))] [(true, (.pair (.int .i64) (.int .i64))), (false, .bool)] false x
theorem r75_eq : r75 = m75 := by kernel_rfl

theorem c75 : CS.Sound Try.prog 75 ⟨[(true, kT), (false, (.int .i64))], [(true, (.pair (.int .i64) (.int .i64))), (false, .bool)], false, m75⟩ := afun_sound' (Env.Sound.deepen (envOf_sound (CSs.nil) (HDs.nil) (IDs.nil)) [79]) rfl Try.follows (f := 75) (fn := Try.f75) Try.func75 (by kernel_rfl) (by kernel_rfl) r75_eq
end Go.Proofs.Ytecadglgkhfaaaa
end

section
open Go Go.Proofs.AM
namespace Go.Proofs.Ytecadglgkhfaaaa

noncomputable def m45 (x : tT × Unit) : Option (Bool × Unit) :=
 Option.bind (loopM (X := Int) (E := (Unit ⊕ Bool)) (fun (x1 : Int) =>
 bif (decide (x1 < x.1.2.2.2.2.2.1.2.2)) then
 (Option.bind (m75 (x.1, ((Go.IntKind.wrap .i64 ((Go.IntKind.wrap .i64 (x.1.2.2.2.2.2.1.2.1 * x.1.1)) + x1)), ()))) fun (y2 : ((Int × Int) × (Bool × Unit))) =>
 bif y2.2.1 then
 (some (Sum.inr (Sum.inr true)))
 else
 (some (Sum.inl (Go.IntKind.wrap .i64 (x1 + (1 : Int))))))
 else
 (some (Sum.inr (Sum.inl ())))) (0 : Int)) fun (y1 : (Unit ⊕ Bool)) =>
 Sum.elim (fun y2 =>
 some (false, ())) (fun y2 =>
 some (y2, ())) y1

noncomputable def r45 : PDen [(true, kT)] → Option (PDen [(false, .bool)]) := fun x => afun Try.prog ({ envOf [(75, ⟨[(true, kT), (false, (.int .i64))], [(true, (.pair (.int .i64) (.int .i64))), (false, .bool)], false, m75⟩)] [] [] [] with deep := [79] }) ⟨[(0, ⟨[.slot 3 (.d false (.int .i64) true)], [], [(some 0, []), (none, [.slot 2 (.d false .bool true)])], none⟩)], []⟩ Try.f45 [(true, kT)] [(false, .bool)] false x
theorem r45_eq : r45 = m45 := by kernel_rfl

theorem c45 : CS.Sound Try.prog 45 ⟨[(true, kT)], [(false, .bool)], false, m45⟩ := afun_sound' (Env.Sound.deepen (envOf_sound (CSs.cons c75 (CSs.nil)) (HDs.nil) (IDs.nil)) [79]) rfl Try.follows (f := 45) (fn := Try.f45) Try.func45 (by kernel_rfl) (by kernel_rfl) r45_eq
end Go.Proofs.Ytecadglgkhfaaaa
end

section
open Go Go.Proofs.AM
namespace Go.Proofs.Ytecadglgkhfaaaa

noncomputable def m46 (x : tT × Unit) : Option (Bool × Unit) :=
 bif (decide ((((List.length x.1.2.2.2.2.2.2) : Nat) : Int) > (0 : Int))) then
 (gd ((0 : Int) ≤ (Go.IntKind.wrap .i64 ((((List.length x.1.2.2.2.2.2.2) : Nat) : Int) - (1 : Int)))) (gd ((Go.IntKind.wrap .i64 ((((List.length x.1.2.2.2.2.2.2) : Nat) : Int) - (1 : Int))) < (((List.length x.1.2.2.2.2.2.2) : Nat) : Int)) (some ((decide ((((List.length (List.getD x.1.2.2.2.2.2.2 (Int.toNat (Go.IntKind.wrap .i64 ((((List.length x.1.2.2.2.2.2.2) : Nat) : Int) - (1 : Int)))) ((0 : Int), ([] : List Int))).2) : Nat) : Int) < x.1.1)), ()))))
 else
 (some (false, ()))

noncomputable def r46 : PDen [(true, kT)] → Option (PDen [(false, .bool)]) := fun x => afun Try.prog ({ envOf [] [] [] [] with deep := [79] }) ⟨[], []⟩ Try.f46 [(true, kT)] [(false, .bool)] false x
theorem r46_eq : r46 = m46 := by kernel_rfl

theorem c46 : CS.Sound Try.prog 46 ⟨[(true, kT)], [(false, .bool)], false, m46⟩ := afun_sound' (Env.Sound.deepen (envOf_sound (CSs.nil) (HDs.nil) (IDs.nil)) [79]) rfl Try.follows (f := 46) (fn := Try.f46) Try.func46 (by kernel_rfl) (by kernel_rfl) r46_eq
end Go.Proofs.Ytecadglgkhfaaaa
end

section
open Go Go.Proofs.AM
namespace Go.Proofs.Ytecadglgkhfaaaa

noncomputable def m14t (x : tT × Int × Unit) : Option ((Int × Int) × (Int × Unit)) :=
 (bif (decide ((Int.tmod x.2.1 x.1.1) = (0 : Int))) then
 (bif (decide (x.1.2.2.2.2.2.1.1 < (0 : Int))) then
 (some (((3 : Int), (Go.IntKind.wrap .i64 (Int.tdiv x.2.1 x.1.1))), ((0 : Int), ())))
 else
 (Option.bind (m45 (x.1, ())) fun (y3 : (Bool × Unit)) =>
 bif y3.1 then
 (some (((7 : Int), x.1.2.2.2.2.2.1.2.1), ((0 : Int), ())))
 else
 (bif (decide (x.1.2.2.2.2.2.1.2.2 = x.1.1)) then
 (some (((5 : Int), x.1.2.2.2.2.2.1.2.1), ((0 : Int), ())))
 else
 (some (((6 : Int), x.1.2.2.2.2.2.1.2.1), ((0 : Int), ()))))))
 else
 (Option.bind (m46 (x.1, ())) fun (y3 : (Bool × Unit)) =>
 bif y3.1 then
 (some (((2 : Int), (0 : Int)), ((0 : Int), ())))
 else
 (bif (decide ((((List.length x.1.2.2.2.2.2.2) : Nat) : Int) < x.1.2.2.1)) then
 (some (((4 : Int), (0 : Int)), ((0 : Int), ())))
 else
 (Option.bind (loopM (X := (Int × (Int × Int))) (E := ((Int × Int) ⊕ (Int × (Int × Int)))) (fun (x4 : (Int × (Int × Int))) =>
 gd ((0 : Int) < (((List.length x.1.2.2.2.2.2.2) : Nat) : Int)) (bif (decide (x4.1 < (((List.length (List.getD x.1.2.2.2.2.2.2 (Int.toNat (0 : Int)) ((0 : Int), ([] : List Int))).2) : Nat) : Int))) then
 (gd ((0 : Int) < (((List.length x.1.2.2.2.2.2.2) : Nat) : Int)) (gd ((0 : Int) ≤ x4.1) (gd (x4.1 < (((List.length (List.getD x.1.2.2.2.2.2.2 (Int.toNat (0 : Int)) ((0 : Int), ([] : List Int))).2) : Nat) : Int)) (bif (decide ((List.getD (List.getD x.1.2.2.2.2.2.2 (Int.toNat (0 : Int)) ((0 : Int), ([] : List Int))).2 (Int.toNat x4.1) (0 : Int)) ≥ (0 : Int))) then
 (gd ((0 : Int) < (((List.length x.1.2.2.2.2.2.2) : Nat) : Int)) (gd ((0 : Int) ≤ x4.1) (gd (x4.1 < (((List.length (List.getD x.1.2.2.2.2.2.2 (Int.toNat (0 : Int)) ((0 : Int), ([] : List Int))).2) : Nat) : Int)) (if x.1.1 = (0 : Int) then
 (none)
 else
 (some (Sum.inr (Sum.inr ((0 : Int), ((8 : Int), (Go.IntKind.wrap .i64 (Int.tdiv (List.getD (List.getD x.1.2.2.2.2.2.2 (Int.toNat (0 : Int)) ((0 : Int), ([] : List Int))).2 (Int.toNat x4.1) (0 : Int)) x.1.1)))))))))))
 else
 (some (Sum.inl ((Go.IntKind.wrap .i64 (x4.1 + (1 : Int))), (x4.2.1, x4.2.2))))))))
 else
 (some (Sum.inr (Sum.inl (x4.2.1, x4.2.2)))))) ((0 : Int), ((0 : Int), (0 : Int)))) fun (y4 : ((Int × Int) ⊕ (Int × (Int × Int)))) =>
 Sum.elim (fun y5 =>
 some (((9 : Int), (0 : Int)), ((0 : Int), ()))) (fun y5 =>
 some (y5.2, (y5.1, ()))) y4))))

noncomputable def m14 (x : tT × Int × Unit) : Option ((Int × Int) × (Int × Unit)) :=
 Option.bind (m43 (x.1, ())) fun (y1 : (Int × Unit)) =>
 bif (!(decide (y1.1 = (0 : Int)))) then
 (some (((0 : Int), (0 : Int)), (y1.1, ())))
 else
 (Option.bind (m44 (x.1, (x.2.1, ()))) fun (y2 : (Bool × Unit)) =>
 bif (!y2.1) then
 (some (((0 : Int), (0 : Int)), ((1 : Int), ())))
 else
 (if x.1.1 = (0 : Int) then
 (none)
 else
 (if x.1.1 = (0 : Int) then
 (none)
 else
 (bif (decide (x.1.2.2.2.2.2.1.1 ≥ (0 : Int))) then
 (bif (decide (x.1.2.2.2.2.2.1.2.1 = (Go.IntKind.wrap .i64 (Int.tdiv x.2.1 x.1.1)))) then
 (bif (decide (x.1.2.2.2.2.2.1.2.2 = (Int.tmod x.2.1 x.1.1))) then
 (some (((1 : Int), (Go.IntKind.wrap .i64 (Int.tdiv x.2.1 x.1.1))), ((0 : Int), ())))
 else
 (m14t x))
 else
 (m14t x))
 else
 (m14t x)))))

noncomputable def r14 : PDen [(true, kT), (false, (.int .i64))] → Option (PDen [(true, (.pair (.int .i64) (.int .i64))), (false, (.int .i64))]) := fun x => afun Try.prog ({ envOf [(43, ⟨[(true, kT)], [(false, (.int .i64))], false, m43⟩), (44, ⟨[(true, kT), (false, (.int .i64))], [(false, .bool)], false, m44⟩), (45, ⟨[(true, kT)], [(false, .bool)], false, m45⟩), (46, ⟨[(true, kT)], [(false, .bool)], false, m46⟩)] [] [] [] with deep := [79] }) ⟨[(1, ⟨[.slot 10 (.d false (.int .i64) true), .cell 1 0 (.d false (.int .i64) true), .cell 1 1 (.d false (.int .i64) true)], [], [(some 1, [.cell 1 0 (.d false (.int .i64) true), .cell 1 1 (.d false (.int .i64) true)]), (none, [.slot 5 (.d false (.int .i64) true), .cell 1 0 (.d false (.int .i64) true), .cell 1 1 (.d false (.int .i64) true)])], none⟩)], []⟩ Try.f14 [(true, kT), (false, (.int .i64))] [(true, (.pair (.int .i64) (.int .i64))), (false, (.int .i64))] false x
theorem r14_eq : r14 = m14 := by kernel_rfl

theorem c14 : CS.Sound Try.prog 14 ⟨[(true, kT), (false, (.int .i64))], [(true, (.pair (.int .i64) (.int .i64))), (false, (.int .i64))], false, m14⟩ := afun_sound' (Env.Sound.deepen (envOf_sound (CSs.cons c43 (CSs.cons c44 (CSs.cons c45 (CSs.cons c46 (CSs.nil))))) (HDs.nil) (IDs.nil)) [79]) rfl Try.follows (f := 14) (fn := Try.f14) Try.func14 (by kernel_rfl) (by kernel_rfl) r14_eq
end Go.Proofs.Ytecadglgkhfaaaa
end

section
open Go Go.Proofs.AM
namespace Go.Proofs.Ytecadglgkhfaaaa

noncomputable def m79 (x : (List Int) × Int × Unit) : Option (Bool × Unit) :=
 Option.bind (loopM (X := Int) (E := (Unit ⊕ Bool)) (fun (x1 : Int) =>
 bif (decide (x1 < (((List.length x.1) : Nat) : Int))) then
 (gd ((0 : Int) ≤ x1) (gd (x1 < (((List.length x.1) : Nat) : Int)) (bif (decide ((List.getD x.1 (Int.toNat x1) (0 : Int)) = x.2.1)) then
 (some (Sum.inr (Sum.inr true)))
 else
 (some (Sum.inl (Go.IntKind.wrap .i64 (x1 + (1 : Int))))))))
 else
 (some (Sum.inr (Sum.inl ())))) (0 : Int)) fun (y1 : (Unit ⊕ Bool)) =>
 Sum.elim (fun y2 =>
 some (false, ())) (fun y2 =>
 some (y2, ())) y1

noncomputable def r79 : PDen [(false, (.sl (.int .i64))), (false, (.int .i64))] → Option (PDen [(false, .bool)]) := fun x => afun Try.prog ({ envOf [] [] [] [] with deep := [79] }) ⟨[(0, ⟨[.slot 5 (.d false (.int .i64) true)], [], [(some 0, []), (none, [.slot 4 (.d false .bool true)])], none⟩)], []⟩ Try.f79 [(false, (.sl (.int .i64))), (false, (.int .i64))] [(false, .bool)] false x
theorem r79_eq : r79 = m79 := by kernel_rfl

theorem c79 : CS.Sound Try.prog 79 ⟨[(false, (.sl (.int .i64))), (false, (.int .i64))], [(false, .bool)], false, m79⟩ := afun_sound' (Env.Sound.deepen (envOf_sound (CSs.nil) (HDs.nil) (IDs.nil)) [79]) rfl Try.follows (f := 79) (fn := Try.f79) Try.func79 (by kernel_rfl) (by kernel_rfl) r79_eq
end Go.Proofs.Ytecadglgkhfaaaa
end

section
open Go Go.Proofs.AM
namespace Go.Proofs.Ytecadglgkhfaaaa

noncomputable def m50 (x : tT × Int × Unit) : Option (Bool × Unit) :=
 bif (decide (x.2.1 ≥ (0 : Int))) then
 (bif (decide (x.2.1 < (256 : Int))) then
 (Option.bind (m74 (x.1, ())) fun (y1 : ((List Int) × Unit)) =>
 Option.bind (m79 (y1.1, (x.2.1, ()))) fun (y2 : (Bool × Unit)) =>
 some ((!y2.1), ()))
 else
 (some (false, ())))
 else
 (some (false, ()))

noncomputable def r50 : PDen [(true, kT), (false, (.int .i64))] → Option (PDen [(false, .bool)]) := fun x => afun Try.prog ({ envOf [(74, ⟨[(true, kT)], [(false, (.sl (.int .i64)))], false, m74⟩), (79, ⟨[(false, (.sl (.int .i64))), (false, (.int .i64))], [(false, .bool)], false, m79⟩)] [] [] [] with deep := [79] }) ⟨[], []⟩ Try.f50 [(true, kT), (false, (.int .i64))] [(false, .bool)] false x
theorem r50_eq : r50 = m50 := by kernel_rfl

theorem c50 : CS.Sound Try.prog 50 ⟨[(true, kT), (false, (.int .i64))], [(false, .bool)], false, m50⟩ := afun_sound' (Env.Sound.deepen (envOf_sound (CSs.cons c74 (CSs.cons c79 (CSs.nil))) (HDs.nil) (IDs.nil)) [79]) rfl Try.follows (f := 50) (fn := Try.f50) Try.func50 (by kernel_rfl) (by kernel_rfl) r50_eq
end Go.Proofs.Ytecadglgkhfaaaa
end

section
open Go Go.Proofs.AM
namespace Go.Proofs.Ytecadglgkhfaaaa

noncomputable def m16t (x : tT × (Int × Int) × Int × Unit) (y3 : eT) : Option (tT × (Int × Unit)) :=
 (bif (decide (x.2.1.1 = (4 : Int))) then
 (bif (decide ((((List.length x.1.2.2.2.2.2.2) : Nat) : Int) < x.1.2.2.1)) then
 (Option.bind (m46 (x.1, ())) fun (y4 : (Bool × Unit)) =>
 bif (!y4.1) then
 (gd ((((List.length y3.2.2.2.2.2.2.2.2) + 1) * 32) ≤ 140737488355328) (gd (((List.length y3.2.2.2.2.2.2.2.2) + 1) ≤ 140737488355328) (some ((y3.1, (y3.2.1, (y3.2.2.1, (y3.2.2.2.1, (y3.2.2.2.2.1, ((y3.2.2.2.2.2.1, (y3.2.2.2.2.2.2.1, y3.2.2.2.2.2.2.2.1)), (y3.2.2.2.2.2.2.2.2 ++ ((x.2.2.1, ([] : List Int)) :: ([] : List (Int × (List Int))))))))))), ((0 : Int), ())))))
 else
 (some (((0 : Int), ((0 : Int), ((0 : Int), (([] : List Int), (([] : List Bool), (((0 : Int), ((0 : Int), (0 : Int))), ([] : List (Int × (List Int))))))))), ((51 : Int), ()))))
 else
 (some (((0 : Int), ((0 : Int), ((0 : Int), (([] : List Int), (([] : List Bool), (((0 : Int), ((0 : Int), (0 : Int))), ([] : List (Int × (List Int))))))))), ((51 : Int), ()))))
 else
 (some (((0 : Int), ((0 : Int), ((0 : Int), (([] : List Int), (([] : List Bool), (((0 : Int), ((0 : Int), (0 : Int))), ([] : List (Int × (List Int))))))))), ((51 : Int), ()))))

noncomputable def m16 (x : tT × (Int × Int) × Int × Unit) : Option (tT × (Int × Unit)) :=
 Option.bind (m43 (x.1, ())) fun (y1 : (Int × Unit)) =>
 bif (!(decide (y1.1 = (0 : Int)))) then
 (some (((0 : Int), ((0 : Int), ((0 : Int), (([] : List Int), (([] : List Bool), (((0 : Int), ((0 : Int), (0 : Int))), ([] : List (Int × (List Int))))))))), (y1.1, ())))
 else
 (Option.bind (m50 (x.1, (x.2.2.1, ()))) fun (y2 : (Bool × Unit)) =>
 bif (!y2.1) then
 (some (((0 : Int), ((0 : Int), ((0 : Int), (([] : List Int), (([] : List Bool), (((0 : Int), ((0 : Int), (0 : Int))), ([] : List (Int × (List Int))))))))), ((1 : Int), ())))
 else
 (gd ((((List.length ([] : List Int)) + (List.length x.1.2.2.2.1)) * 8) ≤ 140737488355328) (gd (((List.length ([] : List Int)) + (List.length x.1.2.2.2.1)) ≤ 140737488355328) (gd ((((List.length ([] : List Bool)) + (List.length x.1.2.2.2.2.1)) * 1) ≤ 140737488355328) (gd (((List.length ([] : List Bool)) + (List.length x.1.2.2.2.2.1)) ≤ 140737488355328) (Option.bind (clr x.1) fun (y3 : eT) =>
 bif (decide (x.2.1.1 = (3 : Int))) then
 (bif (decide (x.1.2.2.2.2.2.1.1 < (0 : Int))) then
 (bif (decide (x.2.1.2 ≥ (0 : Int))) then
 (bif (decide (x.2.1.2 < x.1.2.1)) then
 (some ((y3.1, (y3.2.1, (y3.2.2.1, (y3.2.2.2.1, (y3.2.2.2.2.1, ((x.2.2.1, (x.2.1.2, (0 : Int))), y3.2.2.2.2.2.2.2.2)))))), ((0 : Int), ())))
 else
 (m16t x y3))
 else
 (m16t x y3))
 else
 (m16t x y3))
 else
 (m16t x y3)))))))

noncomputable def i16_12 : ID := aInl Try.prog ({ envOf [] [] [] [] with deep := [79] }) ⟨[(9000, ⟨[.slot 4 (.d false (.int .i64) true), .cell 5 0 (.d false (.int .i64) true), .cell 5 1 (.d false (.int .i64) true), .cell 5 2 (.d false (.int .i64) true), .cell 5 3 (.v 3 (.int .i64) true), .cell 5 4 (.v 4 .bool true), .cell 5 5 (.d false (.int .i64) true), .cell 5 6 (.d false (.int .i64) true), .cell 5 7 (.d false (.int .i64) true), .cell 5 8 (.h 79 3 (.int .i64) (.int .i64))], [6, 7], [(some 0, [.cell 5 0 (.d false (.int .i64) true), .cell 5 1 (.d false (.int .i64) true), .cell 5 2 (.d false (.int .i64) true), .cell 5 3 (.v 3 (.int .i64) true), .cell 5 4 (.v 4 .bool true), .cell 5 5 (.d false (.int .i64) true), .cell 5 6 (.d false (.int .i64) true), .cell 5 7 (.d false (.int .i64) true), .cell 5 8 (.h 79 3 (.int .i64) (.int .i64))])], none⟩)], []⟩ Try.f12
noncomputable def r16 : PDen [(true, kT), (true, (.pair (.int .i64) (.int .i64))), (false, (.int .i64))] → Option (PDen [(true, kT), (false, (.int .i64))]) := fun x => afun Try.prog ({ envOf [(43, ⟨[(true, kT)], [(false, (.int .i64))], false, m43⟩), (46, ⟨[(true, kT)], [(false, .bool)], false, m46⟩), (50, ⟨[(true, kT), (false, (.int .i64))], [(false, .bool)], false, m50⟩)] [] [] [(12, i16_12)] with deep := [79] }) ⟨[], []⟩ Try.f16 [(true, kT), (true, (.pair (.int .i64) (.int .i64))), (false, (.int .i64))] [(true, kT), (false, (.int .i64))] false x
theorem r16_eq : r16 = m16 := by kernel_rfl

theorem i16_12_sound : i16_12.Sound Try.prog 12 := aInl_sound' (Env.Sound.deepen (envOf_sound (CSs.nil) (HDs.nil) (IDs.nil)) [79]) Try.follows (f := 12) (fn := Try.f12) Try.func12 (by kernel_rfl) (by kernel_rfl)
theorem c16 : CS.Sound Try.prog 16 ⟨[(true, kT), (true, (.pair (.int .i64) (.int .i64))), (false, (.int .i64))], [(true, kT), (false, (.int .i64))], false, m16⟩ := afun_sound' (Env.Sound.deepen (envOf_sound (CSs.cons c43 (CSs.cons c46 (CSs.cons c50 (CSs.nil)))) (HDs.nil) (IDs.cons i16_12_sound (IDs.nil))) [79]) rfl Try.follows (f := 16) (fn := Try.f16) Try.func16 (by kernel_rfl) (by kernel_rfl) r16_eq
end Go.Proofs.Ytecadglgkhfaaaa
end

section
open Go Go.Proofs.AM
namespace Go.Proofs.Ytecadglgkhfaaaa

noncomputable def m51 (x : (List Int) × (List Int) × Unit) : Option (Bool × Unit) :=
 bif (!(decide ((((List.length x.1) : Nat) : Int) = (((List.length x.2.1) : Nat) : Int)))) then
 (some (false, ()))
 else
 (Option.bind (loopM (X := Int) (E := (Unit ⊕ Bool)) (fun (x1 : Int) =>
 bif (decide (x1 < (((List.length x.1) : Nat) : Int))) then
 (gd ((0 : Int) ≤ x1) (gd (x1 < (((List.length x.1) : Nat) : Int)) (gd ((0 : Int) ≤ x1) (gd (x1 < (((List.length x.2.1) : Nat) : Int)) (bif (!(decide ((List.getD x.1 (Int.toNat x1) (0 : Int)) = (List.getD x.2.1 (Int.toNat x1) (0 : Int))))) then
 (some (Sum.inr (Sum.inr false)))
 else
 (some (Sum.inl (Go.IntKind.wrap .i64 (x1 + (1 : Int))))))))))
 else
 (some (Sum.inr (Sum.inl ())))) (0 : Int)) fun (y1 : (Unit ⊕ Bool)) =>
 Sum.elim (fun y2 =>
 some (true, ())) (fun y2 =>
 some (y2, ())) y1)

noncomputable def r51 : PDen [(false, (.sl (.int .i64))), (false, (.sl (.int .i64)))] → Option (PDen [(false, .bool)]) := fun x => afun Try.prog ({ envOf [] [] [] [] with deep := [79] }) ⟨[(0, ⟨[.slot 5 (.d false (.int .i64) true)], [], [(some 0, []), (none, [.slot 4 (.d false .bool true)])], none⟩)], []⟩ Try.f51 [(false, (.sl (.int .i64))), (false, (.sl (.int .i64)))] [(false, .bool)] false x
theorem r51_eq : r51 = m51 := by kernel_rfl

theorem c51 : CS.Sound Try.prog 51 ⟨[(false, (.sl (.int .i64))), (false, (.sl (.int .i64)))], [(false, .bool)], false, m51⟩ := afun_sound' (Env.Sound.deepen (envOf_sound (CSs.nil) (HDs.nil) (IDs.nil)) [79]) rfl Try.follows (f := 51) (fn := Try.f51) Try.func51 (by kernel_rfl) (by kernel_rfl) r51_eq
end Go.Proofs.Ytecadglgkhfaaaa
end

section
open Go Go.Proofs.AM
namespace Go.Proofs.Ytecadglgkhfaaaa

noncomputable def m17 (x : tT × tT × Unit) : Option (Bool × Unit) :=
 bif (!(decide (x.1.1 = x.2.1.1))) then
 (some (false, ()))
 else
 (bif (!(decide (x.1.2.1 = x.2.1.2.1))) then
 (some (false, ()))
 else
 (bif (!(decide (x.1.2.2.1 = x.2.1.2.2.1))) then
 (some (false, ()))
 else
 (bif (!((decide (x.1.2.2.2.2.2.1.1 = x.2.1.2.2.2.2.2.1.1)) && ((decide (x.1.2.2.2.2.2.1.2.1 = x.2.1.2.2.2.2.2.1.2.1)) && (decide (x.1.2.2.2.2.2.1.2.2 = x.2.1.2.2.2.2.2.1.2.2))))) then
 (some (false, ()))
 else
 (Option.bind (m51 (x.1.2.2.2.1, (x.2.1.2.2.2.1, ()))) fun (y1 : (Bool × Unit)) =>
 bif (!y1.1) then
 (some (false, ()))
 else
 (bif (!(decide ((((List.length x.1.2.2.2.2.1) : Nat) : Int) = (((List.length x.2.1.2.2.2.2.1) : Nat) : Int)))) then
 (some (false, ()))
 else
 (bif (!(decide ((((List.length x.1.2.2.2.2.2.2) : Nat) : Int) = (((List.length x.2.1.2.2.2.2.2.2) : Nat) : Int)))) then
 (some (false, ()))
 else
 (Option.bind (loopM (X := Int) (E := (Unit ⊕ Bool)) (fun (x2 : Int) =>
 bif (decide (x2 < (((List.length x.1.2.2.2.2.1) : Nat) : Int))) then
 (gd ((0 : Int) ≤ x2) (gd (x2 < (((List.length x.1.2.2.2.2.1) : Nat) : Int)) (gd ((0 : Int) ≤ x2) (gd (x2 < (((List.length x.2.1.2.2.2.2.1) : Nat) : Int)) (bif (!(bif (List.getD x.1.2.2.2.2.1 (Int.toNat x2) false) then (List.getD x.2.1.2.2.2.2.1 (Int.toNat x2) false) else (!(List.getD x.2.1.2.2.2.2.1 (Int.toNat x2) false)))) then
 (some (Sum.inr (Sum.inr false)))
 else
 (some (Sum.inl (Go.IntKind.wrap .i64 (x2 + (1 : Int))))))))))
 else
 (some (Sum.inr (Sum.inl ())))) (0 : Int)) fun (y2 : (Unit ⊕ Bool)) =>
 Sum.elim (fun y3 =>
 Option.bind (loopM (X := Int) (E := (Unit ⊕ Bool)) (fun (x4 : Int) =>
 bif (decide (x4 < (((List.length x.1.2.2.2.2.2.2) : Nat) : Int))) then
 (gd ((0 : Int) ≤ x4) (gd (x4 < (((List.length x.1.2.2.2.2.2.2) : Nat) : Int)) (gd ((0 : Int) ≤ x4) (gd (x4 < (((List.length x.2.1.2.2.2.2.2.2) : Nat) : Int)) (bif (!(decide ((List.getD x.1.2.2.2.2.2.2 (Int.toNat x4) ((0 : Int), ([] : List Int))).1 = (List.getD x.2.1.2.2.2.2.2.2 (Int.toNat x4) ((0 : Int), ([] : List Int))).1))) then
 (some (Sum.inr (Sum.inr false)))
 else
 (gd ((0 : Int) ≤ x4) (gd (x4 < (((List.length x.1.2.2.2.2.2.2) : Nat) : Int)) (gd ((0 : Int) ≤ x4) (gd (x4 < (((List.length x.2.1.2.2.2.2.2.2) : Nat) : Int)) (Option.bind (m51 ((List.getD x.1.2.2.2.2.2.2 (Int.toNat x4) ((0 : Int), ([] : List Int))).2, ((List.getD x.2.1.2.2.2.2.2.2 (Int.toNat x4) ((0 : Int), ([] : List Int))).2, ()))) fun (y5 : (Bool × Unit)) =>
 bif (!y5.1) then
 (some (Sum.inr (Sum.inr false)))
 else
 (some (Sum.inl (Go.IntKind.wrap .i64 (x4 + (1 : Int)))))))))))))))
 else
 (some (Sum.inr (Sum.inl ())))) (0 : Int)) fun (y4 : (Unit ⊕ Bool)) =>
 Sum.elim (fun y5 =>
 some (true, ())) (fun y5 =>
 some (y5, ())) y4) (fun y3 =>
 some (y3, ())) y2)))))))

noncomputable def r17 : PDen [(true, kT), (true, kT)] → Option (PDen [(false, .bool)]) := fun x => afun Try.prog ({ envOf [(51, ⟨[(false, (.sl (.int .i64))), (false, (.sl (.int .i64)))], [(false, .bool)], false, m51⟩)] [] [] [] with deep := [79] }) ⟨[(0, ⟨[.slot 5 (.d false (.int .i64) true)], [], [(some 0, []), (none, [.slot 4 (.d false .bool true)])], none⟩), (2, ⟨[.slot 6 (.d false (.int .i64) true)], [], [(some 2, []), (none, [.slot 4 (.d false .bool true)])], none⟩)], []⟩ Try.f17 [(true, kT), (true, kT)] [(false, .bool)] false x
theorem r17_eq : r17 = m17 := by kernel_rfl

theorem c17 : CS.Sound Try.prog 17 ⟨[(true, kT), (true, kT)], [(false, .bool)], false, m17⟩ := afun_sound' (Env.Sound.deepen (envOf_sound (CSs.cons c51 (CSs.nil)) (HDs.nil) (IDs.nil)) [79]) rfl Try.follows (f := 17) (fn := Try.f17) Try.func17 (by kernel_rfl) (by kernel_rfl) r17_eq
end Go.Proofs.Ytecadglgkhfaaaa
end

section
open Go Go.Proofs.AM
namespace Go.Proofs.Ytecadglgkhfaaaa

noncomputable def m19f (n : Int) (G : List (Int × (List Int))) : Option (List (Int × (List Int))) :=
 (loopM (X := (Int × (List (Int × (List Int))))) (E := (List (Int × (List Int)))) (fun (x4 : (Int × (List (Int × (List Int))))) =>
 bif (decide (x4.1 < (((List.length G) : Nat) : Int))) then
 (Option.bind (loopM (X := (Int × (List (Int × (List Int))))) (E := (List (Int × (List Int)))) (fun (x5 : (Int × (List (Int × (List Int))))) =>
 gd ((0 : Int) ≤ x4.1) (gd (x4.1 < (((List.length G) : Nat) : Int)) (gd ((Int.toNat x4.1) < (List.length x5.2)) (bif (decide (x5.1 < (((List.length (ith (A := Int) (ki := (.int .i64)) x5.2 (Int.toNat x4.1))) : Nat) : Int))) then
 (gd ((0 : Int) ≤ x4.1) (gd (x4.1 < (((List.length G) : Nat) : Int)) (gd ((Int.toNat x4.1) < (List.length x5.2)) (gd ((0 : Int) ≤ x5.1) (gd (x5.1 < (((List.length (ith (A := Int) (ki := (.int .i64)) x5.2 (Int.toNat x4.1))) : Nat) : Int)) (gd ((Int.toNat x5.1) < (List.length (ith (A := Int) (ki := (.int .i64)) x5.2 (Int.toNat x4.1)))) (bif (decide ((List.getD (ith (A := Int) (ki := (.int .i64)) x5.2 (Int.toNat x4.1)) (Int.toNat x5.1) (0 : Int)) ≥ n)) then
 (bif (decide ((List.getD (ith (A := Int) (ki := (.int .i64)) x5.2 (Int.toNat x4.1)) (Int.toNat x5.1) (0 : Int)) < (Go.IntKind.wrap .i64 (n + (1 : Int))))) then
 (gd ((0 : Int) ≤ x4.1) (gd (x4.1 < (((List.length G) : Nat) : Int)) (gd ((Int.toNat x4.1) < (List.length x5.2)) (gd ((0 : Int) ≤ x5.1) (gd (x5.1 < (((List.length (ith (A := Int) (ki := (.int .i64)) x5.2 (Int.toNat x4.1))) : Nat) : Int)) (gd ((Int.toNat x5.1) < (List.length (ith (A := Int) (ki := (.int .i64)) x5.2 (Int.toNat x4.1)))) (some (Sum.inl ((Go.IntKind.wrap .i64 (x5.1 + (1 : Int))), (setIn (A := Int) (ki := (.int .i64)) x5.2 (Int.toNat x4.1) (List.set (ith (A := Int) (ki := (.int .i64)) x5.2 (Int.toNat x4.1)) (Int.toNat x5.1) (-1 : Int))))))))))))
 else
 (some (Sum.inl ((Go.IntKind.wrap .i64 (x5.1 + (1 : Int))), x5.2))))
 else
 (some (Sum.inl ((Go.IntKind.wrap .i64 (x5.1 + (1 : Int))), x5.2))))))))))
 else
 (some (Sum.inr x5.2)))))) ((0 : Int), x4.2)) fun (y5 : (List (Int × (List Int)))) =>
 some (Sum.inl ((Go.IntKind.wrap .i64 (x4.1 + (1 : Int))), y5)))
 else
 (some (Sum.inr x4.2))) ((0 : Int), G))

noncomputable def m19t (x : tT × (Int × Int) × Int × Unit) (y3 : eT) (y4 : List (Int × (List Int))) : Option (tT × ((Int × Int) × (Int × Unit))) :=
 (bif (decide (x.2.1.1 = (2 : Int))) then
 (Option.bind (m46 (x.1, ())) fun (y5 : (Bool × Unit)) =>
 bif y5.1 then
 (gd ((0 : Int) ≤ (Go.IntKind.wrap .i64 ((((List.length y3.2.2.2.2.2.2.2.2) : Nat) : Int) - (1 : Int)))) (gd ((Go.IntKind.wrap .i64 ((((List.length y3.2.2.2.2.2.2.2.2) : Nat) : Int) - (1 : Int))) < (((List.length y3.2.2.2.2.2.2.2.2) : Nat) : Int)) (gd ((Int.toNat (Go.IntKind.wrap .i64 ((((List.length y3.2.2.2.2.2.2.2.2) : Nat) : Int) - (1 : Int)))) < (List.length y4)) (gd ((((List.length (ith (A := Int) (ki := (.int .i64)) y4 (Int.toNat (Go.IntKind.wrap .i64 ((((List.length y3.2.2.2.2.2.2.2.2) : Nat) : Int) - (1 : Int)))))) + (List.length (x.2.2.1 :: ([] : List Int)))) * 8) ≤ 140737488355328) (gd (((List.length (ith (A := Int) (ki := (.int .i64)) y4 (Int.toNat (Go.IntKind.wrap .i64 ((((List.length y3.2.2.2.2.2.2.2.2) : Nat) : Int) - (1 : Int)))))) + (List.length (x.2.2.1 :: ([] : List Int)))) ≤ 140737488355328) (gd ((0 : Int) ≤ (Go.IntKind.wrap .i64 ((((List.length y3.2.2.2.2.2.2.2.2) : Nat) : Int) - (1 : Int)))) (gd ((Go.IntKind.wrap .i64 ((((List.length y3.2.2.2.2.2.2.2.2) : Nat) : Int) - (1 : Int))) < (((List.length y3.2.2.2.2.2.2.2.2) : Nat) : Int)) (gd ((Int.toNat (Go.IntKind.wrap .i64 ((((List.length y3.2.2.2.2.2.2.2.2) : Nat) : Int) - (1 : Int)))) = (Int.toNat (Go.IntKind.wrap .i64 ((((List.length y3.2.2.2.2.2.2.2.2) : Nat) : Int) - (1 : Int))))) (gd ((Int.toNat (Go.IntKind.wrap .i64 ((((List.length y3.2.2.2.2.2.2.2.2) : Nat) : Int) - (1 : Int)))) = (Int.toNat (Go.IntKind.wrap .i64 ((((List.length y3.2.2.2.2.2.2.2.2) : Nat) : Int) - (1 : Int))))) (gd ((0 : Int) ≤ (Go.IntKind.wrap .i64 ((((List.length y3.2.2.2.2.2.2.2.2) : Nat) : Int) - (1 : Int)))) (gd ((Go.IntKind.wrap .i64 ((((List.length y3.2.2.2.2.2.2.2.2) : Nat) : Int) - (1 : Int))) < (((List.length y3.2.2.2.2.2.2.2.2) : Nat) : Int)) (gd ((Int.toNat (Go.IntKind.wrap .i64 ((((List.length y3.2.2.2.2.2.2.2.2) : Nat) : Int) - (1 : Int)))) < (List.length (setIn (A := Int) (ki := (.int .i64)) y4 (Int.toNat (Go.IntKind.wrap .i64 ((((List.length y3.2.2.2.2.2.2.2.2) : Nat) : Int) - (1 : Int)))) ((ith (A := Int) (ki := (.int .i64)) y4 (Int.toNat (Go.IntKind.wrap .i64 ((((List.length y3.2.2.2.2.2.2.2.2) : Nat) : Int) - (1 : Int))))) ++ (x.2.2.1 :: ([] : List Int)))))) (gd ((0 : Int) ≤ (Go.IntKind.wrap .i64 ((((List.length y3.2.2.2.2.2.2.2.2) : Nat) : Int) - (1 : Int)))) (gd ((Go.IntKind.wrap .i64 ((((List.length y3.2.2.2.2.2.2.2.2) : Nat) : Int) - (1 : Int))) < (((List.length y3.2.2.2.2.2.2.2.2) : Nat) : Int)) (gd ((Int.toNat (Go.IntKind.wrap .i64 ((((List.length y3.2.2.2.2.2.2.2.2) : Nat) : Int) - (1 : Int)))) < (List.length (setIn (A := Int) (ki := (.int .i64)) y4 (Int.toNat (Go.IntKind.wrap .i64 ((((List.length y3.2.2.2.2.2.2.2.2) : Nat) : Int) - (1 : Int)))) ((ith (A := Int) (ki := (.int .i64)) y4 (Int.toNat (Go.IntKind.wrap .i64 ((((List.length y3.2.2.2.2.2.2.2.2) : Nat) : Int) - (1 : Int))))) ++ (x.2.2.1 :: ([] : List Int)))))) (some ((y3.1, (y3.2.1, (y3.2.2.1, (y3.2.2.2.1, (y3.2.2.2.2.1, ((y3.2.2.2.2.2.1, (y3.2.2.2.2.2.2.1, y3.2.2.2.2.2.2.2.1)), (setIn (A := Int) (ki := (.int .i64)) y4 (Int.toNat (Go.IntKind.wrap .i64 ((((List.length y3.2.2.2.2.2.2.2.2) : Nat) : Int) - (1 : Int)))) ((ith (A := Int) (ki := (.int .i64)) y4 (Int.toNat (Go.IntKind.wrap .i64 ((((List.length y3.2.2.2.2.2.2.2.2) : Nat) : Int) - (1 : Int))))) ++ (x.2.2.1 :: ([] : List Int)))))))))), (((hth (kh := (.int .i64)) (ki := (.int .i64)) (setIn (A := Int) (ki := (.int .i64)) y4 (Int.toNat (Go.IntKind.wrap .i64 ((((List.length y3.2.2.2.2.2.2.2.2) : Nat) : Int) - (1 : Int)))) ((ith (A := Int) (ki := (.int .i64)) y4 (Int.toNat (Go.IntKind.wrap .i64 ((((List.length y3.2.2.2.2.2.2.2.2) : Nat) : Int) - (1 : Int))))) ++ (x.2.2.1 :: ([] : List Int)))) (Int.toNat (Go.IntKind.wrap .i64 ((((List.length y3.2.2.2.2.2.2.2.2) : Nat) : Int) - (1 : Int))))), (Go.IntKind.wrap .i64 ((((List.length (ith (A := Int) (ki := (.int .i64)) (setIn (A := Int) (ki := (.int .i64)) y4 (Int.toNat (Go.IntKind.wrap .i64 ((((List.length y3.2.2.2.2.2.2.2.2) : Nat) : Int) - (1 : Int)))) ((ith (A := Int) (ki := (.int .i64)) y4 (Int.toNat (Go.IntKind.wrap .i64 ((((List.length y3.2.2.2.2.2.2.2.2) : Nat) : Int) - (1 : Int))))) ++ (x.2.2.1 :: ([] : List Int)))) (Int.toNat (Go.IntKind.wrap .i64 ((((List.length y3.2.2.2.2.2.2.2.2) : Nat) : Int) - (1 : Int)))))) : Nat) : Int) - (1 : Int)))), ((0 : Int), ())))))))))))))))))))
 else
 (some (((0 : Int), ((0 : Int), ((0 : Int), (([] : List Int), (([] : List Bool), (((0 : Int), ((0 : Int), (0 : Int))), ([] : List (Int × (List Int))))))))), (((0 : Int), (0 : Int)), ((51 : Int), ())))))
 else
 (some (((0 : Int), ((0 : Int), ((0 : Int), (([] : List Int), (([] : List Bool), (((0 : Int), ((0 : Int), (0 : Int))), ([] : List (Int × (List Int))))))))), (((0 : Int), (0 : Int)), ((51 : Int), ())))))

noncomputable def m19 (x : tT × (Int × Int) × Int × Unit) : Option (tT × ((Int × Int) × (Int × Unit))) :=
 Option.bind (m43 (x.1, ())) fun (y1 : (Int × Unit)) =>
 bif (!(decide (y1.1 = (0 : Int)))) then
 (some (((0 : Int), ((0 : Int), ((0 : Int), (([] : List Int), (([] : List Bool), (((0 : Int), ((0 : Int), (0 : Int))), ([] : List (Int × (List Int))))))))), (((0 : Int), (0 : Int)), (y1.1, ()))))
 else
 (Option.bind (m44 (x.1, (x.2.2.1, ()))) fun (y2 : (Bool × Unit)) =>
 bif (!y2.1) then
 (some (((0 : Int), ((0 : Int), ((0 : Int), (([] : List Int), (([] : List Bool), (((0 : Int), ((0 : Int), (0 : Int))), ([] : List (Int × (List Int))))))))), (((0 : Int), (0 : Int)), ((1 : Int), ()))))
 else
 (if x.1.1 = (0 : Int) then
 (none)
 else
 (if x.1.1 = (0 : Int) then
 (none)
 else
 (gd ((((List.length ([] : List Int)) + (List.length x.1.2.2.2.1)) * 8) ≤ 140737488355328) (gd (((List.length ([] : List Int)) + (List.length x.1.2.2.2.1)) ≤ 140737488355328) (gd ((((List.length ([] : List Bool)) + (List.length x.1.2.2.2.2.1)) * 1) ≤ 140737488355328) (gd (((List.length ([] : List Bool)) + (List.length x.1.2.2.2.2.1)) ≤ 140737488355328) (Option.bind (clr x.1) fun (y3 : eT) =>
 Option.bind (m19f x.2.2.1 y3.2.2.2.2.2.2.2.2) fun (y4 : (List (Int × (List Int)))) =>
 bif (decide (x.2.1.1 = (1 : Int))) then
 (bif (decide (x.1.2.2.2.2.2.1.1 ≥ (0 : Int))) then
 (bif (decide (x.1.2.2.2.2.2.1.2.1 = (Go.IntKind.wrap .i64 (Int.tdiv x.2.2.1 x.1.1)))) then
 (bif (decide (x.1.2.2.2.2.2.1.2.2 = (Int.tmod x.2.2.1 x.1.1))) then
 (some ((y3.1, (y3.2.1, (y3.2.2.1, (y3.2.2.2.1, (y3.2.2.2.2.1, ((y3.2.2.2.2.2.1, (y3.2.2.2.2.2.2.1, (Go.IntKind.wrap .i64 (y3.2.2.2.2.2.2.2.1 + (1 : Int))))), y4)))))), ((y3.2.2.2.2.2.1, (Int.tmod x.2.2.1 x.1.1)), ((0 : Int), ()))))
 else
 (m19t x y3 y4))
 else
 (m19t x y3 y4))
 else
 (m19t x y3 y4))
 else
 (m19t x y3 y4)))))))))

noncomputable def i19_12 : ID := aInl Try.prog ({ envOf [] [] [] [] with deep := [79] }) ⟨[(10000, ⟨[.slot 4 (.d false (.int .i64) true), .cell 6 0 (.d false (.int .i64) true), .cell 6 1 (.d false (.int .i64) true), .cell 6 2 (.d false (.int .i64) true), .cell 6 3 (.v 3 (.int .i64) true), .cell 6 4 (.v 4 .bool true), .cell 6 5 (.d false (.int .i64) true), .cell 6 6 (.d false (.int .i64) true), .cell 6 7 (.d false (.int .i64) true), .cell 6 8 (.h 79 3 (.int .i64) (.int .i64))], [7, 8], [(some 0, [.cell 6 0 (.d false (.int .i64) true), .cell 6 1 (.d false (.int .i64) true), .cell 6 2 (.d false (.int .i64) true), .cell 6 3 (.v 3 (.int .i64) true), .cell 6 4 (.v 4 .bool true), .cell 6 5 (.d false (.int .i64) true), .cell 6 6 (.d false (.int .i64) true), .cell 6 7 (.d false (.int .i64) true), .cell 6 8 (.h 79 3 (.int .i64) (.int .i64))])], none⟩)], []⟩ Try.f12
noncomputable def i19_54 : ID := aInl Try.prog ({ envOf [] [] [] [] with deep := [79] }) ⟨[(15000, ⟨[.slot 7 (.d false (.int .i64) true), .dvec 11 79 3 (.int .i64) (.int .i64)], [], [(some 0, [.dvec 11 79 3 (.int .i64) (.int .i64)])], none⟩), (15002, ⟨[.slot 8 (.d false (.int .i64) true), .dvec 11 79 3 (.int .i64) (.int .i64)], [], [(some 2, [.dvec 11 79 3 (.int .i64) (.int .i64)])], none⟩)], []⟩ Try.f54
noncomputable def r19 : PDen [(true, kT), (true, (.pair (.int .i64) (.int .i64))), (false, (.int .i64))] → Option (PDen [(true, kT), (true, (.pair (.int .i64) (.int .i64))), (false, (.int .i64))]) := fun x => afun Try.prog ({ envOf [(43, ⟨[(true, kT)], [(false, (.int .i64))], false, m43⟩), (44, ⟨[(true, kT), (false, (.int .i64))], [(false, .bool)], false, m44⟩), (46, ⟨[(true, kT)], [(false, .bool)], false, m46⟩)] [] [] [(12, i19_12), (54, i19_54)] with deep := [79] }) ⟨[], []⟩ Try.f19 [(true, kT), (true, (.pair (.int .i64) (.int .i64))), (false, (.int .i64))] [(true, kT), (true, (.pair (.int .i64) (.int .i64))), (false, (.int .i64))] false x
theorem r19_eq : r19 = m19 := by kernel_rfl

theorem i19_12_sound : i19_12.Sound Try.prog 12 := aInl_sound' (Env.Sound.deepen (envOf_sound (CSs.nil) (HDs.nil) (IDs.nil)) [79]) Try.follows (f := 12) (fn := Try.f12) Try.func12 (by kernel_rfl) (by kernel_rfl)
theorem i19_54_sound : i19_54.Sound Try.prog 54 := aInl_sound' (Env.Sound.deepen (envOf_sound (CSs.nil) (HDs.nil) (IDs.nil)) [79]) Try.follows (f := 54) (fn := Try.f54) Try.func54 (by kernel_rfl) (by kernel_rfl)
theorem c19 : CS.Sound Try.prog 19 ⟨[(true, kT), (true, (.pair (.int .i64) (.int .i64))), (false, (.int .i64))], [(true, kT), (true, (.pair (.int .i64) (.int .i64))), (false, (.int .i64))], false, m19⟩ := afun_sound' (Env.Sound.deepen (envOf_sound (CSs.cons c43 (CSs.cons c44 (CSs.cons c46 (CSs.nil)))) (HDs.nil) (IDs.cons i19_12_sound (IDs.cons i19_54_sound (IDs.nil)))) [79]) rfl Try.follows (f := 19) (fn := Try.f19) Try.func19 (by kernel_rfl) (by kernel_rfl) r19_eq
end Go.Proofs.Ytecadglgkhfaaaa
end

section
open Go Go.Proofs.AM
namespace Go.Proofs.Ytecadglgkhfaaaa

noncomputable def m20 (x : tT × (Int × Int) × Unit) : Option (tT × (Int × Unit)) :=
 Option.bind (m25 (x.1, ())) fun (y1 : (Int × Unit)) =>
 bif (!(decide (y1.1 = (0 : Int)))) then
 (some (((0 : Int), ((0 : Int), ((0 : Int), (([] : List Int), (([] : List Bool), (((0 : Int), ((0 : Int), (0 : Int))), ([] : List (Int × (List Int))))))))), (y1.1, ())))
 else
 (bif (!(decide (x.2.1.1 = (2 : Int)))) then
 (some (((0 : Int), ((0 : Int), ((0 : Int), (([] : List Int), (([] : List Bool), (((0 : Int), ((0 : Int), (0 : Int))), ([] : List (Int × (List Int))))))))), ((51 : Int), ())))
 else
 (Option.bind (m49 (x.1, ())) fun (y2 : (Bool × Unit)) =>
 bif (!y2.1) then
 (some (((0 : Int), ((0 : Int), ((0 : Int), (([] : List Int), (([] : List Bool), (((0 : Int), ((0 : Int), (0 : Int))), ([] : List (Int × (List Int))))))))), ((51 : Int), ())))
 else
 (gd ((0 : Int) ≤ (((List.length x.1.2.2.2.1) : Nat) : Int)) (gd ((((List.length x.1.2.2.2.1) : Nat) : Int) ≤ (((List.length x.1.2.2.2.1) : Nat) : Int)) (gd (((((List.length x.1.2.2.2.1) : Nat) : Int) * (8 : Int)) ≤ (140737488355328 : Int)) (gd ((0 : Int) ≤ (((List.length x.1.2.2.2.2.1) : Nat) : Int)) (gd ((((List.length x.1.2.2.2.2.1) : Nat) : Int) ≤ (((List.length x.1.2.2.2.2.1) : Nat) : Int)) (gd (((((List.length x.1.2.2.2.2.1) : Nat) : Int) * (1 : Int)) ≤ (140737488355328 : Int)) (Option.bind (clo x.1) fun (y3 : eT) =>
 gd ((0 : Int) ≤ (Go.IntKind.wrap .i64 ((((List.length y3.2.2.2.2.2.2.2.2) : Nat) : Int) - (1 : Int)))) (gd ((Go.IntKind.wrap .i64 ((((List.length y3.2.2.2.2.2.2.2.2) : Nat) : Int) - (1 : Int))) < (((List.length y3.2.2.2.2.2.2.2.2) : Nat) : Int)) (gd ((Int.toNat (Go.IntKind.wrap .i64 ((((List.length y3.2.2.2.2.2.2.2.2) : Nat) : Int) - (1 : Int)))) < (List.length y3.2.2.2.2.2.2.2.2)) (gd ((((List.length (ith (A := Int) (ki := (.int .i64)) y3.2.2.2.2.2.2.2.2 (Int.toNat (Go.IntKind.wrap .i64 ((((List.length y3.2.2.2.2.2.2.2.2) : Nat) : Int) - (1 : Int)))))) + (List.length ((-1 : Int) :: ([] : List Int)))) * 8) ≤ 140737488355328) (gd (((List.length (ith (A := Int) (ki := (.int .i64)) y3.2.2.2.2.2.2.2.2 (Int.toNat (Go.IntKind.wrap .i64 ((((List.length y3.2.2.2.2.2.2.2.2) : Nat) : Int) - (1 : Int)))))) + (List.length ((-1 : Int) :: ([] : List Int)))) ≤ 140737488355328) (gd ((0 : Int) ≤ (Go.IntKind.wrap .i64 ((((List.length y3.2.2.2.2.2.2.2.2) : Nat) : Int) - (1 : Int)))) (gd ((Go.IntKind.wrap .i64 ((((List.length y3.2.2.2.2.2.2.2.2) : Nat) : Int) - (1 : Int))) < (((List.length y3.2.2.2.2.2.2.2.2) : Nat) : Int)) (gd ((Int.toNat (Go.IntKind.wrap .i64 ((((List.length y3.2.2.2.2.2.2.2.2) : Nat) : Int) - (1 : Int)))) = (Int.toNat (Go.IntKind.wrap .i64 ((((List.length y3.2.2.2.2.2.2.2.2) : Nat) : Int) - (1 : Int))))) (gd ((Int.toNat (Go.IntKind.wrap .i64 ((((List.length y3.2.2.2.2.2.2.2.2) : Nat) : Int) - (1 : Int)))) = (Int.toNat (Go.IntKind.wrap .i64 ((((List.length y3.2.2.2.2.2.2.2.2) : Nat) : Int) - (1 : Int))))) (some ((y3.1, (y3.2.1, (y3.2.2.1, (y3.2.2.2.1, (y3.2.2.2.2.1, ((y3.2.2.2.2.2.1, (y3.2.2.2.2.2.2.1, y3.2.2.2.2.2.2.2.1)), (setIn (A := Int) (ki := (.int .i64)) y3.2.2.2.2.2.2.2.2 (Int.toNat (Go.IntKind.wrap .i64 ((((List.length y3.2.2.2.2.2.2.2.2) : Nat) : Int) - (1 : Int)))) ((ith (A := Int) (ki := (.int .i64)) y3.2.2.2.2.2.2.2.2 (Int.toNat (Go.IntKind.wrap .i64 ((((List.length y3.2.2.2.2.2.2.2.2) : Nat) : Int) - (1 : Int))))) ++ ((-1 : Int) :: ([] : List Int)))))))))), ((0 : Int), ()))))))))))))))))))))

noncomputable def i20_48 : ID := aInl Try.prog ({ envOf [] [(78, OS.hd ⟨[(false, (.sl (.int .i64)))], 3, (.int .i64), false, m78⟩)] [] [] with deep := [79] }) ⟨[(9000, ⟨[.slot 31 (.d false (.int .i64) true), .cell 5 0 (.d false (.int .i64) true), .cell 5 1 (.d false (.int .i64) true), .cell 5 2 (.d false (.int .i64) true), .cell 5 3 (.v 3 (.int .i64) true), .cell 5 4 (.v 4 .bool true), .cell 5 5 (.d false (.int .i64) true), .cell 5 6 (.d false (.int .i64) true), .cell 5 7 (.d false (.int .i64) true), .cell 5 8 (.h 79 3 (.int .i64) (.int .i64))], [6, 7], [(some 0, [.cell 5 0 (.d false (.int .i64) true), .cell 5 1 (.d false (.int .i64) true), .cell 5 2 (.d false (.int .i64) true), .cell 5 3 (.v 3 (.int .i64) true), .cell 5 4 (.v 4 .bool true), .cell 5 5 (.d false (.int .i64) true), .cell 5 6 (.d false (.int .i64) true), .cell 5 7 (.d false (.int .i64) true), .cell 5 8 (.h 79 3 (.int .i64) (.int .i64))])], none⟩)], []⟩ Try.f48
noncomputable def r20 : PDen [(true, kT), (true, (.pair (.int .i64) (.int .i64)))] → Option (PDen [(true, kT), (false, (.int .i64))]) := fun x => afun Try.prog ({ envOf [(25, ⟨[(true, kT)], [(false, (.int .i64))], false, m25⟩), (49, ⟨[(true, kT)], [(false, .bool)], false, m49⟩)] [] [] [(48, i20_48)] with deep := [79] }) ⟨[], []⟩ Try.f20 [(true, kT), (true, (.pair (.int .i64) (.int .i64)))] [(true, kT), (false, (.int .i64))] false x
theorem r20_eq : r20 = m20 := by kernel_rfl

theorem i20_48_sound : i20_48.Sound Try.prog 48 := aInl_sound' (Env.Sound.deepen (envOf_sound (CSs.nil) (HDs.cons (OS.Sound.hd c78) (HDs.nil)) (IDs.nil)) [79]) Try.follows (f := 48) (fn := Try.f48) Try.func48 (by kernel_rfl) (by kernel_rfl)
theorem c20 : CS.Sound Try.prog 20 ⟨[(true, kT), (true, (.pair (.int .i64) (.int .i64)))], [(true, kT), (false, (.int .i64))], false, m20⟩ := afun_sound' (Env.Sound.deepen (envOf_sound (CSs.cons c25 (CSs.cons c49 (CSs.nil))) (HDs.nil) (IDs.cons i20_48_sound (IDs.nil))) [79]) rfl Try.follows (f := 20) (fn := Try.f20) Try.func20 (by kernel_rfl) (by kernel_rfl) r20_eq
end Go.Proofs.Ytecadglgkhfaaaa
end

section
open Go Go.Proofs.AM
namespace Go.Proofs.Ytecadglgkhfaaaa

noncomputable def m21 (x : tT × (Int × Int) × Unit) : Option (tT × (Int × Unit)) :=
 Option.bind (m43 (x.1, ())) fun (y1 : (Int × Unit)) =>
 bif (!(decide (y1.1 = (0 : Int)))) then
 (some (((0 : Int), ((0 : Int), ((0 : Int), (([] : List Int), (([] : List Bool), (((0 : Int), ((0 : Int), (0 : Int))), ([] : List (Int × (List Int))))))))), (y1.1, ())))
 else
 (bif (!(decide (x.2.1.1 = (2 : Int)))) then
 (some (((0 : Int), ((0 : Int), ((0 : Int), (([] : List Int), (([] : List Bool), (((0 : Int), ((0 : Int), (0 : Int))), ([] : List (Int × (List Int))))))))), ((51 : Int), ())))
 else
 (Option.bind (m46 (x.1, ())) fun (y2 : (Bool × Unit)) =>
 bif (!y2.1) then
 (some (((0 : Int), ((0 : Int), ((0 : Int), (([] : List Int), (([] : List Bool), (((0 : Int), ((0 : Int), (0 : Int))), ([] : List (Int × (List Int))))))))), ((51 : Int), ())))
 else
 (gd ((((List.length ([] : List Int)) + (List.length x.1.2.2.2.1)) * 8) ≤ 140737488355328) (gd (((List.length ([] : List Int)) + (List.length x.1.2.2.2.1)) ≤ 140737488355328) (gd ((((List.length ([] : List Bool)) + (List.length x.1.2.2.2.2.1)) * 1) ≤ 140737488355328) (gd (((List.length ([] : List Bool)) + (List.length x.1.2.2.2.2.1)) ≤ 140737488355328) (Option.bind (clr x.1) fun (y3 : eT) =>
 gd ((0 : Int) ≤ (Go.IntKind.wrap .i64 ((((List.length y3.2.2.2.2.2.2.2.2) : Nat) : Int) - (1 : Int)))) (gd ((Go.IntKind.wrap .i64 ((((List.length y3.2.2.2.2.2.2.2.2) : Nat) : Int) - (1 : Int))) < (((List.length y3.2.2.2.2.2.2.2.2) : Nat) : Int)) (gd ((Int.toNat (Go.IntKind.wrap .i64 ((((List.length y3.2.2.2.2.2.2.2.2) : Nat) : Int) - (1 : Int)))) < (List.length y3.2.2.2.2.2.2.2.2)) (gd ((((List.length (ith (A := Int) (ki := (.int .i64)) y3.2.2.2.2.2.2.2.2 (Int.toNat (Go.IntKind.wrap .i64 ((((List.length y3.2.2.2.2.2.2.2.2) : Nat) : Int) - (1 : Int)))))) + (List.length ((-1 : Int) :: ([] : List Int)))) * 8) ≤ 140737488355328) (gd (((List.length (ith (A := Int) (ki := (.int .i64)) y3.2.2.2.2.2.2.2.2 (Int.toNat (Go.IntKind.wrap .i64 ((((List.length y3.2.2.2.2.2.2.2.2) : Nat) : Int) - (1 : Int)))))) + (List.length ((-1 : Int) :: ([] : List Int)))) ≤ 140737488355328) (gd ((0 : Int) ≤ (Go.IntKind.wrap .i64 ((((List.length y3.2.2.2.2.2.2.2.2) : Nat) : Int) - (1 : Int)))) (gd ((Go.IntKind.wrap .i64 ((((List.length y3.2.2.2.2.2.2.2.2) : Nat) : Int) - (1 : Int))) < (((List.length y3.2.2.2.2.2.2.2.2) : Nat) : Int)) (gd ((Int.toNat (Go.IntKind.wrap .i64 ((((List.length y3.2.2.2.2.2.2.2.2) : Nat) : Int) - (1 : Int)))) = (Int.toNat (Go.IntKind.wrap .i64 ((((List.length y3.2.2.2.2.2.2.2.2) : Nat) : Int) - (1 : Int))))) (gd ((Int.toNat (Go.IntKind.wrap .i64 ((((List.length y3.2.2.2.2.2.2.2.2) : Nat) : Int) - (1 : Int)))) = (Int.toNat (Go.IntKind.wrap .i64 ((((List.length y3.2.2.2.2.2.2.2.2) : Nat) : Int) - (1 : Int))))) (some ((y3.1, (y3.2.1, (y3.2.2.1, (y3.2.2.2.1, (y3.2.2.2.2.1, ((y3.2.2.2.2.2.1, (y3.2.2.2.2.2.2.1, y3.2.2.2.2.2.2.2.1)), (setIn (A := Int) (ki := (.int .i64)) y3.2.2.2.2.2.2.2.2 (Int.toNat (Go.IntKind.wrap .i64 ((((List.length y3.2.2.2.2.2.2.2.2) : Nat) : Int) - (1 : Int)))) ((ith (A := Int) (ki := (.int .i64)) y3.2.2.2.2.2.2.2.2 (Int.toNat (Go.IntKind.wrap .i64 ((((List.length y3.2.2.2.2.2.2.2.2) : Nat) : Int) - (1 : Int))))) ++ ((-1 : Int) :: ([] : List Int)))))))))), ((0 : Int), ()))))))))))))))))))

noncomputable def i21_12 : ID := aInl Try.prog ({ envOf [] [] [] [] with deep := [79] }) ⟨[(9000, ⟨[.slot 4 (.d false (.int .i64) true), .cell 5 0 (.d false (.int .i64) true), .cell 5 1 (.d false (.int .i64) true), .cell 5 2 (.d false (.int .i64) true), .cell 5 3 (.v 3 (.int .i64) true), .cell 5 4 (.v 4 .bool true), .cell 5 5 (.d false (.int .i64) true), .cell 5 6 (.d false (.int .i64) true), .cell 5 7 (.d false (.int .i64) true), .cell 5 8 (.h 79 3 (.int .i64) (.int .i64))], [6, 7], [(some 0, [.cell 5 0 (.d false (.int .i64) true), .cell 5 1 (.d false (.int .i64) true), .cell 5 2 (.d false (.int .i64) true), .cell 5 3 (.v 3 (.int .i64) true), .cell 5 4 (.v 4 .bool true), .cell 5 5 (.d false (.int .i64) true), .cell 5 6 (.d false (.int .i64) true), .cell 5 7 (.d false (.int .i64) true), .cell 5 8 (.h 79 3 (.int .i64) (.int .i64))])], none⟩)], []⟩ Try.f12
noncomputable def r21 : PDen [(true, kT), (true, (.pair (.int .i64) (.int .i64)))] → Option (PDen [(true, kT), (false, (.int .i64))]) := fun x => afun Try.prog ({ envOf [(43, ⟨[(true, kT)], [(false, (.int .i64))], false, m43⟩), (46, ⟨[(true, kT)], [(false, .bool)], false, m46⟩)] [] [] [(12, i21_12)] with deep := [79] }) ⟨[], []⟩ Try.f21 [(true, kT), (true, (.pair (.int .i64) (.int .i64)))] [(true, kT), (false, (.int .i64))] false x
theorem r21_eq : r21 = m21 := by kernel_rfl

theorem i21_12_sound : i21_12.Sound Try.prog 12 := aInl_sound' (Env.Sound.deepen (envOf_sound (CSs.nil) (HDs.nil) (IDs.nil)) [79]) Try.follows (f := 12) (fn := Try.f12) Try.func12 (by kernel_rfl) (by kernel_rfl)
theorem c21 : CS.Sound Try.prog 21 ⟨[(true, kT), (true, (.pair (.int .i64) (.int .i64)))], [(true, kT), (false, (.int .i64))], false, m21⟩ := afun_sound' (Env.Sound.deepen (envOf_sound (CSs.cons c43 (CSs.cons c46 (CSs.nil))) (HDs.nil) (IDs.cons i21_12_sound (IDs.nil))) [79]) rfl Try.follows (f := 21) (fn := Try.f21) Try.func21 (by kernel_rfl) (by kernel_rfl) r21_eq
end Go.Proofs.Ytecadglgkhfaaaa
end

section
open Go Go.Proofs.AM
namespace Go.Proofs.Ytecadglgkhfaaaa

noncomputable def m3 (x : tT × (Int × Int) × Int × Unit) : Option (Bool × Unit) :=
 Option.bind (m10 ()) fun (y1 : (Bool × Unit)) =>
 bif (!y1.1) then
 (some (false, ()))
 else
 (Option.bind (m11 (x.1, ())) fun (y2 : (Bool × Unit)) =>
 bif (!y2.1) then
 (some (true, ()))
 else
 (gd ((((List.length ([] : List Int)) + (List.length x.1.2.2.2.1)) * 8) ≤ 140737488355328) (gd (((List.length ([] : List Int)) + (List.length x.1.2.2.2.1)) ≤ 140737488355328) (gd ((((List.length ([] : List Bool)) + (List.length x.1.2.2.2.2.1)) * 1) ≤ 140737488355328) (gd (((List.length ([] : List Bool)) + (List.length x.1.2.2.2.2.1)) ≤ 140737488355328) (Option.bind (clr x.1) fun (y3 : eT) =>
 Option.bind (m13 (x.1, (x.2.2.1, ()))) fun (y4 : ((Int × Int) × (Int × Unit))) =>
 Option.bind (m14 (x.1, (x.2.2.1, ()))) fun (y5 : ((Int × Int) × (Int × Unit))) =>
 bif (!((decide (y4.1.1 = y5.1.1)) && (decide (y4.1.2 = y5.1.2)))) then
 (some (false, ()))
 else
 (bif (!(decide (y4.2.1 = y5.2.1))) then
 (some (false, ()))
 else
 (Option.bind (m15 (x.1, (x.2.1, (x.2.2.1, ())))) fun (y6 : (tT × (Int × Unit))) =>
 Option.bind (m16 (x.1, (x.2.1, (x.2.2.1, ())))) fun (y7 : (tT × (Int × Unit))) =>
 Option.bind (m17 (y6.1, (y7.1, ()))) fun (y8 : (Bool × Unit)) =>
 bif (!y8.1) then
 (some (false, ()))
 else
 (bif (!(decide (y6.2.1 = y7.2.1))) then
 (some (false, ()))
 else
 (Option.bind (m18 (x.1, (x.2.1, (x.2.2.1, ())))) fun (y9 : (tT × ((Int × Int) × (Int × Unit)))) =>
 Option.bind (m19 (x.1, (x.2.1, (x.2.2.1, ())))) fun (y10 : (tT × ((Int × Int) × (Int × Unit)))) =>
 Option.bind (m17 (y9.1, (y10.1, ()))) fun (y11 : (Bool × Unit)) =>
 bif (!y11.1) then
 (some (false, ()))
 else
 (bif (!((decide (y9.2.1.1 = y10.2.1.1)) && (decide (y9.2.1.2 = y10.2.1.2)))) then
 (some (false, ()))
 else
 (bif (!(decide (y9.2.2.1 = y10.2.2.1))) then
 (some (false, ()))
 else
 (Option.bind (m20 (x.1, (x.2.1, ()))) fun (y12 : (tT × (Int × Unit))) =>
 Option.bind (m21 (x.1, (x.2.1, ()))) fun (y13 : (tT × (Int × Unit))) =>
 Option.bind (m17 (y12.1, (y13.1, ()))) fun (y14 : (Bool × Unit)) =>
 bif y14.1 then
 (bif (decide (y12.2.1 = y13.2.1)) then
 (Option.bind (m17 (x.1, ((y3.1, (y3.2.1, (y3.2.2.1, (y3.2.2.2.1, (y3.2.2.2.2.1, ((y3.2.2.2.2.2.1, (y3.2.2.2.2.2.2.1, y3.2.2.2.2.2.2.2.1)), y3.2.2.2.2.2.2.2.2)))))), ()))) fun (y15 : (Bool × Unit)) =>
 some (y15.1, ()))
 else
 (some (false, ())))
 else
 (some (false, ())))))))))))))))

noncomputable def i3_12 : ID := aInl Try.prog ({ envOf [] [] [] [] with deep := [79] }) ⟨[(8000, ⟨[.slot 4 (.d false (.int .i64) true), .cell 4 0 (.d false (.int .i64) true), .cell 4 1 (.d false (.int .i64) true), .cell 4 2 (.d false (.int .i64) true), .cell 4 3 (.v 3 (.int .i64) true), .cell 4 4 (.v 4 .bool true), .cell 4 5 (.d false (.int .i64) true), .cell 4 6 (.d false (.int .i64) true), .cell 4 7 (.d false (.int .i64) true), .cell 4 8 (.h 79 3 (.int .i64) (.int .i64))], [5, 6], [(some 0, [.cell 4 0 (.d false (.int .i64) true), .cell 4 1 (.d false (.int .i64) true), .cell 4 2 (.d false (.int .i64) true), .cell 4 3 (.v 3 (.int .i64) true), .cell 4 4 (.v 4 .bool true), .cell 4 5 (.d false (.int .i64) true), .cell 4 6 (.d false (.int .i64) true), .cell 4 7 (.d false (.int .i64) true), .cell 4 8 (.h 79 3 (.int .i64) (.int .i64))])], none⟩)], []⟩ Try.f12
noncomputable def r3 : PDen [(true, kT), (true, (.pair (.int .i64) (.int .i64))), (false, (.int .i64))] → Option (PDen [(false, .bool)]) := fun x => afun Try.prog ({ envOf [(10, ⟨[], [(false, .bool)], false, m10⟩), (11, ⟨[(true, kT)], [(false, .bool)], false, m11⟩), (13, ⟨[(true, kT), (false, (.int .i64))], [(true, (.pair (.int .i64) (.int .i64))), (false, (.int .i64))], false, m13⟩), (14, ⟨[(true, kT), (false, (.int .i64))], [(true, (.pair (.int .i64) (.int .i64))), (false, (.int .i64))], false, m14⟩), (15, ⟨[(true, kT), (true, (.pair (.int .i64) (.int .i64))), (false, (.int .i64))], [(true, kT), (false, (.int .i64))], false, m15⟩), (16, ⟨[(true, kT), (true, (.pair (.int .i64) (.int .i64))), (false, (.int .i64))], [(true, kT), (false, (.int .i64))], false, m16⟩), (17, ⟨[(true, kT), (true, kT)], [(false, .bool)], false, m17⟩), (18, ⟨[(true, kT), (true, (.pair (.int .i64) (.int .i64))), (false, (.int .i64))], [(true, kT), (true, (.pair (.int .i64) (.int .i64))), (false, (.int .i64))], false, m18⟩), (19, ⟨[(true, kT), (true, (.pair (.int .i64) (.int .i64))), (false, (.int .i64))], [(true, kT), (true, (.pair (.int .i64) (.int .i64))), (false, (.int .i64))], false, m19⟩), (20, ⟨[(true, kT), (true, (.pair (.int .i64) (.int .i64)))], [(true, kT), (false, (.int .i64))], false, m20⟩), (21, ⟨[(true, kT), (true, (.pair (.int .i64) (.int .i64)))], [(true, kT), (false, (.int .i64))], false, m21⟩)] [] [] [(12, i3_12)] with deep := [79] }) ⟨[], []⟩ Try.f3 [(true, kT), (true, (.pair (.int .i64) (.int .i64))), (false, (.int .i64))] [(false, .bool)] false x
theorem r3_eq : r3 = m3 := by kernel_rfl

theorem i3_12_sound : i3_12.Sound Try.prog 12 := aInl_sound' (Env.Sound.deepen (envOf_sound (CSs.nil) (HDs.nil) (IDs.nil)) [79]) Try.follows (f := 12) (fn := Try.f12) Try.func12 (by kernel_rfl) (by kernel_rfl)
theorem c3 : CS.Sound Try.prog 3 ⟨[(true, kT), (true, (.pair (.int .i64) (.int .i64))), (false, (.int .i64))], [(false, .bool)], false, m3⟩ := afun_sound' (Env.Sound.deepen (envOf_sound (CSs.cons c10 (CSs.cons c11 (CSs.cons c13 (CSs.cons c14 (CSs.cons c15 (CSs.cons c16 (CSs.cons c17 (CSs.cons c18 (CSs.cons c19 (CSs.cons c20 (CSs.cons c21 (CSs.nil)))))))))))) (HDs.nil) (IDs.cons i3_12_sound (IDs.nil))) [79]) rfl Try.follows (f := 3) (fn := Try.f3) Try.func3 (by kernel_rfl) (by kernel_rfl) r3_eq
end Go.Proofs.Ytecadglgkhfaaaa
end

section
open Go Go.Proofs.AM
namespace Go.Proofs.Ytecadglgkhfaaaa

noncomputable def m23 (x : tT × tT × Int × Int × Unit) : Option (Bool × Unit) :=
 Option.bind (loopM (X := Int) (E := (Unit ⊕ Bool)) (fun (x1 : Int) =>
 bif (decide (x1 < (((List.length x.1.2.2.2.2.1) : Nat) : Int))) then
 (bif (decide (x1 ≥ x.2.2.1)) then
 (bif (decide (x1 < x.2.2.2.1)) then
 (some (Sum.inl (Go.IntKind.wrap .i64 (x1 + (1 : Int)))))
 else
 (Option.bind (m22 (x.1, (x1, ()))) fun (y2 : ((Int × Int) × (Bool × Unit))) =>
 Option.bind (m22 (x.2.1, (x1, ()))) fun (y3 : ((Int × Int) × (Bool × Unit))) =>
 bif (!((decide (y2.1.1 = y3.1.1)) && (decide (y2.1.2 = y3.1.2)))) then
 (some (Sum.inr (Sum.inr false)))
 else
 (bif (!(bif y2.2.1 then y3.2.1 else (!y3.2.1))) then
 (some (Sum.inr (Sum.inr false)))
 else
 (some (Sum.inl (Go.IntKind.wrap .i64 (x1 + (1 : Int))))))))
 else
 (Option.bind (m22 (x.1, (x1, ()))) fun (y2 : ((Int × Int) × (Bool × Unit))) =>
 Option.bind (m22 (x.2.1, (x1, ()))) fun (y3 : ((Int × Int) × (Bool × Unit))) =>
 bif (!((decide (y2.1.1 = y3.1.1)) && (decide (y2.1.2 = y3.1.2)))) then
 (some (Sum.inr (Sum.inr false)))
 else
 (bif (!(bif y2.2.1 then y3.2.1 else (!y3.2.1))) then
 (some (Sum.inr (Sum.inr false)))
 else
 (some (Sum.inl (Go.IntKind.wrap .i64 (x1 + (1 : Int))))))))
 else
 (some (Sum.inr (Sum.inl ())))) (0 : Int)) fun (y1 : (Unit ⊕ Bool)) =>
 Sum.elim (fun y2 =>
 some (true, ())) (fun y2 =>
 some (y2, ())) y1

noncomputable def r23 : PDen [(true, kT), (true, kT), (false, (.int .i64)), (false, (.int .i64))] → Option (PDen [(false, .bool)]) := fun x => afun Try.prog ({ envOf [(22, ⟨[(true, kT), (false, (.int .i64))], [(true, (.pair (.int .i64) (.int .i64))), (false, .bool)], false, m22⟩)] [] [] [] with deep := [79] }) ⟨[(0, ⟨[.slot 17 (.d false (.int .i64) true)], [], [(some 0, []), (none, [.slot 8 (.d false .bool true)])], none⟩)], []⟩ Try.f23 [(true, kT), (true, kT), (false, (.int .i64)), (false, (.int .i64))] [(false, .bool)] false x
theorem r23_eq : r23 = m23 := by kernel_rfl

theorem c23 : CS.Sound Try.prog 23 ⟨[(true, kT), (true, kT), (false, (.int .i64)), (false, (.int .i64))], [(false, .bool)], false, m23⟩ := afun_sound' (Env.Sound.deepen (envOf_sound (CSs.cons c22 (CSs.nil)) (HDs.nil) (IDs.nil)) [79]) rfl Try.follows (f := 23) (fn := Try.f23) Try.func23 (by kernel_rfl) (by kernel_rfl) r23_eq
end Go.Proofs.Ytecadglgkhfaaaa
end

section
open Go Go.Proofs.AM
namespace Go.Proofs.Ytecadglgkhfaaaa

noncomputable def m4 (x : (tT × ((Int × Int) × (Int × Int))) × Unit) : Option (Bool × Unit) :=
 Option.bind (m10 ()) fun (y1 : (Bool × Unit)) =>
 bif (!y1.1) then
 (some (false, ()))
 else
 (Option.bind (m11 (x.1.1, ())) fun (y2 : (Bool × Unit)) =>
 bif (!y2.1) then
 (some (true, ()))
 else
 (Option.bind (m18 (x.1.1, (x.1.2.1, (x.1.2.2.1, ())))) fun (y3 : (tT × ((Int × Int) × (Int × Unit)))) =>
 bif (decide (y3.2.2.1 = (0 : Int))) then
 (Option.bind (m22 (y3.1, (x.1.2.2.1, ()))) fun (y4 : ((Int × Int) × (Bool × Unit))) =>
 bif (!y4.2.1) then
 (some (false, ()))
 else
 (bif (!((decide (y4.1.1 = y3.2.1.1)) && (decide (y4.1.2 = y3.2.1.2)))) then
 (some (false, ()))
 else
 (Option.bind (m23 (x.1.1, (y3.1, (x.1.2.2.1, ((Go.IntKind.wrap .i64 (x.1.2.2.1 + (1 : Int))), ()))))) fun (y5 : (Bool × Unit)) =>
 bif (!y5.1) then
 (some (false, ()))
 else
 (Option.bind (m15 (x.1.1, (x.1.2.1, (x.1.2.2.2, ())))) fun (y6 : (tT × (Int × Unit))) =>
 bif (decide (y6.2.1 = (0 : Int))) then
 (Option.bind (m23 (x.1.1, (y6.1, ((0 : Int), ((0 : Int), ()))))) fun (y7 : (Bool × Unit)) =>
 bif (!y7.1) then
 (some (false, ()))
 else
 (Option.bind (m20 (x.1.1, (x.1.2.1, ()))) fun (y8 : (tT × (Int × Unit))) =>
 bif (decide (y8.2.1 = (0 : Int))) then
 (Option.bind (m23 (x.1.1, (y8.1, ((0 : Int), ((0 : Int), ()))))) fun (y9 : (Bool × Unit)) =>
 bif (!y9.1) then
 (some (false, ()))
 else
 (Option.bind (m24 (x.1.1, ())) fun (y10 : (tT × (Int × (Int × Unit)))) =>
 bif (!(decide (y10.2.2.1 = (0 : Int)))) then
 (some (true, ()))
 else
 (Option.bind (m23 (x.1.1, (y10.1, ((0 : Int), ((0 : Int), ()))))) fun (y11 : (Bool × Unit)) =>
 some (y11.1, ()))))
 else
 (Option.bind (m24 (x.1.1, ())) fun (y9 : (tT × (Int × (Int × Unit)))) =>
 bif (!(decide (y9.2.2.1 = (0 : Int)))) then
 (some (true, ()))
 else
 (Option.bind (m23 (x.1.1, (y9.1, ((0 : Int), ((0 : Int), ()))))) fun (y10 : (Bool × Unit)) =>
 some (y10.1, ())))))
 else
 (Option.bind (m20 (x.1.1, (x.1.2.1, ()))) fun (y7 : (tT × (Int × Unit))) =>
 bif (decide (y7.2.1 = (0 : Int))) then
 (Option.bind (m23 (x.1.1, (y7.1, ((0 : Int), ((0 : Int), ()))))) fun (y8 : (Bool × Unit)) =>
 bif (!y8.1) then
 (some (false, ()))
 else
 (Option.bind (m24 (x.1.1, ())) fun (y9 : (tT × (Int × (Int × Unit)))) =>
 bif (!(decide (y9.2.2.1 = (0 : Int)))) then
 (some (true, ()))
 else
 (Option.bind (m23 (x.1.1, (y9.1, ((0 : Int), ((0 : Int), ()))))) fun (y10 : (Bool × Unit)) =>
 some (y10.1, ()))))
 else
 (Option.bind (m24 (x.1.1, ())) fun (y8 : (tT × (Int × (Int × Unit)))) =>
 bif (!(decide (y8.2.2.1 = (0 : Int)))) then
 (some (true, ()))
 else
 (Option.bind (m23 (x.1.1, (y8.1, ((0 : Int), ((0 : Int), ()))))) fun (y9 : (Bool × Unit)) =>
 some (y9.1, ()))))))))
 else
 (Option.bind (m15 (x.1.1, (x.1.2.1, (x.1.2.2.2, ())))) fun (y4 : (tT × (Int × Unit))) =>
 bif (decide (y4.2.1 = (0 : Int))) then
 (Option.bind (m23 (x.1.1, (y4.1, ((0 : Int), ((0 : Int), ()))))) fun (y5 : (Bool × Unit)) =>
 bif (!y5.1) then
 (some (false, ()))
 else
 (Option.bind (m20 (x.1.1, (x.1.2.1, ()))) fun (y6 : (tT × (Int × Unit))) =>
 bif (decide (y6.2.1 = (0 : Int))) then
 (Option.bind (m23 (x.1.1, (y6.1, ((0 : Int), ((0 : Int), ()))))) fun (y7 : (Bool × Unit)) =>
 bif (!y7.1) then
 (some (false, ()))
 else
 (Option.bind (m24 (x.1.1, ())) fun (y8 : (tT × (Int × (Int × Unit)))) =>
 bif (!(decide (y8.2.2.1 = (0 : Int)))) then
 (some (true, ()))
 else
 (Option.bind (m23 (x.1.1, (y8.1, ((0 : Int), ((0 : Int), ()))))) fun (y9 : (Bool × Unit)) =>
 some (y9.1, ()))))
 else
 (Option.bind (m24 (x.1.1, ())) fun (y7 : (tT × (Int × (Int × Unit)))) =>
 bif (!(decide (y7.2.2.1 = (0 : Int)))) then
 (some (true, ()))
 else
 (Option.bind (m23 (x.1.1, (y7.1, ((0 : Int), ((0 : Int), ()))))) fun (y8 : (Bool × Unit)) =>
 some (y8.1, ())))))
 else
 (Option.bind (m20 (x.1.1, (x.1.2.1, ()))) fun (y5 : (tT × (Int × Unit))) =>
 bif (decide (y5.2.1 = (0 : Int))) then
 (Option.bind (m23 (x.1.1, (y5.1, ((0 : Int), ((0 : Int), ()))))) fun (y6 : (Bool × Unit)) =>
 bif (!y6.1) then
 (some (false, ()))
 else
 (Option.bind (m24 (x.1.1, ())) fun (y7 : (tT × (Int × (Int × Unit)))) =>
 bif (!(decide (y7.2.2.1 = (0 : Int)))) then
 (some (true, ()))
 else
 (Option.bind (m23 (x.1.1, (y7.1, ((0 : Int), ((0 : Int), ()))))) fun (y8 : (Bool × Unit)) =>
 some (y8.1, ()))))
 else
 (Option.bind (m24 (x.1.1, ())) fun (y6 : (tT × (Int × (Int × Unit)))) =>
 bif (!(decide (y6.2.2.1 = (0 : Int)))) then
 (some (true, ()))
 else
 (Option.bind (m23 (x.1.1, (y6.1, ((0 : Int), ((0 : Int), ()))))) fun (y7 : (Bool × Unit)) =>
 some (y7.1, ())))))))

noncomputable def r4 : PDen [(true, (.pair kT (.pair (.pair (.int .i64) (.int .i64)) (.pair (.int .i64) (.int .i64)))))] → Option (PDen [(false, .bool)]) := fun x => afun Try.prog ({ envOf [(10, ⟨[], [(false, .bool)], false, m10⟩), (11, ⟨[(true, kT)], [(false, .bool)], false, m11⟩), (15, ⟨[(true, kT), (true, (.pair (.int .i64) (.int .i64))), (false, (.int .i64))], [(true, kT), (false, (.int .i64))], false, m15⟩), (18, ⟨[(true, kT), (true, (.pair (.int .i64) (.int .i64))), (false, (.int .i64))], [(true, kT), (true, (.pair (.int .i64) (.int .i64))), (false, (.int .i64))], false, m18⟩), (20, ⟨[(true, kT), (true, (.pair (.int .i64) (.int .i64)))], [(true, kT), (false, (.int .i64))], false, m20⟩), (22, ⟨[(true, kT), (false, (.int .i64))], [(true, (.pair (.int .i64) (.int .i64))), (false, .bool)], false, m22⟩), (23, ⟨[(true, kT), (true, kT), (false, (.int .i64)), (false, (.int .i64))], [(false, .bool)], false, m23⟩), (24, ⟨[(true, kT)], [(true, kT), (false, (.int .i64)), (false, (.int .i64))], false, m24⟩)] [] [] [] with deep := [79] }) ⟨[], []⟩ Try.f4 [(true, (.pair kT (.pair (.pair (.int .i64) (.int .i64)) (.pair (.int .i64) (.int .i64)))))] [(false, .bool)] false x
theorem r4_eq : r4 = m4 := by kernel_rfl

theorem c4 : CS.Sound Try.prog 4 ⟨[(true, (.pair kT (.pair (.pair (.int .i64) (.int .i64)) (.pair (.int .i64) (.int .i64)))))], [(false, .bool)], false, m4⟩ := afun_sound' (Env.Sound.deepen (envOf_sound (CSs.cons c10 (CSs.cons c11 (CSs.cons c15 (CSs.cons c18 (CSs.cons c20 (CSs.cons c22 (CSs.cons c23 (CSs.cons c24 (CSs.nil))))))))) (HDs.nil) (IDs.nil)) [79]) rfl Try.follows (f := 4) (fn := Try.f4) Try.func4 (by kernel_rfl) (by kernel_rfl) r4_eq
end Go.Proofs.Ytecadglgkhfaaaa
end

section
namespace Go.Proofs.Ytecadglgkhfaaaa
open Go Go.Proofs.AM

theorem m78_eq (l : List Int) (h : l.length * 8 ≤ 140737488355328) : m78 (l, ()) = some l := by
  unfold m78
  simp only [List.length_nil, List.nil_append, Nat.zero_add]
  rw [gd_pos h, gd_pos (by omega)]
  cases l with
  | nil => simp [both]
  | cons a l =>
    have : ¬ ((((a :: l).length : Nat) : Int) = 0) := by simp; omega
    rw [decide_eq_false this]; simp [both]

theorem clo_eq (P L K : Int) (D : List Int) (H : List Bool) (S : Int × (Int × Int)) (G : List Log) (hG : G.length ≤ 100) (hg : ∀ i, i < G.length → (G.getD i (0, [])).2.length * 8 ≤ 140737488355328) :
    clo (P, (L, (K, (D, (H, (S, G)))))) = some (P, (L, (K, (D, (H, (S.1, (S.2.1, (S.2.2, G)))))))) := by
  unfold clo
  have eD : List.take (List.length (List.replicate (Int.toNat ((D.length : Nat) : Int)) (0 : Int))) D ++ List.drop D.length (List.replicate (Int.toNat ((D.length : Nat) : Int)) (0 : Int)) = D := by simp
  have eH : List.take (List.length (List.replicate (Int.toNat ((H.length : Nat) : Int)) false)) H ++ List.drop H.length (List.replicate (Int.toNat ((H.length : Nat) : Int)) false) = H := by simp
  simp only [eD, eH]
  refine loop_idx' G.length (fun i => ((i : Int), (P, (L, (K, (D, (H, (S.1, (S.2.1, (S.2.2, G.take i)))))))))) (by simp) (fun i hi => ?_) ?_
  · simp only [Int.toNat_natCast]
    rw [Bool.cond_eq_ite, if_pos (by simp; omega), gd_pos (by omega), gd_pos (by omega), m78_eq _ (hg i hi)]
    simp only [Option.bind_some]
    rw [gd_pos (by simp; omega), gd_pos (by simp; omega), wrap64 (by omega) (by omega), take_snoc G i hi (0, [])]
    rfl
  · simp only
    rw [Bool.cond_eq_ite, if_neg (by simp), List.take_of_length_le (by omega)]

def room (P : Int) (G : List Log) : Bool := decide (0 < G.length ∧ (((G.getD (G.length - 1) (0, [])).2.length : Nat) : Int) < P)

theorem m49_eq (P L K : Int) (D : List Int) (H : List Bool) (S : Int × (Int × Int)) (G : List Log) (hG : G.length ≤ 100) : m49 ((P, (L, (K, (D, (H, (S, G)))))), ()) = some (room P G, ()) := by
  unfold m49 room
  simp only [Bool.cond_eq_ite, decide_eq_true_eq]
  by_cases h : 0 < G.length
  · rw [if_pos (by omega), wrap64 (by omega) (by omega), gd_pos (by omega), gd_pos (by omega)]
    have e : ((G.length : Int) - 1).toNat = G.length - 1 := by omega
    simp [e, h]
  · rw [if_neg (by omega)]; simp [h]

def pos (n : Int) : List Int → Option Nat
  | [] => none
  | x :: l => if x = n then some 0 else (pos n l).map (· + 1)

theorem pos_some {n : Int} : ∀ {l : List Int} {k : Nat}, k < l.length → l.getD k 0 = n → (∀ j, j < k → l.getD j 0 ≠ n) → pos n l = some k
  | x :: l, 0, _, h, _ => by
    have : x = n := h
    rw [pos, if_pos this]
  | x :: l, k + 1, h1, h2, h3 => by
    have h0 : ¬ x = n := h3 0 (by omega)
    rw [pos, if_neg h0, pos_some (k := k) (by simpa using h1) h2 (fun j hj => h3 (j + 1) (by omega))]; rfl

theorem pos_none {n : Int} : ∀ {l : List Int}, pos n l = none ↔ n ∉ l
  | [] => by simp [pos]
  | x :: l => by
    rw [pos]
    by_cases h : x = n
    · simp [h]
    · rw [if_neg h, Option.map_eq_none_iff, pos_none, List.mem_cons, not_or]
      exact ⟨fun g => ⟨fun e => h e.symm, g⟩, fun g => g.2⟩

theorem not_mem_getD {n : Int} {l : List Int} (h : ∀ j, j < l.length → l.getD j 0 ≠ n) : n ∉ l := fun hm => by
  obtain ⟨i, hi, e⟩ := List.getElem_of_mem hm
  have := h i hi
  rw [List.getD_eq_getElem?_getD, List.getElem?_eq_getElem hi] at this
  exact this e

theorem m80_eq (l : List Int) (n : Int) (hl : l.length ≤ 4000000000000000000) : m80 (l, (n, ())) = some ((match pos n l with | some k => (k : Int) | none => -1), ()) := by
  suffices h : Ok (m80 (l, (n, ()))) (fun r => r = ((match pos n l with | some k => (k : Int) | none => -1), ())) by
    obtain ⟨r, e, h⟩ := h; rw [e, h]
  unfold m80
  refine Ok.bind (S := fun e => match e with | .inl _ => pos n l = none | .inr v => ∃ k : Nat, v = k ∧ pos n l = some k) (Ok.loop l.length (fun i x => x = (i : Int) ∧ ∀ j, j < i → l.getD j 0 ≠ n) ⟨rfl, fun j hj => by omega⟩ ?_) fun y hy => ?_
  · rintro i x hi ⟨rfl, hq⟩
    refine Ok.cond (fun hc => ?_) (fun hc => Ok.inr (by simp only at hc; exact pos_none.2 (not_mem_getD fun j hj => hq j (by omega))))
    simp only [Int.toNat_natCast] at hc ⊢
    rw [wrap64 (n := (i : Int) + 1) (by omega) (by omega)]
    refine Ok.gd (by omega) (Ok.gd (by omega) ?_)
    refine Ok.cond (fun h => Ok.inr ⟨i, rfl, pos_some (by omega) h.symm hq⟩) (fun h => Ok.inl ⟨by omega, by omega, fun j hj => ?_⟩)
    by_cases e : j = i
    · subst e; exact fun g => h g.symm
    · exact hq j (by omega)
  · refine Ok.elim (fun v e => ?_) (fun v e => ?_)
    · subst e
      have hy : pos n l = none := hy
      exact Ok.some (by rw [hy])
    · subst e
      obtain ⟨k, e, hk⟩ := hy
      exact Ok.some (by rw [hk, e])

theorem m76_eq (l : List Int) (n : Int) (hl : l.length ≤ 4000000000000000000) : m76 (l, (n, ())) = some (decide (n ∈ l), ()) := by
  unfold m76
  rw [m80_eq l n hl]
  simp only [Option.bind_some]
  cases h : pos n l with
  | none => simp [pos_none.1 h]
  | some k =>
    have : n ∈ l := Classical.not_not.1 fun g => by rw [pos_none.2 g] at h; simp at h
    simp [this]

def loc (n : Int) : List Log → Option (Int × Int)
  | [] => none
  | g :: G => match pos n g.2 with
    | some k => some (g.1, (k : Int))
    | none => loc n G

theorem loc_app (n : Int) : ∀ (A B : List Log), loc n (A ++ B) = (loc n A).or (loc n B)
  | [], B => by simp [loc]
  | g :: A, B => by
    rw [List.cons_append, loc, loc]
    cases pos n g.2 with
    | none => exact loc_app n A B
    | some k => rfl

theorem posi_rep (n : Nat) : posi (List.replicate n (-1)) = [] := by
  unfold posi; rw [List.filter_eq_nil_iff]; intro a ha; rw [(List.mem_replicate.1 ha).2]; simp

theorem newT_good {P L K : Int} (h : shape P L K) : Good P L K (List.replicate L.toNat (-1 : Int)) (List.replicate (L * P).toNat false) (-1, (0, 0)) [] := by
  have hm := shape_mul h
  have h' := h
  obtain ⟨h1, h2, h3, h4, h5, h6⟩ := h'
  refine ⟨⟨h, by simp; omega, by rw [List.length_replicate]; omega, by simp; omega, fun i hi => by simp at hi, .inl rfl⟩, fun i hi => ?_, fun p hp hv => ?_, ?_, by simp [posi]⟩
  · have : (List.replicate L.toNat (-1 : Int)).getD i 0 = -1 := by
      rw [List.getD_eq_getElem?_getD, List.getElem?_replicate, if_pos (by simpa using hi)]; rfl
    rw [this]; omega
  · rw [getD_rep] at hv; simp at hv
  · rw [List.map_nil, List.append_nil, posi_cons, if_neg (by simp), posi_rep]; exact List.nodup_nil

section
variable {P L K : Int} {D : List Int} {H : List Bool} {S : Int × (Int × Int)} {G : List Log}

theorem m25_good (h : Good P L K D H S G) : m25 ((P, (L, (K, (D, (H, (S, G)))))), ()) = some (0, ()) := by
  obtain ⟨⟨r, ⟨⟩⟩, e, h'⟩ := m25_ok P L K D H S G
  rcases h' with ⟨h1, _⟩ | ⟨_, h1⟩
  · rw [e]; simp only at h1; rw [h1]
  · exact absurd h h1

theorem m25_bad (h : ¬ Good P L K D H S G) : m25 ((P, (L, (K, (D, (H, (S, G)))))), ()) = some (50, ()) := by
  obtain ⟨⟨r, ⟨⟩⟩, e, h'⟩ := m25_ok P L K D H S G
  rcases h' with ⟨_, h1⟩ | ⟨h1, _⟩
  · exact absurd h1 h
  · rw [e]; simp only at h1; rw [h1]

theorem m55_good (h : Good P L K D H S G) : m55 ((P, (L, (K, (D, (H, (S, G)))))), ()) = some ((P, (L, (K, (D, (H, (S, G)))))), ()) := by
  unfold m55; rw [m25_good h]; rfl

theorem Good.sz (h : Good P L K D H S G) : D.length ≤ 256 ∧ H.length ≤ 8192 ∧ G.length ≤ 8 ∧ ∀ i, i < G.length → (G.getD i (0, [])).2.length ≤ 32 := by
  have hm := shape_mul h.li.sh
  obtain ⟨h1, h2, h3, h4, h5, h6⟩ := h.li.sh
  have a := h.li.dl
  have b := h.li.hl
  have c := h.li.gl
  refine ⟨by omega, by omega, by omega, fun i hi => ?_⟩
  have := (h.li.lg i hi).le
  omega

def blocks (D : List Int) (S : Int × (Int × Int)) (G : List Log) : List Int := posi (S.1 :: D ++ G.map (·.1))

theorem m77_ok (h : Good P L K D H S G) : Ok (m77 ((P, (L, (K, (D, (H, (S, G)))))), ())) (fun r => r = sortI (blocks D S G)) := by
  unfold m77
  rw [m55_good h]
  obtain ⟨s1, s2, s3, s4⟩ := h.sz
  simp only [Option.bind_some]
  have e0 : (S.1 :: ([] : List Int)) ++ D = S.1 :: D := rfl
  rw [e0]
  obtain ⟨E, hE⟩ : ∃ E : List Int, E = S.1 :: D := ⟨_, rfl⟩
  have hEl : E.length = D.length + 1 := by rw [hE]; rfl
  rw [← hE]
  refine Ok.gd (by simp; omega) (Ok.gd (by simp; omega) ?_)
  refine Ok.bind (S := fun y => y = posi E) (Ok.loop E.length (fun i x => x.2 = (i : Int) ∧ x.1 = posi (E.take i)) ⟨rfl, rfl⟩ ?_) fun y hy => ?_
  · rintro i ⟨x1, x2⟩ hi ⟨hx, hl⟩
    simp only at hx hl
    subst hx hl
    refine Ok.cond (fun hc => ?_) (fun hc => Ok.inr ?_)
    · simp only [Int.toNat_natCast] at hc ⊢
      have hlen := posi_len (E.take i)
      simp only [List.length_take] at hlen
      rw [wrap64 (n := (i : Int) + 1) (by omega) (by omega), take_snoc E i (by omega) 0, posi_snoc]
      refine Ok.gd (by omega) (Ok.gd (by omega) (Ok.gd (by omega) ?_))
      refine Ok.cond (fun q => ?_) (fun q => Ok.inl ⟨by omega, by simp, by simp only; rw [if_neg (by omega)]⟩)
      refine Ok.gd (by simp; omega) (Ok.gd (by simp; omega) (Ok.inl ⟨by omega, by simp, by simp only; rw [if_pos (by omega)]⟩))
    · simp only at hc
      rw [List.take_of_length_le (by omega)]
  · subst hy
    have hlen := posi_len E
    have hg : ∀ x ∈ G.map (·.1), (0 : Int) ≤ x := fun x hx => by
      obtain ⟨g, hg, rfl⟩ := List.mem_map.1 hx
      obtain ⟨i, hi, e⟩ := List.getElem_of_mem hg
      have := (h.li.lg i hi).p0
      rw [List.getD_eq_getElem?_getD, List.getElem?_eq_getElem hi] at this
      simp only [Option.getD_some] at this
      rw [e] at this; exact this
    have fin : blocks D S G = posi E ++ G.map (·.1) := by rw [blocks, posi_app, posi_all hg, hE]
    have hfl : (blocks D S G).length ≤ 300 := by rw [fin]; simp; omega
    rw [fin] at hfl
    refine Ok.bind (S := fun z => z = posi E ++ G.map (·.1)) (Ok.loop G.length (fun i x => x.2 = (i : Int) ∧ x.1 = posi E ++ (G.take i).map (·.1)) ⟨rfl, by simp⟩ ?_) fun z hz => ?_
    · rintro i ⟨x1, x2⟩ hi ⟨hx, h1⟩
      simp only at hx h1
      subst hx h1
      refine Ok.cond (fun hc => ?_) (fun hc => Ok.inr (by simp only at hc; rw [List.take_of_length_le (by omega)]))
      simp only [Int.toNat_natCast] at hc ⊢
      rw [wrap64 (n := (i : Int) + 1) (by omega) (by omega), take_snoc G i (by omega) (0, [])]
      refine Ok.gd (by omega) (Ok.gd (by omega) (Ok.gd (by simp; omega) (Ok.gd (by simp; omega) (Ok.inl ⟨by omega, by simp, by simp⟩))))
    · subst hz
      rw [gd_pos (by omega)]
      simp only [Option.bind_some]
      exact Ok.some (by rw [fin])

def fresh (D : List Int) (S : Int × (Int × Int)) (G : List Log) (n : Int) : Prop := 0 ≤ n ∧ n ≤ 255 ∧ n ∉ blocks D S G

theorem blocks_len (h : Good P L K D H S G) : (blocks D S G).length ≤ 300 := by
  obtain ⟨s1, s2, s3, s4⟩ := h.sz
  refine Nat.le_trans (posi_len _) ?_
  simp; omega

theorem m47_ok (h : Good P L K D H S G) (n : Int) : Ok (m47 ((P, (L, (K, (D, (H, (S, G)))))), (n, ()))) (fun r => r.1 = true ↔ fresh D S G n) := by
  unfold m47
  rw [m40_eq]
  simp only [Option.bind_some]
  refine Ok.cond (fun h1 => ?_) (fun h1 => Ok.some ⟨fun g => by simp at g, fun g => absurd ⟨g.1, g.2.1⟩ h1⟩)
  refine Ok.bind (m77_ok h) fun y hy => ?_
  have hl := blocks_len h
  have hp : y.Perm (blocks D S G) := by rw [hy]; exact sortI_perm _
  rw [m76_eq _ _ (by have := hp.length_eq; omega)]
  simp only [Option.bind_some]
  refine Ok.some ?_
  simp only [Bool.not_eq_true', decide_eq_false_iff_not, fresh, hp.mem_iff]
  exact ⟨fun g => ⟨h1.1, h1.2, g⟩, fun g => g.2.2⟩

end

def wh (Q : Nat) (D : List Int) (H : List Bool) (S : Int × (Int × Int)) (G : List Log) (n : Nat) : (Int × Int) × (Bool × Unit) :=
  match loc n G with
  | some p => (p, (true, ()))
  | none =>
    if 0 ≤ S.1 ∧ S.2.1 = ((n / Q : Nat) : Int) ∧ ((n % Q : Nat) : Int) < S.2.2 then ((S.1, ((n % Q : Nat) : Int)), (true, ()))
    else if H.getD n false = true then ((D.getD (n / Q) 0, ((n % Q : Nat) : Int)), (true, ()))
    else ((0, 0), (false, ()))

theorem div_mod {Q n : Nat} : Int.tdiv (n : Int) (Q : Int) = ((n / Q : Nat) : Int) ∧ Int.tmod (n : Int) (Q : Int) = ((n % Q : Nat) : Int) :=
  ⟨by rw [Int.tdiv_eq_ediv_of_nonneg (by omega)]; rfl, by rw [Int.tmod_eq_emod_of_nonneg (by omega)]; rfl⟩

section
variable {Q : Nat} {L K : Int} {D : List Int} {H : List Bool} {S : Int × (Int × Int)} {G : List Log}

theorem m56_eq (h : Good Q L K D H S G) (n : Nat) (hn : n < H.length) : m56 (((Q : Int), (L, (K, (D, (H, (S, G)))))), ((n : Int), ())) = some (wh Q D H S G n) := by
  suffices h : Ok (m56 (((Q : Int), (L, (K, (D, (H, (S, G)))))), ((n : Int), ()))) (fun r => r = wh Q D H S G n) by
    obtain ⟨r, e, h⟩ := h; rw [e, h]
  obtain ⟨s1, s2, s3, s4⟩ := h.sz
  have hm := shape_mul h.li.sh
  have hdv := blk_lt (L := L) (D := D) (H := H) ⟨h.li.sh.1, h.li.sh.2.1, h.li.sh.2.2.1, h.li.sh.2.2.2.1, by omega, by omega⟩ h.li.dl h.li.hl n hn
  simp only [Int.toNat_natCast] at hdv
  have hQ := h.li.sh.1
  obtain ⟨b, hb⟩ : ∃ b, n / Q = b := ⟨_, rfl⟩
  obtain ⟨o, ho⟩ : ∃ o, n % Q = o := ⟨_, rfl⟩
  have hoQ : o < Q := ho ▸ Nat.mod_lt _ (by omega)
  unfold m56 wh
  rw [hb] at hdv
  simp only [div_mod.1, div_mod.2, hb, ho]
  rw [wrap64 (n := (b : Int)) (by omega) (by omega)]
  refine Ok.bind (S := fun e => match e with | .inl _ => loc n G = none | .inr v => v.1 = true ∧ loc n G = some v.2) (Ok.loop G.length (fun i x => x.1 = (i : Int) ∧ loc n G = loc n (G.drop i)) ⟨rfl, by simp⟩ ?_) fun y hy => ?_
  · rintro i ⟨x1, x2⟩ hi ⟨hx, hq⟩
    simp only at hx hq
    subst hx
    refine Ok.cond (fun hc => ?_) (fun hc => Ok.inr (by simp only at hc; rw [hq, List.drop_of_length_le (by omega)]; rfl))
    simp only [Int.toNat_natCast] at hc ⊢
    have hi' : i < G.length := by omega
    have hs := s4 i hi'
    rw [wrap64 (n := (i : Int) + 1) (by omega) (by omega)]
    have e1 : G.drop i = G.getD i (0, []) :: G.drop (i + 1) := by
      rw [List.getD_eq_getElem?_getD, List.getElem?_eq_getElem hi', Option.getD_some, List.drop_eq_getElem_cons hi']
    rw [e1, loc] at hq
    refine Ok.gd (by omega) (Ok.gd (by omega) ?_)
    rw [m80_eq _ _ (by omega)]
    simp only [Option.bind_some]
    cases hp : pos n (G.getD i (0, [])).2 with
    | none =>
      rw [hp] at hq
      exact Ok.cond (fun h => absurd h (by simp)) (fun _ => Ok.inl ⟨hi', by simp, hq⟩)
    | some k =>
      rw [hp] at hq
      exact Ok.cond (fun _ => Ok.inr ⟨rfl, hq⟩) (fun h => by simp only at h; omega)
  · refine Ok.elim (fun v e => ?_) (fun v e => ?_)
    rotate_left
    · subst e
      obtain ⟨e1, e2⟩ := hy
      rw [e2]; exact Ok.some (by rw [e1])
    subst e
    have hy : loc n G = none := hy
    rw [hy]
    simp only
    refine Ok.ite (fun h => by omega) (fun _ => Ok.ite (fun h => by omega) (fun _ => ?_))
    have rest : ¬ (0 ≤ S.1 ∧ S.2.1 = (b : Int) ∧ (o : Int) < S.2.2) → Ok (gd ((0 : Int) ≤ (n : Int)) (gd ((n : Int) < (((List.length H) : Nat) : Int)) (bif (List.getD H (Int.toNat (n : Int)) false) then
        (gd ((0 : Int) ≤ (b : Int)) (gd ((b : Int) < (((List.length D) : Nat) : Int)) (some (((List.getD D (Int.toNat (b : Int)) (0 : Int)), (o : Int)), (true, ())))))
       else
        (some (((0 : Int), (0 : Int)), (false, ())))))) (fun r => r = if 0 ≤ S.1 ∧ S.2.1 = (b : Int) ∧ (o : Int) < S.2.2 then ((S.1, (o : Int)), (true, ()))
          else if H.getD n false = true then ((D.getD b 0, (o : Int)), (true, ())) else ((0, 0), (false, ()))) := by
      intro hc
      rw [if_neg hc]
      simp only [Int.toNat_natCast]
      refine Ok.gd (by omega) (Ok.gd (by omega) ?_)
      refine Ok.condb (fun h => Ok.gd (by omega) (Ok.gd (by omega) (Ok.some ?_))) (fun h => Ok.some ?_)
      · rw [if_pos h]
      · rw [h]; rfl
    refine Ok.cond (fun h1 => Ok.cond (fun h2 => Ok.cond (fun h3 => Ok.some ?_) (fun h3 => rest fun g => ?_)) (fun h2 => rest fun g => ?_)) (fun h1 => rest fun g => ?_)
    · rw [if_pos ⟨h1, h2, by omega⟩]
    · exact h3 g.2.2
    · exact h2 g.2.1
    · exact h1 g.1

theorem m22_good (h : Good Q L K D H S G) (n : Nat) (hn : n < H.length) : m22 (((Q : Int), (L, (K, (D, (H, (S, G)))))), ((n : Int), ())) = some (wh Q D H S G n) := by
  obtain ⟨s1, s2, s3, s4⟩ := h.sz
  unfold m22
  rw [m55_good h]
  simp only [Option.bind_some]
  rw [wrap64 (n := ((H.length : Nat) : Int) - 1) (by omega) (by omega), m40_eq]
  simp only [Option.bind_some]
  rw [decide_eq_true (by omega), m56_eq h n hn]
  rfl
end
end Go.Proofs.Ytecadglgkhfaaaa
end

section
namespace Go.Proofs.Ytecadglgkhfaaaa
open Go Go.Proofs.AM

def fgc (c : Int → Bool) (g : Log) : Log := (g.1, g.2.map fun p => if c p = true then -1 else p)

theorem ith_mid (A B : List Log) (g : Log) : ith (A := Int) (ki := .int .i64) (A ++ g :: B) A.length = g.2 := by
  unfold ith; simp
theorem setIn_mid (A B : List Log) (g : Log) (ys : List Int) : setIn (A := Int) (ki := .int .i64) (A ++ g :: B) A.length ys = A ++ (g.1, ys) :: B := by
  unfold setIn
  induction A with
  | nil => rfl
  | cons a A ih => rw [List.length_cons, List.cons_append, List.modify_succ_cons, ih]; rfl
theorem hth_mid (A B : List Log) (g : Log) : hth (kh := .int .i64) (ki := .int .i64) (A ++ g :: B) A.length = g.1 := by
  unfold hth; simp

theorem getD_mid (A B : List Int) (x : Int) : (A ++ x :: B).getD A.length 0 = x := by simp
theorem set_mid (A B : List Int) (x y : Int) : (A ++ x :: B).set A.length y = A ++ y :: B := by simp

theorem inner_gen (c : Int → Bool) (A B : List Log) (g : Log) (f : Int × List Log → Option ((Int × List Log) ⊕ List Log))
    (hin : ∀ j row, j < g.2.length → row.length = g.2.length → f ((j : Int), A ++ (g.1, row) :: B) = some (.inl ((j : Int) + 1, A ++ (g.1, if c (row.getD j 0) = true then row.set j (-1) else row) :: B)))
    (hend : ∀ row, row.length = g.2.length → f ((g.2.length : Int), A ++ (g.1, row) :: B) = some (.inr (A ++ (g.1, row) :: B))) :
    loopM f (0, A ++ g :: B) = some (A ++ fgc c g :: B) := by
  refine loop_idx' g.2.length (fun j => ((j : Int), A ++ (g.1, (g.2.take j).map (fun p => if c p = true then -1 else p) ++ g.2.drop j) :: B)) (by simp) (fun j hj => ?_) ?_
  · have hl : ((g.2.take j).map (fun p => if c p = true then -1 else p) ++ g.2.drop j).length = g.2.length := by simp; omega
    rw [hin j _ hj hl]
    have e1 : g.2.drop j = g.2.getD j 0 :: g.2.drop (j + 1) := by
      rw [List.getD_eq_getElem?_getD, List.getElem?_eq_getElem hj, Option.getD_some, List.drop_eq_getElem_cons hj]
    have e2 : ((g.2.take j).map (fun p => if c p = true then -1 else p)).length = j := by simp; omega
    have e3 : (g.2.take (j + 1)).map (fun p => if c p = true then -1 else p) = (g.2.take j).map (fun p => if c p = true then -1 else p) ++ [if c (g.2.getD j 0) = true then -1 else g.2.getD j 0] := by
      rw [take_snoc g.2 j hj 0, List.map_append]; rfl
    rw [e1, e3]
    obtain ⟨T, hT⟩ : ∃ T, T = (g.2.take j).map (fun p => if c p = true then -1 else p) := ⟨_, rfl⟩
    rw [← hT] at e2 ⊢
    subst e2
    rw [getD_mid, set_mid]
    by_cases h : c (g.2.getD T.length 0) = true
    · rw [if_pos h, if_pos h]; simp
    · rw [if_neg h, if_neg h]; simp
  · rw [hend _ (by simp)]
    simp [fgc]

theorem inner_genp (c : Int → Bool) (A B : List Log) (g : Log) (f : Int × List Log → Option ((Int × List Log) ⊕ List Log))
    (hin : ∀ j row, j < g.2.length → row.length = g.2.length → row.getD j 0 = g.2.getD j 0 → f ((j : Int), A ++ (g.1, row) :: B) = some (.inl ((j : Int) + 1, A ++ (g.1, if c (row.getD j 0) = true then row.set j (-1) else row) :: B)))
    (hend : ∀ row, row.length = g.2.length → f ((g.2.length : Int), A ++ (g.1, row) :: B) = some (.inr (A ++ (g.1, row) :: B))) :
    loopM f (0, A ++ g :: B) = some (A ++ fgc c g :: B) := by
  refine loop_idx' g.2.length (fun j => ((j : Int), A ++ (g.1, (g.2.take j).map (fun p => if c p = true then -1 else p) ++ g.2.drop j) :: B)) (by simp) (fun j hj => ?_) ?_
  · have hl : ((g.2.take j).map (fun p => if c p = true then -1 else p) ++ g.2.drop j).length = g.2.length := by simp; omega
    have e1 : g.2.drop j = g.2.getD j 0 :: g.2.drop (j + 1) := by
      rw [List.getD_eq_getElem?_getD, List.getElem?_eq_getElem hj, Option.getD_some, List.drop_eq_getElem_cons hj]
    have hrow : ((g.2.take j).map (fun p => if c p = true then -1 else p) ++ g.2.drop j).getD j 0 = g.2.getD j 0 := by
      rw [e1]
      have e2 : ((g.2.take j).map (fun p => if c p = true then -1 else p)).length = j := by simp; omega
      obtain ⟨T, hT⟩ : ∃ T, T = (g.2.take j).map (fun p => if c p = true then -1 else p) := ⟨_, rfl⟩
      rw [← hT] at e2 ⊢
      subst e2
      rw [getD_mid]
    rw [hin j _ hj hl hrow]
    have e2 : ((g.2.take j).map (fun p => if c p = true then -1 else p)).length = j := by simp; omega
    have e3 : (g.2.take (j + 1)).map (fun p => if c p = true then -1 else p) = (g.2.take j).map (fun p => if c p = true then -1 else p) ++ [if c (g.2.getD j 0) = true then -1 else g.2.getD j 0] := by
      rw [take_snoc g.2 j hj 0, List.map_append]; rfl
    rw [e1, e3]
    obtain ⟨T, hT⟩ : ∃ T, T = (g.2.take j).map (fun p => if c p = true then -1 else p) := ⟨_, rfl⟩
    rw [← hT] at e2 ⊢
    subst e2
    rw [getD_mid, set_mid]
    by_cases h : c (g.2.getD T.length 0) = true
    · rw [if_pos h, if_pos h]; simp
    · rw [if_neg h, if_neg h]; simp
  · rw [hend _ (by simp)]
    simp [fgc]

theorem outer_gen (c : Int → Bool) (G : List Log) (F : Int × List Log → Option ((Int × List Log) ⊕ List Log))
    (hout : ∀ (A : List Log) g B, A.length + 1 + B.length = G.length → g ∈ G → F ((A.length : Int), A ++ g :: B) = some (.inl ((A.length : Int) + 1, A ++ fgc c g :: B)))
    (hend : ∀ X, F ((G.length : Int), X) = some (.inr X)) : loopM F (0, G) = some (G.map (fgc c)) := by
  refine loop_idx' G.length (fun i => ((i : Int), (G.take i).map (fgc c) ++ G.drop i)) (by simp) (fun i hi => ?_) ?_
  · have e1 : G.drop i = G[i] :: G.drop (i + 1) := List.drop_eq_getElem_cons hi
    have e2 : ((G.take i).map (fgc c)).length = i := by simp; omega
    have e3 : (G.take (i + 1)).map (fgc c) = (G.take i).map (fgc c) ++ [fgc c G[i]] := by
      rw [List.take_add_one, List.getElem?_eq_getElem hi, List.map_append]; rfl
    rw [e1]
    have := hout ((G.take i).map (fgc c)) G[i] (G.drop (i + 1)) (by rw [e2]; simp; omega) (List.getElem_mem hi)
    rw [e2] at this
    rw [this, e3]
    simp
  · rw [hend]
    simp

def isn (n : Int) (p : Int) : Bool := decide (p = n)

theorem m18f_eq (n : Int) (hn : 0 ≤ n) (G : List Log) (hG : G.length ≤ 100) (hg : ∀ g ∈ G, g.2.length ≤ 32) : m18f n G = some (G.map (fgc (isn n))) := by
  unfold m18f
  refine outer_gen (isn n) G _ (fun A g B hl hm => ?_) (fun X => ?_)
  rotate_left
  · simp only; rw [decide_eq_false (by omega)]; rfl
  have hgl := hg g hm
  simp only [Int.toNat_natCast]
  rw [decide_eq_true (show (A.length : Int) < (G.length : Int) by omega)]
  simp only [cond_true]
  rw [gd_pos (by omega), gd_pos (by omega), gd_pos (by simp)]
  rw [inner_gen (isn n) A B g _ (fun j row hj hr => ?_) (fun row hr => ?_)]
  · simp only [Option.bind_some]; rw [wrap64 (by omega) (by omega)]
  · simp only [Int.toNat_natCast, ith_mid, setIn_mid]
    rw [decide_eq_true (show (j : Int) < (g.2.length : Int) by omega)]
    simp only [cond_true]
    rw [gd_pos (by omega), gd_pos (by omega), gd_pos (by omega), wrap64 (by omega) (by omega)]
    unfold isn
    simp only [Bool.cond_eq_ite, decide_eq_true_eq]
    have aux : ∀ v : Int, (if v ≥ 0 then (if v = n then gd ((0 : Int) ≤ (j : Int)) (gd ((j : Int) < (row.length : Int)) (gd (j < row.length) (some (Sum.inl ((j : Int) + 1, A ++ (g.1, row.set j (-1)) :: B))))) else some (Sum.inl ((j : Int) + 1, A ++ (g.1, row) :: B))) else some (Sum.inl ((j : Int) + 1, A ++ (g.1, row) :: B))) = (some (Sum.inl ((j : Int) + 1, A ++ (g.1, if v = n then row.set j (-1) else row) :: B)) : Option ((Int × List Log) ⊕ List Log)) := by
      intro v
      by_cases h1 : v = n
      · rw [if_pos (by omega), if_pos h1, if_pos h1, gd_pos (by omega), gd_pos (by omega), gd_pos (by omega)]
      · by_cases h2 : v ≥ 0
        · rw [if_pos h2, if_neg h1, if_neg h1]
        · rw [if_neg h2, if_neg h1]
    exact aux (row.getD j 0)
  · simp only [Int.toNat_natCast, ith_mid]
    rw [decide_eq_false (by omega)]; rfl

theorem room_fgc (P : Int) (c : Int → Bool) (G : List Log) : room P (G.map (fgc c)) = room P G := by
  unfold room
  have : (((G.map (fgc c)).getD ((G.map (fgc c)).length - 1) (0, [])).2.length) = (G.getD (G.length - 1) (0, [])).2.length := by
    simp only [List.length_map, List.getD_eq_getElem?_getD, List.getElem?_map]
    cases G[G.length - 1]? <;> simp [fgc]
  rw [this, List.length_map]

def addLast (G : List Log) (v : Int) : List Log := setIn (A := Int) (ki := .int .i64) G (G.length - 1) (ith (A := Int) (ki := .int .i64) G (G.length - 1) ++ [v])

theorem addLast_snoc (A : List Log) (g : Log) (v : Int) : addLast (A ++ [g]) v = A ++ [(g.1, g.2 ++ [v])] := by
  unfold addLast
  have e : (A ++ [g]).length - 1 = A.length := by simp
  rw [e, ith_mid, setIn_mid]

section
open Classical
variable (P L K : Int) (D : List Int) (H : List Bool) (S : Int × (Int × Int)) (G : List Log)

noncomputable def openS (s : Int × Int) (ph : Int) : Tab × (Int × Unit) :=
  if ¬ Good P L K D H S G then (zeroT, (50, ()))
  else if ¬ fresh D S G ph then (zeroT, (1, ()))
  else if s.1 = 3 ∧ S.1 < 0 ∧ 0 ≤ s.2 ∧ s.2 < L then ((P, (L, (K, (D, (H, ((ph, (s.2, 0)), G)))))), (0, ()))
  else if s.1 = 4 ∧ (G.length : Int) < K ∧ room P G = false then ((P, (L, (K, (D, (H, (S, G ++ [(ph, [])])))))), (0, ()))
  else (zeroT, (51, ()))

noncomputable def putS (s : Int × Int) (n : Int) : Tab × ((Int × Int) × (Int × Unit)) :=
  if ¬ Good P L K D H S G then (zeroT, ((0, 0), (50, ())))
  else if ¬ (0 ≤ n ∧ n < H.length) then (zeroT, ((0, 0), (1, ())))
  else if s.1 = 1 ∧ 0 ≤ S.1 ∧ S.2.1 = Int.tdiv n P ∧ S.2.2 = Int.tmod n P then ((P, (L, (K, (D, (H, ((S.1, (S.2.1, S.2.2 + 1)), G.map (fgc (isn n)))))))), ((S.1, S.2.2), (0, ())))
  else if s.1 = 2 ∧ room P G = true then
    ((P, (L, (K, (D, (H, (S, addLast (G.map (fgc (isn n))) n)))))), ((hth (kh := .int .i64) (ki := .int .i64) (addLast (G.map (fgc (isn n))) n) (G.length - 1), (((ith (A := Int) (ki := .int .i64) (addLast (G.map (fgc (isn n))) n) (G.length - 1)).length : Nat) : Int) - 1), (0, ())))
  else (zeroT, ((0, 0), (51, ())))

end

section
variable {P L K : Int} {D : List Int} {H : List Bool} {S : Int × (Int × Int)} {G : List Log}

theorem ok_eq {A : Type} {o : Option A} {r : A} (h : Ok o (fun x => x = r)) : o = some r := by
  obtain ⟨x, e, h⟩ := h; rw [e, h]

theorem Good.el (h : Good P L K D H S G) : ∀ g ∈ G, g.2.length ≤ 32 := fun g hg => by
  obtain ⟨i, hi, e⟩ := List.getElem_of_mem hg
  have := h.sz.2.2.2 i hi
  rw [List.getD_eq_getElem?_getD, List.getElem?_eq_getElem hi] at this
  simp only [Option.getD_some] at this
  rw [e] at this; exact this

theorem m15_spec (s : Int × Int) (ph : Int) : m15 ((P, (L, (K, (D, (H, (S, G)))))), (s, (ph, ()))) = some (openS P L K D H S G s ph) := by
  apply ok_eq
  unfold m15
  unfold openS
  by_cases h : Good P L K D H S G
  rotate_left
  · rw [m25_bad h]
    simp only [Option.bind_some]
    refine Ok.ncond (fun _ => Ok.some ?_) (fun h1 => by simp at h1)
    rw [if_pos h]; rfl
  rw [m25_good h, if_neg (Classical.not_not.2 h)]
  simp only [Option.bind_some]
  obtain ⟨s1, s2, s3, s4⟩ := h.sz
  have hs := h.li.sh
  obtain ⟨p1, p2, p3, p4, p5, p6⟩ := hs
  refine Ok.ncond (fun h1 => absurd trivial h1) (fun _ => ?_)
  refine Ok.bind (m47_ok h ph) fun y hy => ?_
  refine Ok.condb (fun h1 => ?_) (fun h1 => ?_)
  · have : ¬ fresh D S G ph := fun g => by rw [hy.2 g] at h1; simp at h1
    rw [if_pos this]; exact Ok.some rfl
  have hf : fresh D S G ph := hy.1 (by simpa using h1)
  rw [if_neg (Classical.not_not.2 hf)]
  rw [clo_eq P L K D H S G (by omega) (fun i hi => by have := s4 i hi; omega)]
  simp only [Option.bind_some]
  refine Ok.gd (by omega) (Ok.gd (by omega) (Ok.gd (by omega) (Ok.gd (by omega) (Ok.gd (by omega) (Ok.gd (by omega) ?_)))))
  have tail : ¬ (s.1 = 3 ∧ S.1 < 0 ∧ 0 ≤ s.2 ∧ s.2 < L) → Ok (m15t ((P, (L, (K, (D, (H, (S, G)))))), (s, (ph, ()))) (P, (L, (K, (D, (H, (S.1, (S.2.1, (S.2.2, G))))))))) (fun r => r = if s.1 = 3 ∧ S.1 < 0 ∧ 0 ≤ s.2 ∧ s.2 < L then ((P, (L, (K, (D, (H, ((ph, (s.2, 0)), G)))))), (0, ()))
      else if s.1 = 4 ∧ (G.length : Int) < K ∧ room P G = false then ((P, (L, (K, (D, (H, (S, G ++ [(ph, [])])))))), (0, ()))
      else (zeroT, (51, ()))) := by
    intro hn
    rw [if_neg hn]
    unfold m15t
    refine Ok.cond (fun a => Ok.cond (fun b => ?_) (fun b => Ok.some ?_)) (fun a => Ok.some ?_)
    · rw [m49_eq P L K D H S G (by omega)]
      simp only [Option.bind_some] at a b ⊢
      refine Ok.condb (fun c => Ok.gd (by omega) (Ok.gd (by omega) (Ok.some ?_))) (fun c => Ok.some ?_)
      · simp only [Bool.not_eq_true'] at c
        rw [if_pos ⟨a, b, c⟩]
      · simp only [Bool.not_eq_false'] at c
        rw [if_neg (fun g => by rw [g.2.2] at c; simp at c)]; rfl
    · rw [if_neg (fun g => b g.2.1)]; rfl
    · rw [if_neg (fun g => a g.1)]; rfl
  rw [wrap64 (n := L - 1) (by omega) (by omega), m40_eq]
  simp only [Option.bind_some]
  refine Ok.cond (fun a => Ok.cond (fun b => Ok.cond (fun c => Ok.some ?_) (fun c => tail fun g => c ⟨g.2.2.1, by have := g.2.2.2; omega⟩)) (fun b => tail fun g => b g.2.1)) (fun a => tail fun g => a g.1)
  rw [if_pos ⟨a, b, c.1, by omega⟩]

theorem m18_spec (s : Int × Int) (n : Int) : m18 ((P, (L, (K, (D, (H, (S, G)))))), (s, (n, ()))) = some (putS P L K D H S G s n) := by
  apply ok_eq
  unfold m18
  unfold putS
  by_cases h : Good P L K D H S G
  rotate_left
  · rw [m25_bad h]
    simp only [Option.bind_some]
    refine Ok.ncond (fun _ => Ok.some ?_) (fun h1 => by simp at h1)
    rw [if_pos h]; rfl
  rw [m25_good h, if_neg (Classical.not_not.2 h)]
  simp only [Option.bind_some]
  obtain ⟨s1, s2, s3, s4⟩ := h.sz
  have hs := h.li.sh
  have hm := shape_mul hs
  have hHl := h.li.hl
  have hsq := h.li.sq
  obtain ⟨p1, p2, p3, p4, p5, p6⟩ := hs
  refine Ok.ncond (fun h1 => absurd trivial h1) (fun _ => ?_)
  rw [wrap64 (n := ((H.length : Nat) : Int) - 1) (by omega) (by omega), m40_eq]
  simp only [Option.bind_some]
  refine Ok.ncond (fun h1 => Ok.some ?_) (fun h1 => ?_)
  · rw [if_pos (fun g => h1 (by omega))]; rfl
  rw [if_neg (Classical.not_not.2 ⟨h1.1, by omega⟩)]
  rw [clo_eq P L K D H S G (by omega) (fun i hi => by have := s4 i hi; omega)]
  simp only [Option.bind_some]
  refine Ok.gd (by omega) (Ok.gd (by omega) (Ok.gd (by omega) (Ok.gd (by omega) (Ok.gd (by omega) (Ok.gd (by omega) ?_)))))
  rw [m18f_eq n h1.1 G (by omega) h.el]
  simp only [Option.bind_some]
  obtain ⟨N, rfl⟩ : ∃ N : Nat, n = N := ⟨n.toNat, by omega⟩
  obtain ⟨Q, rfl⟩ : ∃ Q : Nat, P = Q := ⟨P.toNat, by omega⟩
  have hdv : N / Q < 10000 := Nat.lt_of_le_of_lt (Nat.div_le_self _ _) (by omega)
  obtain ⟨G', hG'⟩ : ∃ G', G' = G.map (fgc (isn (N : Int))) := ⟨_, rfl⟩
  have hl' : G'.length = G.length := by rw [hG', List.length_map]
  have hrm : room Q G' = room Q G := by rw [hG', room_fgc]
  have hel : ∀ g ∈ G', g.2.length ≤ 32 := fun g hg => by
    rw [hG'] at hg
    obtain ⟨g', hg', rfl⟩ := List.mem_map.1 hg
    have := h.el g' hg'
    simpa [fgc] using this
  rw [← hG']
  have tail : ¬ (s.1 = 1 ∧ 0 ≤ S.1 ∧ S.2.1 = Int.tdiv (N : Int) Q ∧ S.2.2 = Int.tmod (N : Int) Q) → Ok (m18t (((Q : Int), (L, (K, (D, (H, (S, G)))))), (s, ((N : Int), ()))) ((Q : Int), (L, (K, (D, (H, (S.1, (S.2.1, (S.2.2, G)))))))) G') (fun r => r = if s.1 = 1 ∧ 0 ≤ S.1 ∧ S.2.1 = Int.tdiv (N : Int) Q ∧ S.2.2 = Int.tmod (N : Int) Q then (((Q : Int), (L, (K, (D, (H, ((S.1, (S.2.1, S.2.2 + 1)), G')))))), ((S.1, S.2.2), (0, ())))
      else if s.1 = 2 ∧ room Q G = true then
        (((Q : Int), (L, (K, (D, (H, (S, addLast G' N)))))), ((hth (kh := .int .i64) (ki := .int .i64) (addLast G' N) (G.length - 1), (((ith (A := Int) (ki := .int .i64) (addLast G' N) (G.length - 1)).length : Nat) : Int) - 1), (0, ())))
      else (zeroT, ((0, 0), (51, ())))) := by
    intro hn
    rw [if_neg hn]
    unfold m18t
    refine Ok.cond (fun a => ?_) (fun a => Ok.some ?_)
    · rw [m49_eq _ _ _ _ _ _ _ (by omega), hrm]
      simp only [Option.bind_some] at a ⊢
      refine Ok.condb (fun c => ?_) (fun c => Ok.some ?_)
      · rw [if_pos ⟨a, c⟩]
        have hpos : 0 < G.length := by
          unfold room at c; simp only [decide_eq_true_eq] at c; exact c.1
        rw [wrap64 (n := ((G.length : Nat) : Int) - 1) (by omega) (by omega)]
        have e1 : ((((G.length : Nat) : Int) - 1).toNat) = G.length - 1 := by omega
        obtain ⟨A, g, hAg⟩ : ∃ A g, G' = A ++ [g] := ⟨G'.dropLast, G'.getLast (by intro e; rw [e] at hl'; simp at hl'; omega), (List.dropLast_concat_getLast _).symm⟩
        have hAl : G.length - 1 = A.length := by rw [← hl', hAg]; simp
        have hgl : g.2.length ≤ 32 := hel g (by rw [hAg]; simp)
        have e2 : setIn (A := Int) (ki := .int .i64) (A ++ [g]) A.length (g.2 ++ [(N : Int)]) = A ++ [(g.1, g.2 ++ [(N : Int)])] := setIn_mid A [] g _
        have e3 : ith (A := Int) (ki := .int .i64) (A ++ [g]) A.length = g.2 := ith_mid A [] g
        have e4 : ith (A := Int) (ki := .int .i64) (A ++ [(g.1, g.2 ++ [(N : Int)])]) A.length = g.2 ++ [(N : Int)] := ith_mid A [] _
        have e5 : hth (kh := .int .i64) (ki := .int .i64) (A ++ [(g.1, g.2 ++ [(N : Int)])]) A.length = g.1 := hth_mid A [] _
        subst hAg
        simp only [e1, hAl, e3, e2, e4, e5, addLast_snoc]
        have hx : (A ++ [g]).length = A.length + 1 := by simp
        have hx2 : (A ++ [(g.1, g.2 ++ [(N : Int)])]).length = A.length + 1 := by simp
        have hx3 : (g.2 ++ [(N : Int)]).length = g.2.length + 1 := by simp
        rw [hx2, hx3, hx, wrap64 (n := ((g.2.length + 1 : Nat) : Int) - 1) (by omega) (by omega)]
        refine Ok.gd (by omega) (Ok.gd (by omega) (Ok.gd (by omega) (Ok.gd (by simp; omega) (Ok.gd (by simp; omega) (Ok.gd (by omega) (Ok.gd (by omega) (Ok.gd trivial (Ok.gd trivial (Ok.gd (by omega) (Ok.gd (by omega) (Ok.gd (by omega) (Ok.gd (by omega) (Ok.gd (by omega) (Ok.gd (by omega) (Ok.some rfl)))))))))))))))
      · rw [if_neg (fun g => by rw [g.2] at c; simp at c)]; rfl
    · rw [if_neg (fun g => a g.1)]; rfl
  refine Ok.cond (fun a => Ok.cond (fun b => ?_) (fun b => tail fun g => b g.2.1)) (fun a => tail fun g => a g.1)
  obtain ⟨bb, hb⟩ : ∃ b, N / Q = b := ⟨_, rfl⟩
  rw [hb] at hdv
  simp only [div_mod.1, div_mod.2, hb] at tail ⊢
  rw [wrap64 (n := (bb : Int)) (by omega) (by omega)]
  refine Ok.ite (fun e => by omega) (fun _ => ?_)
  refine Ok.cond (fun c => ?_) (fun c => tail fun g => c g.2.2.1)
  refine Ok.ite (fun e => by omega) (fun _ => ?_)
  refine Ok.cond (fun d => Ok.some ?_) (fun d => tail fun g => d g.2.2.2)
  have hu : 0 ≤ S.2.2 ∧ S.2.2 ≤ 100 := by
    rcases hsq with e | e
    · rw [e]; simp
    · omega
  rw [if_pos ⟨a, b, c, d⟩, wrap64 (n := S.2.2 + 1) (by omega) (by omega), wrap64 (n := S.2.2 + 1 - 1) (by omega) (by omega), show S.2.2 + 1 - 1 = S.2.2 by omega]

end
end Go.Proofs.Ytecadglgkhfaaaa
end
