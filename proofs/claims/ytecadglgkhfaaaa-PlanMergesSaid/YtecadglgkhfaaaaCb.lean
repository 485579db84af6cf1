/- What the functions of this claim compute, each shown by the kernel, and what that comes to, with no program in sight. No condition. -/
import Derived.Test.YtecadglgkhfaaaaCa
set_option maxRecDepth 2000
set_option linter.unusedVariables false
set_option linter.unusedSimpArgs false
section
open Go Go.Proofs.AM
namespace Go.Proofs.Ytecadglgkhfaaaa

noncomputable def m19f (n : Int) (G : List (Int × (List Int))) : Option (List (Int × (List Int))) :=
 (loopM (X := (Int × (List (Int × (List Int))))) (E := (List (Int × (List Int)))) (fun (x4 : (Int × (List (Int × (List Int))))) =>
 bif (decide (x4.1 < (((List.length G) : Nat) : Int))) then
 (Option.bind (loopM (X := (Int × (List (Int × (List Int))))) (E := (List (Int × (List Int)))) (fun (x5 : (Int × (List (Int × (List Int))))) =>
 gd ((0 : Int) ≤ x4.1) (gd (x4.1 < (((List.length G) : Nat) : Int)) (gd ((Int.toNat x4.1) < (List.length x5.2)) (bif (decide (x5.1 < (((List.length (ith (A := Int) (ki := (.int .i64)) x5.2 (Int.toNat x4.1))) : Nat) : Int))) then
 (gd ((0 : Int) ≤ x4.1) (gd (x4.1 < (((List.length G) : Nat) : Int)) (gd ((Int.toNat x4.1) < (List.length x5.2)) (gd ((0 : Int) ≤ x5.1) (gd (x5.1 < (((List.length (ith (A := Int) (ki := (.int .i64)) x5.2 (Int.toNat x4.1))) : Nat) : Int)) (gd ((Int.toNat x5.1) < (List.length (ith (A := Int) (ki := (.int .i64)) x5.2 (Int.toNat x4.1)))) (bif (decide ((List.getD (ith (A := Int) (ki := (.int .i64)) x5.2 (Int.toNat x4.1)) (Int.toNat x5.1) (0 : Int)) ≥ n)) then
 (bif (decide ((List.getD (ith (A := Int) (ki := (.int .i64)) x5.2 (Int.toNat x4.1)) (Int.toNat x5.1) (0 : Int)) < (Go.IntKind.wrap .i64 (n + (1 : Int))))) then
 (gd ((0 : Int) ≤ x4.1) (gd (x4.1 < (((List.length G) : Nat) : Int)) (gd ((Int.toNat x4.1) < (List.length x5.2)) (gd ((0 : Int) ≤ x5.1) (gd (x5.1 < (((List.length (ith (A := Int) (ki := (.int .i64)) x5.2 (Int.toNat x4.1))) : Nat) : Int)) (gd ((Int.toNat x5.1) < (List.length (ith (A := Int) (ki := (.int .i64)) x5.2 (Int.toNat x4.1)))) (some (Sum.inl ((Go.IntKind.wrap .i64 (x5.1 + (1 : Int))), (setIn (A := Int) (ki := (.int .i64)) x5.2 (Int.toNat x4.1) (List.set (ith (A := Int) (ki := (.int .i64)) x5.2 (Int.toNat x4.1)) (Int.toNat x5.1) (-1 : Int))))))))))))
 else
 (some (Sum.inl ((Go.IntKind.wrap .i64 (x5.1 + (1 : Int))), x5.2))))
 else
 (some (Sum.inl ((Go.IntKind.wrap .i64 (x5.1 + (1 : Int))), x5.2))))))))))
 else
 (some (Sum.inr x5.2)))))) ((0 : Int), x4.2)) fun (y5 : (List (Int × (List Int)))) =>
 some (Sum.inl ((Go.IntKind.wrap .i64 (x4.1 + (1 : Int))), y5)))
 else
 (some (Sum.inr x4.2))) ((0 : Int), G))

noncomputable def m19t (x : tT × (Int × Int) × Int × Unit) (y3 : eT) (y4 : List (Int × (List Int))) : Option (tT × ((Int × Int) × (Int × Unit))) :=
 (bif (decide (x.2.1.1 = (2 : Int))) then
 (Option.bind (m46 (x.1, ())) fun (y5 : (Bool × Unit)) =>
 bif y5.1 then
 (gd ((0 : Int) ≤ (Go.IntKind.wrap .i64 ((((List.length y3.2.2.2.2.2.2.2.2) : Nat) : Int) - (1 : Int)))) (gd ((Go.IntKind.wrap .i64 ((((List.length y3.2.2.2.2.2.2.2.2) : Nat) : Int) - (1 : Int))) < (((List.length y3.2.2.2.2.2.2.2.2) : Nat) : Int)) (gd ((Int.toNat (Go.IntKind.wrap .i64 ((((List.length y3.2.2.2.2.2.2.2.2) : Nat) : Int) - (1 : Int)))) < (List.length y4)) (gd ((((List.length (ith (A := Int) (ki := (.int .i64)) y4 (Int.toNat (Go.IntKind.wrap .i64 ((((List.length y3.2.2.2.2.2.2.2.2) : Nat) : Int) - (1 : Int)))))) + (List.length (x.2.2.1 :: ([] : List Int)))) * 8) ≤ 140737488355328) (gd (((List.length (ith (A := Int) (ki := (.int .i64)) y4 (Int.toNat (Go.IntKind.wrap .i64 ((((List.length y3.2.2.2.2.2.2.2.2) : Nat) : Int) - (1 : Int)))))) + (List.length (x.2.2.1 :: ([] : List Int)))) ≤ 140737488355328) (gd ((0 : Int) ≤ (Go.IntKind.wrap .i64 ((((List.length y3.2.2.2.2.2.2.2.2) : Nat) : Int) - (1 : Int)))) (gd ((Go.IntKind.wrap .i64 ((((List.length y3.2.2.2.2.2.2.2.2) : Nat) : Int) - (1 : Int))) < (((List.length y3.2.2.2.2.2.2.2.2) : Nat) : Int)) (gd ((Int.toNat (Go.IntKind.wrap .i64 ((((List.length y3.2.2.2.2.2.2.2.2) : Nat) : Int) - (1 : Int)))) = (Int.toNat (Go.IntKind.wrap .i64 ((((List.length y3.2.2.2.2.2.2.2.2) : Nat) : Int) - (1 : Int))))) (gd ((Int.toNat (Go.IntKind.wrap .i64 ((((List.length y3.2.2.2.2.2.2.2.2) : Nat) : Int) - (1 : Int)))) = (Int.toNat (Go.IntKind.wrap .i64 ((((List.length y3.2.2.2.2.2.2.2.2) : Nat) : Int) - (1 : Int))))) (gd ((0 : Int) ≤ (Go.IntKind.wrap .i64 ((((List.length y3.2.2.2.2.2.2.2.2) : Nat) : Int) - (1 : Int)))) (gd ((Go.IntKind.wrap .i64 ((((List.length y3.2.2.2.2.2.2.2.2) : Nat) : Int) - (1 : Int))) < (((List.length y3.2.2.2.2.2.2.2.2) : Nat) : Int)) (gd ((Int.toNat (Go.IntKind.wrap .i64 ((((List.length y3.2.2.2.2.2.2.2.2) : Nat) : Int) - (1 : Int)))) < (List.length (setIn (A := Int) (ki := (.int .i64)) y4 (Int.toNat (Go.IntKind.wrap .i64 ((((List.length y3.2.2.2.2.2.2.2.2) : Nat) : Int) - (1 : Int)))) ((ith (A := Int) (ki := (.int .i64)) y4 (Int.toNat (Go.IntKind.wrap .i64 ((((List.length y3.2.2.2.2.2.2.2.2) : Nat) : Int) - (1 : Int))))) ++ (x.2.2.1 :: ([] : List Int)))))) (gd ((0 : Int) ≤ (Go.IntKind.wrap .i64 ((((List.length y3.2.2.2.2.2.2.2.2) : Nat) : Int) - (1 : Int)))) (gd ((Go.IntKind.wrap .i64 ((((List.length y3.2.2.2.2.2.2.2.2) : Nat) : Int) - (1 : Int))) < (((List.length y3.2.2.2.2.2.2.2.2) : Nat) : Int)) (gd ((Int.toNat (Go.IntKind.wrap .i64 ((((List.length y3.2.2.2.2.2.2.2.2) : Nat) : Int) - (1 : Int)))) < (List.length (setIn (A := Int) (ki := (.int .i64)) y4 (Int.toNat (Go.IntKind.wrap .i64 ((((List.length y3.2.2.2.2.2.2.2.2) : Nat) : Int) - (1 : Int)))) ((ith (A := Int) (ki := (.int .i64)) y4 (Int.toNat (Go.IntKind.wrap .i64 ((((List.length y3.2.2.2.2.2.2.2.2) : Nat) : Int) - (1 : Int))))) ++ (x.2.2.1 :: ([] : List Int)))))) (some ((y3.1, (y3.2.1, (y3.2.2.1, (y3.2.2.2.1, (y3.2.2.2.2.1, ((y3.2.2.2.2.2.1, (y3.2.2.2.2.2.2.1, y3.2.2.2.2.2.2.2.1)), (setIn (A := Int) (ki := (.int .i64)) y4 (Int.toNat (Go.IntKind.wrap .i64 ((((List.length y3.2.2.2.2.2.2.2.2) : Nat) : Int) - (1 : Int)))) ((ith (A := Int) (ki := (.int .i64)) y4 (Int.toNat (Go.IntKind.wrap .i64 ((((List.length y3.2.2.2.2.2.2.2.2) : Nat) : Int) - (1 : Int))))) ++ (x.2.2.1 :: ([] : List Int)))))))))), (((hth (kh := (.int .i64)) (ki := (.int .i64)) (setIn (A := Int) (ki := (.int .i64)) y4 (Int.toNat (Go.IntKind.wrap .i64 ((((List.length y3.2.2.2.2.2.2.2.2) : Nat) : Int) - (1 : Int)))) ((ith (A := Int) (ki := (.int .i64)) y4 (Int.toNat (Go.IntKind.wrap .i64 ((((List.length y3.2.2.2.2.2.2.2.2) : Nat) : Int) - (1 : Int))))) ++ (x.2.2.1 :: ([] : List Int)))) (Int.toNat (Go.IntKind.wrap .i64 ((((List.length y3.2.2.2.2.2.2.2.2) : Nat) : Int) - (1 : Int))))), (Go.IntKind.wrap .i64 ((((List.length (ith (A := Int) (ki := (.int .i64)) (setIn (A := Int) (ki := (.int .i64)) y4 (Int.toNat (Go.IntKind.wrap .i64 ((((List.length y3.2.2.2.2.2.2.2.2) : Nat) : Int) - (1 : Int)))) ((ith (A := Int) (ki := (.int .i64)) y4 (Int.toNat (Go.IntKind.wrap .i64 ((((List.length y3.2.2.2.2.2.2.2.2) : Nat) : Int) - (1 : Int))))) ++ (x.2.2.1 :: ([] : List Int)))) (Int.toNat (Go.IntKind.wrap .i64 ((((List.length y3.2.2.2.2.2.2.2.2) : Nat) : Int) - (1 : Int)))))) : Nat) : Int) - (1 : Int)))), ((0 : Int), ())))))))))))))))))))
 else
 (some (((0 : Int), ((0 : Int), ((0 : Int), (([] : List Int), (([] : List Bool), (((0 : Int), ((0 : Int), (0 : Int))), ([] : List (Int × (List Int))))))))), (((0 : Int), (0 : Int)), ((51 : Int), ())))))
 else
 (some (((0 : Int), ((0 : Int), ((0 : Int), (([] : List Int), (([] : List Bool), (((0 : Int), ((0 : Int), (0 : Int))), ([] : List (Int × (List Int))))))))), (((0 : Int), (0 : Int)), ((51 : Int), ())))))

noncomputable def m19 (x : tT × (Int × Int) × Int × Unit) : Option (tT × ((Int × Int) × (Int × Unit))) :=
 Option.bind (m43 (x.1, ())) fun (y1 : (Int × Unit)) =>
 bif (!(decide (y1.1 = (0 : Int)))) then
 (some (((0 : Int), ((0 : Int), ((0 : Int), (([] : List Int), (([] : List Bool), (((0 : Int), ((0 : Int), (0 : Int))), ([] : List (Int × (List Int))))))))), (((0 : Int), (0 : Int)), (y1.1, ()))))
 else
 (Option.bind (m44 (x.1, (x.2.2.1, ()))) fun (y2 : (Bool × Unit)) =>
 bif (!y2.1) then
 (some (((0 : Int), ((0 : Int), ((0 : Int), (([] : List Int), (([] : List Bool), (((0 : Int), ((0 : Int), (0 : Int))), ([] : List (Int × (List Int))))))))), (((0 : Int), (0 : Int)), ((1 : Int), ()))))
 else
 (if x.1.1 = (0 : Int) then
 (none)
 else
 (if x.1.1 = (0 : Int) then
 (none)
 else
 (gd ((((List.length ([] : List Int)) + (List.length x.1.2.2.2.1)) * 8) ≤ 140737488355328) (gd (((List.length ([] : List Int)) + (List.length x.1.2.2.2.1)) ≤ 140737488355328) (gd ((((List.length ([] : List Bool)) + (List.length x.1.2.2.2.2.1)) * 1) ≤ 140737488355328) (gd (((List.length ([] : List Bool)) + (List.length x.1.2.2.2.2.1)) ≤ 140737488355328) (Option.bind (clr x.1) fun (y3 : eT) =>
 Option.bind (m19f x.2.2.1 y3.2.2.2.2.2.2.2.2) fun (y4 : (List (Int × (List Int)))) =>
 bif (decide (x.2.1.1 = (1 : Int))) then
 (bif (decide (x.1.2.2.2.2.2.1.1 ≥ (0 : Int))) then
 (bif (decide (x.1.2.2.2.2.2.1.2.1 = (Go.IntKind.wrap .i64 (Int.tdiv x.2.2.1 x.1.1)))) then
 (bif (decide (x.1.2.2.2.2.2.1.2.2 = (Int.tmod x.2.2.1 x.1.1))) then
 (some ((y3.1, (y3.2.1, (y3.2.2.1, (y3.2.2.2.1, (y3.2.2.2.2.1, ((y3.2.2.2.2.2.1, (y3.2.2.2.2.2.2.1, (Go.IntKind.wrap .i64 (y3.2.2.2.2.2.2.2.1 + (1 : Int))))), y4)))))), ((y3.2.2.2.2.2.1, (Int.tmod x.2.2.1 x.1.1)), ((0 : Int), ()))))
 else
 (m19t x y3 y4))
 else
 (m19t x y3 y4))
 else
 (m19t x y3 y4))
 else
 (m19t x y3 y4)))))))))

noncomputable def i19_12 : ID := aInl Try.prog ({ envOf [] [] [] [] with deep := [79] }) ⟨[(10000, ⟨[.slot 4 (.d false (.int .i64) true), .cell 6 0 (.d false (.int .i64) true), .cell 6 1 (.d false (.int .i64) true), .cell 6 2 (.d false (.int .i64) true), .cell 6 3 (.v 3 (.int .i64) true), .cell 6 4 (.v 4 .bool true), .cell 6 5 (.d false (.int .i64) true), .cell 6 6 (.d false (.int .i64) true), .cell 6 7 (.d false (.int .i64) true), .cell 6 8 (.h 79 3 (.int .i64) (.int .i64))], [7, 8], [(some 0, [.cell 6 0 (.d false (.int .i64) true), .cell 6 1 (.d false (.int .i64) true), .cell 6 2 (.d false (.int .i64) true), .cell 6 3 (.v 3 (.int .i64) true), .cell 6 4 (.v 4 .bool true), .cell 6 5 (.d false (.int .i64) true), .cell 6 6 (.d false (.int .i64) true), .cell 6 7 (.d false (.int .i64) true), .cell 6 8 (.h 79 3 (.int .i64) (.int .i64))])], none⟩)], []⟩ Try.f12
noncomputable def i19_54 : ID := aInl Try.prog ({ envOf [] [] [] [] with deep := [79] }) ⟨[(15000, ⟨[.slot 7 (.d false (.int .i64) true), .dvec 11 79 3 (.int .i64) (.int .i64)], [], [(some 0, [.dvec 11 79 3 (.int .i64) (.int .i64)])], none⟩), (15002, ⟨[.slot 8 (.d false (.int .i64) true), .dvec 11 79 3 (.int .i64) (.int .i64)], [], [(some 2, [.dvec 11 79 3 (.int .i64) (.int .i64)])], none⟩)], []⟩ Try.f54
noncomputable def r19 : PDen [(true, kT), (true, (.pair (.int .i64) (.int .i64))), (false, (.int .i64))] → Option (PDen [(true, kT), (true, (.pair (.int .i64) (.int .i64))), (false, (.int .i64))]) := fun x => afun Try.prog ({ envOf [(43, ⟨[(true, kT)], [(false, (.int .i64))], false, m43⟩), (44, ⟨[(true, kT), (false, (.int .i64))], [(false, .bool)], false, m44⟩), (46, ⟨[(true, kT)], [(false, .bool)], false, m46⟩)] [] [] [(12, i19_12), (54, i19_54)] with deep := [79] }) ⟨[], []⟩ Try.f19 [(true, kT), (true, (.pair (.int .i64) (.int .i64))), (false, (.int .i64))] [(true, kT), (true, (.pair (.int .i64) (.int .i64))), (false, (.int .i64))] false x
theorem r19_eq : r19 = m19 := by kernel_rfl

theorem i19_12_sound : i19_12.Sound Try.prog 12 := aInl_sound' (Env.Sound.deepen (envOf_sound (CSs.nil) (HDs.nil) (IDs.nil)) [79]) Try.follows (f := 12) (fn := Try.f12) Try.func12 (by kernel_rfl) (by kernel_rfl)
theorem i19_54_sound : i19_54.Sound Try.prog 54 := aInl_sound' (Env.Sound.deepen (envOf_sound (CSs.nil) (HDs.nil) (IDs.nil)) [79]) Try.follows (f := 54) (fn := Try.f54) Try.func54 (by kernel_rfl) (by kernel_rfl)
theorem c19 : CS.Sound Try.prog 19 ⟨[(true, kT), (true, (.pair (.int .i64) (.int .i64))), (false, (.int .i64))], [(true, kT), (true, (.pair (.int .i64) (.int .i64))), (false, (.int .i64))], false, m19⟩ := afun_sound' (Env.Sound.deepen (envOf_sound (CSs.cons c43 (CSs.cons c44 (CSs.cons c46 (CSs.nil)))) (HDs.nil) (IDs.cons i19_12_sound (IDs.cons i19_54_sound (IDs.nil)))) [79]) rfl Try.follows (f := 19) (fn := Try.f19) Try.func19 (by kernel_rfl) (by kernel_rfl) r19_eq
end Go.Proofs.Ytecadglgkhfaaaa
end

section
open Go Go.Proofs.AM
namespace Go.Proofs.Ytecadglgkhfaaaa

noncomputable def m20 (x : tT × (Int × Int) × Unit) : Option (tT × (Int × Unit)) :=
 Option.bind (m25 (x.1, ())) fun (y1 : (Int × Unit)) =>
 bif (!(decide (y1.1 = (0 : Int)))) then
 (some (((0 : Int), ((0 : Int), ((0 : Int), (([] : List Int), (([] : List Bool), (((0 : Int), ((0 : Int), (0 : Int))), ([] : List (Int × (List Int))))))))), (y1.1, ())))
 else
 (bif (!(decide (x.2.1.1 = (2 : Int)))) then
 (some (((0 : Int), ((0 : Int), ((0 : Int), (([] : List Int), (([] : List Bool), (((0 : Int), ((0 : Int), (0 : Int))), ([] : List (Int × (List Int))))))))), ((51 : Int), ())))
 else
 (Option.bind (m49 (x.1, ())) fun (y2 : (Bool × Unit)) =>
 bif (!y2.1) then
 (some (((0 : Int), ((0 : Int), ((0 : Int), (([] : List Int), (([] : List Bool), (((0 : Int), ((0 : Int), (0 : Int))), ([] : List (Int × (List Int))))))))), ((51 : Int), ())))
 else
 (gd ((0 : Int) ≤ (((List.length x.1.2.2.2.1) : Nat) : Int)) (gd ((((List.length x.1.2.2.2.1) : Nat) : Int) ≤ (((List.length x.1.2.2.2.1) : Nat) : Int)) (gd (((((List.length x.1.2.2.2.1) : Nat) : Int) * (8 : Int)) ≤ (140737488355328 : Int)) (gd ((0 : Int) ≤ (((List.length x.1.2.2.2.2.1) : Nat) : Int)) (gd ((((List.length x.1.2.2.2.2.1) : Nat) : Int) ≤ (((List.length x.1.2.2.2.2.1) : Nat) : Int)) (gd (((((List.length x.1.2.2.2.2.1) : Nat) : Int) * (1 : Int)) ≤ (140737488355328 : Int)) (Option.bind (clo x.1) fun (y3 : eT) =>
 gd ((0 : Int) ≤ (Go.IntKind.wrap .i64 ((((List.length y3.2.2.2.2.2.2.2.2) : Nat) : Int) - (1 : Int)))) (gd ((Go.IntKind.wrap .i64 ((((List.length y3.2.2.2.2.2.2.2.2) : Nat) : Int) - (1 : Int))) < (((List.length y3.2.2.2.2.2.2.2.2) : Nat) : Int)) (gd ((Int.toNat (Go.IntKind.wrap .i64 ((((List.length y3.2.2.2.2.2.2.2.2) : Nat) : Int) - (1 : Int)))) < (List.length y3.2.2.2.2.2.2.2.2)) (gd ((((List.length (ith (A := Int) (ki := (.int .i64)) y3.2.2.2.2.2.2.2.2 (Int.toNat (Go.IntKind.wrap .i64 ((((List.length y3.2.2.2.2.2.2.2.2) : Nat) : Int) - (1 : Int)))))) + (List.length ((-1 : Int) :: ([] : List Int)))) * 8) ≤ 140737488355328) (gd (((List.length (ith (A := Int) (ki := (.int .i64)) y3.2.2.2.2.2.2.2.2 (Int.toNat (Go.IntKind.wrap .i64 ((((List.length y3.2.2.2.2.2.2.2.2) : Nat) : Int) - (1 : Int)))))) + (List.length ((-1 : Int) :: ([] : List Int)))) ≤ 140737488355328) (gd ((0 : Int) ≤ (Go.IntKind.wrap .i64 ((((List.length y3.2.2.2.2.2.2.2.2) : Nat) : Int) - (1 : Int)))) (gd ((Go.IntKind.wrap .i64 ((((List.length y3.2.2.2.2.2.2.2.2) : Nat) : Int) - (1 : Int))) < (((List.length y3.2.2.2.2.2.2.2.2) : Nat) : Int)) (gd ((Int.toNat (Go.IntKind.wrap .i64 ((((List.length y3.2.2.2.2.2.2.2.2) : Nat) : Int) - (1 : Int)))) = (Int.toNat (Go.IntKind.wrap .i64 ((((List.length y3.2.2.2.2.2.2.2.2) : Nat) : Int) - (1 : Int))))) (gd ((Int.toNat (Go.IntKind.wrap .i64 ((((List.length y3.2.2.2.2.2.2.2.2) : Nat) : Int) - (1 : Int)))) = (Int.toNat (Go.IntKind.wrap .i64 ((((List.length y3.2.2.2.2.2.2.2.2) : Nat) : Int) - (1 : Int))))) (some ((y3.1, (y3.2.1, (y3.2.2.1, (y3.2.2.2.1, (y3.2.2.2.2.1, ((y3.2.2.2.2.2.1, (y3.2.2.2.2.2.2.1, y3.2.2.2.2.2.2.2.1)), (setIn (A := Int) (ki := (.int .i64)) y3.2.2.2.2.2.2.2.2 (Int.toNat (Go.IntKind.wrap .i64 ((((List.length y3.2.2.2.2.2.2.2.2) : Nat) : Int) - (1 : Int)))) ((ith (A := Int) (ki := (.int .i64)) y3.2.2.2.2.2.2.2.2 (Int.toNat (Go.IntKind.wrap .i64 ((((List.length y3.2.2.2.2.2.2.2.2) : Nat) : Int) - (1 : Int))))) ++ ((-1 : Int) :: ([] : List Int)))))))))), ((0 : Int), ()))))))))))))))))))))

noncomputable def i20_48 : ID := aInl Try.prog ({ envOf [] [(78, OS.hd ⟨[(false, (.sl (.int .i64)))], 3, (.int .i64), false, m78⟩)] [] [] with deep := [79] }) ⟨[(9000, ⟨[.slot 31 (.d false (.int .i64) true), .cell 5 0 (.d false (.int .i64) true), .cell 5 1 (.d false (.int .i64) true), .cell 5 2 (.d false (.int .i64) true), .cell 5 3 (.v 3 (.int .i64) true), .cell 5 4 (.v 4 .bool true), .cell 5 5 (.d false (.int .i64) true), .cell 5 6 (.d false (.int .i64) true), .cell 5 7 (.d false (.int .i64) true), .cell 5 8 (.h 79 3 (.int .i64) (.int .i64))], [6, 7], [(some 0, [.cell 5 0 (.d false (.int .i64) true), .cell 5 1 (.d false (.int .i64) true), .cell 5 2 (.d false (.int .i64) true), .cell 5 3 (.v 3 (.int .i64) true), .cell 5 4 (.v 4 .bool true), .cell 5 5 (.d false (.int .i64) true), .cell 5 6 (.d false (.int .i64) true), .cell 5 7 (.d false (.int .i64) true), .cell 5 8 (.h 79 3 (.int .i64) (.int .i64))])], none⟩)], []⟩ Try.f48
noncomputable def r20 : PDen [(true, kT), (true, (.pair (.int .i64) (.int .i64)))] → Option (PDen [(true, kT), (false, (.int .i64))]) := fun x => afun Try.prog ({ envOf [(25, ⟨[(true, kT)], [(false, (.int .i64))], false, m25⟩), (49, ⟨[(true, kT)], [(false, .bool)], false, m49⟩)] [] [] [(48, i20_48)] with deep := [79] }) ⟨[], []⟩ Try.f20 [(true, kT), (true, (.pair (.int .i64) (.int .i64)))] [(true, kT), (false, (.int .i64))] false x
theorem r20_eq : r20 = m20 := by kernel_rfl

theorem i20_48_sound : i20_48.Sound Try.prog 48 := aInl_sound' (Env.Sound.deepen (envOf_sound (CSs.nil) (HDs.cons (OS.Sound.hd c78) (HDs.nil)) (IDs.nil)) [79]) Try.follows (f := 48) (fn := Try.f48) Try.func48 (by kernel_rfl) (by kernel_rfl)
theorem c20 : CS.Sound Try.prog 20 ⟨[(true, kT), (true, (.pair (.int .i64) (.int .i64)))], [(true, kT), (false, (.int .i64))], false, m20⟩ := afun_sound' (Env.Sound.deepen (envOf_sound (CSs.cons c25 (CSs.cons c49 (CSs.nil))) (HDs.nil) (IDs.cons i20_48_sound (IDs.nil))) [79]) rfl Try.follows (f := 20) (fn := Try.f20) Try.func20 (by kernel_rfl) (by kernel_rfl) r20_eq
end Go.Proofs.Ytecadglgkhfaaaa
end

section
open Go Go.Proofs.AM
namespace Go.Proofs.Ytecadglgkhfaaaa

noncomputable def m21 (x : tT × (Int × Int) × Unit) : Option (tT × (Int × Unit)) :=
 Option.bind (m43 (x.1, ())) fun (y1 : (Int × Unit)) =>
 bif (!(decide (y1.1 = (0 : Int)))) then
 (some (((0 : Int), ((0 : Int), ((0 : Int), (([] : List Int), (([] : List Bool), (((0 : Int), ((0 : Int), (0 : Int))), ([] : List (Int × (List Int))))))))), (y1.1, ())))
 else
 (bif (!(decide (x.2.1.1 = (2 : Int)))) then
 (some (((0 : Int), ((0 : Int), ((0 : Int), (([] : List Int), (([] : List Bool), (((0 : Int), ((0 : Int), (0 : Int))), ([] : List (Int × (List Int))))))))), ((51 : Int), ())))
 else
 (Option.bind (m46 (x.1, ())) fun (y2 : (Bool × Unit)) =>
 bif (!y2.1) then
 (some (((0 : Int), ((0 : Int), ((0 : Int), (([] : List Int), (([] : List Bool), (((0 : Int), ((0 : Int), (0 : Int))), ([] : List (Int × (List Int))))))))), ((51 : Int), ())))
 else
 (gd ((((List.length ([] : List Int)) + (List.length x.1.2.2.2.1)) * 8) ≤ 140737488355328) (gd (((List.length ([] : List Int)) + (List.length x.1.2.2.2.1)) ≤ 140737488355328) (gd ((((List.length ([] : List Bool)) + (List.length x.1.2.2.2.2.1)) * 1) ≤ 140737488355328) (gd (((List.length ([] : List Bool)) + (List.length x.1.2.2.2.2.1)) ≤ 140737488355328) (Option.bind (clr x.1) fun (y3 : eT) =>
 gd ((0 : Int) ≤ (Go.IntKind.wrap .i64 ((((List.length y3.2.2.2.2.2.2.2.2) : Nat) : Int) - (1 : Int)))) (gd ((Go.IntKind.wrap .i64 ((((List.length y3.2.2.2.2.2.2.2.2) : Nat) : Int) - (1 : Int))) < (((List.length y3.2.2.2.2.2.2.2.2) : Nat) : Int)) (gd ((Int.toNat (Go.IntKind.wrap .i64 ((((List.length y3.2.2.2.2.2.2.2.2) : Nat) : Int) - (1 : Int)))) < (List.length y3.2.2.2.2.2.2.2.2)) (gd ((((List.length (ith (A := Int) (ki := (.int .i64)) y3.2.2.2.2.2.2.2.2 (Int.toNat (Go.IntKind.wrap .i64 ((((List.length y3.2.2.2.2.2.2.2.2) : Nat) : Int) - (1 : Int)))))) + (List.length ((-1 : Int) :: ([] : List Int)))) * 8) ≤ 140737488355328) (gd (((List.length (ith (A := Int) (ki := (.int .i64)) y3.2.2.2.2.2.2.2.2 (Int.toNat (Go.IntKind.wrap .i64 ((((List.length y3.2.2.2.2.2.2.2.2) : Nat) : Int) - (1 : Int)))))) + (List.length ((-1 : Int) :: ([] : List Int)))) ≤ 140737488355328) (gd ((0 : Int) ≤ (Go.IntKind.wrap .i64 ((((List.length y3.2.2.2.2.2.2.2.2) : Nat) : Int) - (1 : Int)))) (gd ((Go.IntKind.wrap .i64 ((((List.length y3.2.2.2.2.2.2.2.2) : Nat) : Int) - (1 : Int))) < (((List.length y3.2.2.2.2.2.2.2.2) : Nat) : Int)) (gd ((Int.toNat (Go.IntKind.wrap .i64 ((((List.length y3.2.2.2.2.2.2.2.2) : Nat) : Int) - (1 : Int)))) = (Int.toNat (Go.IntKind.wrap .i64 ((((List.length y3.2.2.2.2.2.2.2.2) : Nat) : Int) - (1 : Int))))) (gd ((Int.toNat (Go.IntKind.wrap .i64 ((((List.length y3.2.2.2.2.2.2.2.2) : Nat) : Int) - (1 : Int)))) = (Int.toNat (Go.IntKind.wrap .i64 ((((List.length y3.2.2.2.2.2.2.2.2) : Nat) : Int) - (1 : Int))))) (some ((y3.1, (y3.2.1, (y3.2.2.1, (y3.2.2.2.1, (y3.2.2.2.2.1, ((y3.2.2.2.2.2.1, (y3.2.2.2.2.2.2.1, y3.2.2.2.2.2.2.2.1)), (setIn (A := Int) (ki := (.int .i64)) y3.2.2.2.2.2.2.2.2 (Int.toNat (Go.IntKind.wrap .i64 ((((List.length y3.2.2.2.2.2.2.2.2) : Nat) : Int) - (1 : Int)))) ((ith (A := Int) (ki := (.int .i64)) y3.2.2.2.2.2.2.2.2 (Int.toNat (Go.IntKind.wrap .i64 ((((List.length y3.2.2.2.2.2.2.2.2) : Nat) : Int) - (1 : Int))))) ++ ((-1 : Int) :: ([] : List Int)))))))))), ((0 : Int), ()))))))))))))))))))

noncomputable def i21_12 : ID := aInl Try.prog ({ envOf [] [] [] [] with deep := [79] }) ⟨[(9000, ⟨[.slot 4 (.d false (.int .i64) true), .cell 5 0 (.d false (.int .i64) true), .cell 5 1 (.d false (.int .i64) true), .cell 5 2 (.d false (.int .i64) true), .cell 5 3 (.v 3 (.int .i64) true), .cell 5 4 (.v 4 .bool true), .cell 5 5 (.d false (.int .i64) true), .cell 5 6 (.d false (.int .i64) true), .cell 5 7 (.d false (.int .i64) true), .cell 5 8 (.h 79 3 (.int .i64) (.int .i64))], [6, 7], [(some 0, [.cell 5 0 (.d false (.int .i64) true), .cell 5 1 (.d false (.int .i64) true), .cell 5 2 (.d false (.int .i64) true), .cell 5 3 (.v 3 (.int .i64) true), .cell 5 4 (.v 4 .bool true), .cell 5 5 (.d false (.int .i64) true), .cell 5 6 (.d false (.int .i64) true), .cell 5 7 (.d false (.int .i64) true), .cell 5 8 (.h 79 3 (.int .i64) (.int .i64))])], none⟩)], []⟩ Try.f12
noncomputable def r21 : PDen [(true, kT), (true, (.pair (.int .i64) (.int .i64)))] → Option (PDen [(true, kT), (false, (.int .i64))]) := fun x => afun Try.prog ({ envOf [(43, ⟨[(true, kT)], [(false, (.int .i64))], false, m43⟩), (46, ⟨[(true, kT)], [(false, .bool)], false, m46⟩)] [] [] [(12, i21_12)] with deep := [79] }) ⟨[], []⟩ Try.f21 [(true, kT), (true, (.pair (.int .i64) (.int .i64)))] [(true, kT), (false, (.int .i64))] false x
theorem r21_eq : r21 = m21 := by kernel_rfl

theorem i21_12_sound : i21_12.Sound Try.prog 12 := aInl_sound' (Env.Sound.deepen (envOf_sound (CSs.nil) (HDs.nil) (IDs.nil)) [79]) Try.follows (f := 12) (fn := Try.f12) Try.func12 (by kernel_rfl) (by kernel_rfl)
theorem c21 : CS.Sound Try.prog 21 ⟨[(true, kT), (true, (.pair (.int .i64) (.int .i64)))], [(true, kT), (false, (.int .i64))], false, m21⟩ := afun_sound' (Env.Sound.deepen (envOf_sound (CSs.cons c43 (CSs.cons c46 (CSs.nil))) (HDs.nil) (IDs.cons i21_12_sound (IDs.nil))) [79]) rfl Try.follows (f := 21) (fn := Try.f21) Try.func21 (by kernel_rfl) (by kernel_rfl) r21_eq
end Go.Proofs.Ytecadglgkhfaaaa
end

section
open Go Go.Proofs.AM
namespace Go.Proofs.Ytecadglgkhfaaaa

noncomputable def m3 (x : tT × (Int × Int) × Int × Unit) : Option (Bool × Unit) :=
 Option.bind (m10 ()) fun (y1 : (Bool × Unit)) =>
 bif (!y1.1) then
 (some (false, ()))
 else
 (Option.bind (m11 (x.1, ())) fun (y2 : (Bool × Unit)) =>
 bif (!y2.1) then
 (some (true, ()))
 else
 (gd ((((List.length ([] : List Int)) + (List.length x.1.2.2.2.1)) * 8) ≤ 140737488355328) (gd (((List.length ([] : List Int)) + (List.length x.1.2.2.2.1)) ≤ 140737488355328) (gd ((((List.length ([] : List Bool)) + (List.length x.1.2.2.2.2.1)) * 1) ≤ 140737488355328) (gd (((List.length ([] : List Bool)) + (List.length x.1.2.2.2.2.1)) ≤ 140737488355328) (Option.bind (clr x.1) fun (y3 : eT) =>
 Option.bind (m13 (x.1, (x.2.2.1, ()))) fun (y4 : ((Int × Int) × (Int × Unit))) =>
 Option.bind (m14 (x.1, (x.2.2.1, ()))) fun (y5 : ((Int × Int) × (Int × Unit))) =>
 bif (!((decide (y4.1.1 = y5.1.1)) && (decide (y4.1.2 = y5.1.2)))) then
 (some (false, ()))
 else
 (bif (!(decide (y4.2.1 = y5.2.1))) then
 (some (false, ()))
 else
 (Option.bind (m15 (x.1, (x.2.1, (x.2.2.1, ())))) fun (y6 : (tT × (Int × Unit))) =>
 Option.bind (m16 (x.1, (x.2.1, (x.2.2.1, ())))) fun (y7 : (tT × (Int × Unit))) =>
 Option.bind (m17 (y6.1, (y7.1, ()))) fun (y8 : (Bool × Unit)) =>
 bif (!y8.1) then
 (some (false, ()))
 else
 (bif (!(decide (y6.2.1 = y7.2.1))) then
 (some (false, ()))
 else
 (Option.bind (m18 (x.1, (x.2.1, (x.2.2.1, ())))) fun (y9 : (tT × ((Int × Int) × (Int × Unit)))) =>
 Option.bind (m19 (x.1, (x.2.1, (x.2.2.1, ())))) fun (y10 : (tT × ((Int × Int) × (Int × Unit)))) =>
 Option.bind (m17 (y9.1, (y10.1, ()))) fun (y11 : (Bool × Unit)) =>
 bif (!y11.1) then
 (some (false, ()))
 else
 (bif (!((decide (y9.2.1.1 = y10.2.1.1)) && (decide (y9.2.1.2 = y10.2.1.2)))) then
 (some (false, ()))
 else
 (bif (!(decide (y9.2.2.1 = y10.2.2.1))) then
 (some (false, ()))
 else
 (Option.bind (m20 (x.1, (x.2.1, ()))) fun (y12 : (tT × (Int × Unit))) =>
 Option.bind (m21 (x.1, (x.2.1, ()))) fun (y13 : (tT × (Int × Unit))) =>
 Option.bind (m17 (y12.1, (y13.1, ()))) fun (y14 : (Bool × Unit)) =>
 bif y14.1 then
 (bif (decide (y12.2.1 = y13.2.1)) then
 (Option.bind (m17 (x.1, ((y3.1, (y3.2.1, (y3.2.2.1, (y3.2.2.2.1, (y3.2.2.2.2.1, ((y3.2.2.2.2.2.1, (y3.2.2.2.2.2.2.1, y3.2.2.2.2.2.2.2.1)), y3.2.2.2.2.2.2.2.2)))))), ()))) fun (y15 : (Bool × Unit)) =>
 some (y15.1, ()))
 else
 (some (false, ())))
 else
 (some (false, ())))))))))))))))

noncomputable def i3_12 : ID := aInl Try.prog ({ envOf [] [] [] [] with deep := [79] }) ⟨[(8000, ⟨[.slot 4 (.d false (.int .i64) true), .cell 4 0 (.d false (.int .i64) true), .cell 4 1 (.d false (.int .i64) true), .cell 4 2 (.d false (.int .i64) true), .cell 4 3 (.v 3 (.int .i64) true), .cell 4 4 (.v 4 .bool true), .cell 4 5 (.d false (.int .i64) true), .cell 4 6 (.d false (.int .i64) true), .cell 4 7 (.d false (.int .i64) true), .cell 4 8 (.h 79 3 (.int .i64) (.int .i64))], [5, 6], [(some 0, [.cell 4 0 (.d false (.int .i64) true), .cell 4 1 (.d false (.int .i64) true), .cell 4 2 (.d false (.int .i64) true), .cell 4 3 (.v 3 (.int .i64) true), .cell 4 4 (.v 4 .bool true), .cell 4 5 (.d false (.int .i64) true), .cell 4 6 (.d false (.int .i64) true), .cell 4 7 (.d false (.int .i64) true), .cell 4 8 (.h 79 3 (.int .i64) (.int .i64))])], none⟩)], []⟩ Try.f12
noncomputable def r3 : PDen [(true, kT), (true, (.pair (.int .i64) (.int .i64))), (false, (.int .i64))] → Option (PDen [(false, .bool)]) := fun x => afun Try.prog ({ envOf [(10, ⟨[], [(false, .bool)], false, m10⟩), (11, ⟨[(true, kT)], [(false, .bool)], false, m11⟩), (13, ⟨[(true, kT), (false, (.int .i64))], [(true, (.pair (.int .i64) (.int .i64))), (false, (.int .i64))], false, m13⟩), (14, ⟨[(true, kT), (false, (.int .i64))], [(true, (.pair (.int .i64) (.int .i64))), (false, (.int .i64))], false, m14⟩), (15, ⟨[(true, kT), (true, (.pair (.int .i64) (.int .i64))), (false, (.int .i64))], [(true, kT), (false, (.int .i64))], false, m15⟩), (16, ⟨[(true, kT), (true, (.pair (.int .i64) (.int .i64))), (false, (.int .i64))], [(true, kT), (false, (.int .i64))], false, m16⟩), (17, ⟨[(true, kT), (true, kT)], [(false, .bool)], false, m17⟩), (18, ⟨[(true, kT), (true, (.pair (.int .i64) (.int .i64))), (false, (.int .i64))], [(true, kT), (true, (.pair (.int .i64) (.int .i64))), (false, (.int .i64))], false, m18⟩), (19, ⟨[(true, kT), (true, (.pair (.int .i64) (.int .i64))), (false, (.int .i64))], [(true, kT), (true, (.pair (.int .i64) (.int .i64))), (false, (.int .i64))], false, m19⟩), (20, ⟨[(true, kT), (true, (.pair (.int .i64) (.int .i64)))], [(true, kT), (false, (.int .i64))], false, m20⟩), (21, ⟨[(true, kT), (true, (.pair (.int .i64) (.int .i64)))], [(true, kT), (false, (.int .i64))], false, m21⟩)] [] [] [(12, i3_12)] with deep := [79] }) ⟨[], []⟩ Try.f3 [(true, kT), (true, (.pair (.int .i64) (.int .i64))), (false, (.int .i64))] [(false, .bool)] false x
theorem r3_eq : r3 = m3 := by kernel_rfl

theorem i3_12_sound : i3_12.Sound Try.prog 12 := aInl_sound' (Env.Sound.deepen (envOf_sound (CSs.nil) (HDs.nil) (IDs.nil)) [79]) Try.follows (f := 12) (fn := Try.f12) Try.func12 (by kernel_rfl) (by kernel_rfl)
theorem c3 : CS.Sound Try.prog 3 ⟨[(true, kT), (true, (.pair (.int .i64) (.int .i64))), (false, (.int .i64))], [(false, .bool)], false, m3⟩ := afun_sound' (Env.Sound.deepen (envOf_sound (CSs.cons c10 (CSs.cons c11 (CSs.cons c13 (CSs.cons c14 (CSs.cons c15 (CSs.cons c16 (CSs.cons c17 (CSs.cons c18 (CSs.cons c19 (CSs.cons c20 (CSs.cons c21 (CSs.nil)))))))))))) (HDs.nil) (IDs.cons i3_12_sound (IDs.nil))) [79]) rfl Try.follows (f := 3) (fn := Try.f3) Try.func3 (by kernel_rfl) (by kernel_rfl) r3_eq
end Go.Proofs.Ytecadglgkhfaaaa
end

section
open Go Go.Proofs.AM
namespace Go.Proofs.Ytecadglgkhfaaaa

noncomputable def m23 (x : tT × tT × Int × Int × Unit) : Option (Bool × Unit) :=
 Option.bind (loopM (X := Int) (E := (Unit ⊕ Bool)) (fun (x1 : Int) =>
 bif (decide (x1 < (((List.length x.1.2.2.2.2.1) : Nat) : Int))) then
 (bif (decide (x1 ≥ x.2.2.1)) then
 (bif (decide (x1 < x.2.2.2.1)) then
 (some (Sum.inl (Go.IntKind.wrap .i64 (x1 + (1 : Int)))))
 else
 (Option.bind (m22 (x.1, (x1, ()))) fun (y2 : ((Int × Int) × (Bool × Unit))) =>
 Option.bind (m22 (x.2.1, (x1, ()))) fun (y3 : ((Int × Int) × (Bool × Unit))) =>
 bif (!((decide (y2.1.1 = y3.1.1)) && (decide (y2.1.2 = y3.1.2)))) then
 (some (Sum.inr (Sum.inr false)))
 else
 (bif (!(bif y2.2.1 then y3.2.1 else (!y3.2.1))) then
 (some (Sum.inr (Sum.inr false)))
 else
 (some (Sum.inl (Go.IntKind.wrap .i64 (x1 + (1 : Int))))))))
 else
 (Option.bind (m22 (x.1, (x1, ()))) fun (y2 : ((Int × Int) × (Bool × Unit))) =>
 Option.bind (m22 (x.2.1, (x1, ()))) fun (y3 : ((Int × Int) × (Bool × Unit))) =>
 bif (!((decide (y2.1.1 = y3.1.1)) && (decide (y2.1.2 = y3.1.2)))) then
 (some (Sum.inr (Sum.inr false)))
 else
 (bif (!(bif y2.2.1 then y3.2.1 else (!y3.2.1))) then
 (some (Sum.inr (Sum.inr false)))
 else
 (some (Sum.inl (Go.IntKind.wrap .i64 (x1 + (1 : Int))))))))
 else
 (some (Sum.inr (Sum.inl ())))) (0 : Int)) fun (y1 : (Unit ⊕ Bool)) =>
 Sum.elim (fun y2 =>
 some (true, ())) (fun y2 =>
 some (y2, ())) y1

noncomputable def r23 : PDen [(true, kT), (true, kT), (false, (.int .i64)), (false, (.int .i64))] → Option (PDen [(false, .bool)]) := fun x => afun Try.prog ({ envOf [(22, ⟨[(true, kT), (false, (.int .i64))], [(true, (.pair (.int .i64) (.int .i64))), (false, .bool)], false, m22⟩)] [] [] [] with deep := [79] }) ⟨[(0, ⟨[.slot 17 (.d false (.int .i64) true)], [], [(some 0, []), (none, [.slot 8 (.d false .bool true)])], none⟩)], []⟩ Try.f23 [(true, kT), (true, kT), (false, (.int .i64)), (false, (.int .i64))] [(false, .bool)] false x
theorem r23_eq : r23 = m23 := by kernel_rfl

theorem c23 : CS.Sound Try.prog 23 ⟨[(true, kT), (true, kT), (false, (.int .i64)), (false, (.int .i64))], [(false, .bool)], false, m23⟩ := afun_sound' (Env.Sound.deepen (envOf_sound (CSs.cons c22 (CSs.nil)) (HDs.nil) (IDs.nil)) [79]) rfl Try.follows (f := 23) (fn := Try.f23) Try.func23 (by kernel_rfl) (by kernel_rfl) r23_eq
end Go.Proofs.Ytecadglgkhfaaaa
end

section
open Go Go.Proofs.AM
namespace Go.Proofs.Ytecadglgkhfaaaa

noncomputable def m4 (x : (tT × ((Int × Int) × (Int × Int))) × Unit) : Option (Bool × Unit) :=
 Option.bind (m10 ()) fun (y1 : (Bool × Unit)) =>
 bif (!y1.1) then
 (some (false, ()))
 else
 (Option.bind (m11 (x.1.1, ())) fun (y2 : (Bool × Unit)) =>
 bif (!y2.1) then
 (some (true, ()))
 else
 (Option.bind (m18 (x.1.1, (x.1.2.1, (x.1.2.2.1, ())))) fun (y3 : (tT × ((Int × Int) × (Int × Unit)))) =>
 bif (decide (y3.2.2.1 = (0 : Int))) then
 (Option.bind (m22 (y3.1, (x.1.2.2.1, ()))) fun (y4 : ((Int × Int) × (Bool × Unit))) =>
 bif (!y4.2.1) then
 (some (false, ()))
 else
 (bif (!((decide (y4.1.1 = y3.2.1.1)) && (decide (y4.1.2 = y3.2.1.2)))) then
 (some (false, ()))
 else
 (Option.bind (m23 (x.1.1, (y3.1, (x.1.2.2.1, ((Go.IntKind.wrap .i64 (x.1.2.2.1 + (1 : Int))), ()))))) fun (y5 : (Bool × Unit)) =>
 bif (!y5.1) then
 (some (false, ()))
 else
 (Option.bind (m15 (x.1.1, (x.1.2.1, (x.1.2.2.2, ())))) fun (y6 : (tT × (Int × Unit))) =>
 bif (decide (y6.2.1 = (0 : Int))) then
 (Option.bind (m23 (x.1.1, (y6.1, ((0 : Int), ((0 : Int), ()))))) fun (y7 : (Bool × Unit)) =>
 bif (!y7.1) then
 (some (false, ()))
 else
 (Option.bind (m20 (x.1.1, (x.1.2.1, ()))) fun (y8 : (tT × (Int × Unit))) =>
 bif (decide (y8.2.1 = (0 : Int))) then
 (Option.bind (m23 (x.1.1, (y8.1, ((0 : Int), ((0 : Int), ()))))) fun (y9 : (Bool × Unit)) =>
 bif (!y9.1) then
 (some (false, ()))
 else
 (Option.bind (m24 (x.1.1, ())) fun (y10 : (tT × (Int × (Int × Unit)))) =>
 bif (!(decide (y10.2.2.1 = (0 : Int)))) then
 (some (true, ()))
 else
 (Option.bind (m23 (x.1.1, (y10.1, ((0 : Int), ((0 : Int), ()))))) fun (y11 : (Bool × Unit)) =>
 some (y11.1, ()))))
 else
 (Option.bind (m24 (x.1.1, ())) fun (y9 : (tT × (Int × (Int × Unit)))) =>
 bif (!(decide (y9.2.2.1 = (0 : Int)))) then
 (some (true, ()))
 else
 (Option.bind (m23 (x.1.1, (y9.1, ((0 : Int), ((0 : Int), ()))))) fun (y10 : (Bool × Unit)) =>
 some (y10.1, ())))))
 else
 (Option.bind (m20 (x.1.1, (x.1.2.1, ()))) fun (y7 : (tT × (Int × Unit))) =>
 bif (decide (y7.2.1 = (0 : Int))) then
 (Option.bind (m23 (x.1.1, (y7.1, ((0 : Int), ((0 : Int), ()))))) fun (y8 : (Bool × Unit)) =>
 bif (!y8.1) then
 (some (false, ()))
 else
 (Option.bind (m24 (x.1.1, ())) fun (y9 : (tT × (Int × (Int × Unit)))) =>
 bif (!(decide (y9.2.2.1 = (0 : Int)))) then
 (some (true, ()))
 else
 (Option.bind (m23 (x.1.1, (y9.1, ((0 : Int), ((0 : Int), ()))))) fun (y10 : (Bool × Unit)) =>
 some (y10.1, ()))))
 else
 (Option.bind (m24 (x.1.1, ())) fun (y8 : (tT × (Int × (Int × Unit)))) =>
 bif (!(decide (y8.2.2.1 = (0 : Int)))) then
 (some (true, ()))
 else
 (Option.bind (m23 (x.1.1, (y8.1, ((0 : Int), ((0 : Int), ()))))) fun (y9 : (Bool × Unit)) =>
 some (y9.1, ()))))))))
 else
 (Option.bind (m15 (x.1.1, (x.1.2.1, (x.1.2.2.2, ())))) fun (y4 : (tT × (Int × Unit))) =>
 bif (decide (y4.2.1 = (0 : Int))) then
 (Option.bind (m23 (x.1.1, (y4.1, ((0 : Int), ((0 : Int), ()))))) fun (y5 : (Bool × Unit)) =>
 bif (!y5.1) then
 (some (false, ()))
 else
 (Option.bind (m20 (x.1.1, (x.1.2.1, ()))) fun (y6 : (tT × (Int × Unit))) =>
 bif (decide (y6.2.1 = (0 : Int))) then
 (Option.bind (m23 (x.1.1, (y6.1, ((0 : Int), ((0 : Int), ()))))) fun (y7 : (Bool × Unit)) =>
 bif (!y7.1) then
 (some (false, ()))
 else
 (Option.bind (m24 (x.1.1, ())) fun (y8 : (tT × (Int × (Int × Unit)))) =>
 bif (!(decide (y8.2.2.1 = (0 : Int)))) then
 (some (true, ()))
 else
 (Option.bind (m23 (x.1.1, (y8.1, ((0 : Int), ((0 : Int), ()))))) fun (y9 : (Bool × Unit)) =>
 some (y9.1, ()))))
 else
 (Option.bind (m24 (x.1.1, ())) fun (y7 : (tT × (Int × (Int × Unit)))) =>
 bif (!(decide (y7.2.2.1 = (0 : Int)))) then
 (some (true, ()))
 else
 (Option.bind (m23 (x.1.1, (y7.1, ((0 : Int), ((0 : Int), ()))))) fun (y8 : (Bool × Unit)) =>
 some (y8.1, ())))))
 else
 (Option.bind (m20 (x.1.1, (x.1.2.1, ()))) fun (y5 : (tT × (Int × Unit))) =>
 bif (decide (y5.2.1 = (0 : Int))) then
 (Option.bind (m23 (x.1.1, (y5.1, ((0 : Int), ((0 : Int), ()))))) fun (y6 : (Bool × Unit)) =>
 bif (!y6.1) then
 (some (false, ()))
 else
 (Option.bind (m24 (x.1.1, ())) fun (y7 : (tT × (Int × (Int × Unit)))) =>
 bif (!(decide (y7.2.2.1 = (0 : Int)))) then
 (some (true, ()))
 else
 (Option.bind (m23 (x.1.1, (y7.1, ((0 : Int), ((0 : Int), ()))))) fun (y8 : (Bool × Unit)) =>
 some (y8.1, ()))))
 else
 (Option.bind (m24 (x.1.1, ())) fun (y6 : (tT × (Int × (Int × Unit)))) =>
 bif (!(decide (y6.2.2.1 = (0 : Int)))) then
 (some (true, ()))
 else
 (Option.bind (m23 (x.1.1, (y6.1, ((0 : Int), ((0 : Int), ()))))) fun (y7 : (Bool × Unit)) =>
 some (y7.1, ())))))))

noncomputable def r4 : PDen [(true, (.pair kT (.pair (.pair (.int .i64) (.int .i64)) (.pair (.int .i64) (.int .i64)))))] → Option (PDen [(false, .bool)]) := fun x => afun Try.prog ({ envOf [(10, ⟨[], [(false, .bool)], false, m10⟩), (11, ⟨[(true, kT)], [(false, .bool)], false, m11⟩), (15, ⟨[(true, kT), (true, (.pair (.int .i64) (.int .i64))), (false, (.int .i64))], [(true, kT), (false, (.int .i64))], false, m15⟩), (18, ⟨[(true, kT), (true, (.pair (.int .i64) (.int .i64))), (false, (.int .i64))], [(true, kT), (true, (.pair (.int .i64) (.int .i64))), (false, (.int .i64))], false, m18⟩), (20, ⟨[(true, kT), (true, (.pair (.int .i64) (.int .i64)))], [(true, kT), (false, (.int .i64))], false, m20⟩), (22, ⟨[(true, kT), (false, (.int .i64))], [(true, (.pair (.int .i64) (.int .i64))), (false, .bool)], false, m22⟩), (23, ⟨[(true, kT), (true, kT), (false, (.int .i64)), (false, (.int .i64))], [(false, .bool)], false, m23⟩), (24, ⟨[(true, kT)], [(true, kT), (false, (.int .i64)), (false, (.int .i64))], false, m24⟩)] [] [] [] with deep := [79] }) ⟨[], []⟩ Try.f4 [(true, (.pair kT (.pair (.pair (.int .i64) (.int .i64)) (.pair (.int .i64) (.int .i64)))))] [(false, .bool)] false x
theorem r4_eq : r4 = m4 := by kernel_rfl

theorem c4 : CS.Sound Try.prog 4 ⟨[(true, (.pair kT (.pair (.pair (.int .i64) (.int .i64)) (.pair (.int .i64) (.int .i64)))))], [(false, .bool)], false, m4⟩ := afun_sound' (Env.Sound.deepen (envOf_sound (CSs.cons c10 (CSs.cons c11 (CSs.cons c15 (CSs.cons c18 (CSs.cons c20 (CSs.cons c22 (CSs.cons c23 (CSs.cons c24 (CSs.nil))))))))) (HDs.nil) (IDs.nil)) [79]) rfl Try.follows (f := 4) (fn := Try.f4) Try.func4 (by kernel_rfl) (by kernel_rfl) r4_eq
end Go.Proofs.Ytecadglgkhfaaaa
end

section
namespace Go.Proofs.Ytecadglgkhfaaaa
open Go Go.Proofs.AM

theorem m78_eq (l : List Int) (h : l.length * 8 ≤ 140737488355328) : m78 (l, ()) = some l := by
  unfold m78
  simp only [List.length_nil, List.nil_append, Nat.zero_add]
  rw [gd_pos h, gd_pos (by omega)]
  cases l with
  | nil => simp [both]
  | cons a l =>
    have : ¬ ((((a :: l).length : Nat) : Int) = 0) := by simp; omega
    rw [decide_eq_false this]; simp [both]

theorem clo_eq (P L K : Int) (D : List Int) (H : List Bool) (S : Int × (Int × Int)) (G : List Log) (hG : G.length ≤ 100) (hg : ∀ i, i < G.length → (G.getD i (0, [])).2.length * 8 ≤ 140737488355328) :
    clo (P, (L, (K, (D, (H, (S, G)))))) = some (P, (L, (K, (D, (H, (S.1, (S.2.1, (S.2.2, G)))))))) := by
  unfold clo
  have eD : List.take (List.length (List.replicate (Int.toNat ((D.length : Nat) : Int)) (0 : Int))) D ++ List.drop D.length (List.replicate (Int.toNat ((D.length : Nat) : Int)) (0 : Int)) = D := by simp
  have eH : List.take (List.length (List.replicate (Int.toNat ((H.length : Nat) : Int)) false)) H ++ List.drop H.length (List.replicate (Int.toNat ((H.length : Nat) : Int)) false) = H := by simp
  simp only [eD, eH]
  refine loop_idx' G.length (fun i => ((i : Int), (P, (L, (K, (D, (H, (S.1, (S.2.1, (S.2.2, G.take i)))))))))) (by simp) (fun i hi => ?_) ?_
  · simp only [Int.toNat_natCast]
    rw [Bool.cond_eq_ite, if_pos (by simp; omega), gd_pos (by omega), gd_pos (by omega), m78_eq _ (hg i hi)]
    simp only [Option.bind_some]
    rw [gd_pos (by simp; omega), gd_pos (by simp; omega), wrap64 (by omega) (by omega), take_snoc G i hi (0, [])]
    rfl
  · simp only
    rw [Bool.cond_eq_ite, if_neg (by simp), List.take_of_length_le (by omega)]

theorem clr_eq (P L K : Int) (D : List Int) (H : List Bool) (S : Int × (Int × Int)) (G : List Log) (hG : G.length ≤ 100) (hg : ∀ i, i < G.length → (G.getD i (0, [])).2.length * 8 ≤ 140737488355328) :
    clr (P, (L, (K, (D, (H, (S, G)))))) = some (P, (L, (K, (D, (H, (S.1, (S.2.1, (S.2.2, G)))))))) := by
  unfold clr
  simp only [List.nil_append, List.length_nil, Nat.zero_add]
  refine loop_idx' G.length (fun i => ((i : Int), (P, (L, (K, (D, (H, (S.1, (S.2.1, (S.2.2, G.take i)))))))))) (by simp) (fun i hi => ?_) ?_
  · have := hg i hi
    simp only [Int.toNat_natCast]
    rw [Bool.cond_eq_ite, if_pos (by simp; omega), gd_pos (by omega), gd_pos (by omega), gd_pos (by omega), gd_pos (by omega), gd_pos (by omega), gd_pos (by omega), gd_pos (by simp; omega), gd_pos (by simp; omega), wrap64 (by omega) (by omega), take_snoc G i hi (0, [])]
    rfl
  · simp only
    rw [Bool.cond_eq_ite, if_neg (by simp), List.take_of_length_le (by omega)]

def room (P : Int) (G : List Log) : Bool := decide (0 < G.length ∧ (((G.getD (G.length - 1) (0, [])).2.length : Nat) : Int) < P)

theorem m49_eq (P L K : Int) (D : List Int) (H : List Bool) (S : Int × (Int × Int)) (G : List Log) (hG : G.length ≤ 100) : m49 ((P, (L, (K, (D, (H, (S, G)))))), ()) = some (room P G, ()) := by
  unfold m49 room
  simp only [Bool.cond_eq_ite, decide_eq_true_eq]
  by_cases h : 0 < G.length
  · rw [if_pos (by omega), wrap64 (by omega) (by omega), gd_pos (by omega), gd_pos (by omega)]
    have e : ((G.length : Int) - 1).toNat = G.length - 1 := by omega
    simp [e, h]
  · rw [if_neg (by omega)]; simp [h]

def pos (n : Int) : List Int → Option Nat
  | [] => none
  | x :: l => if x = n then some 0 else (pos n l).map (· + 1)

theorem pos_some {n : Int} : ∀ {l : List Int} {k : Nat}, k < l.length → l.getD k 0 = n → (∀ j, j < k → l.getD j 0 ≠ n) → pos n l = some k
  | x :: l, 0, _, h, _ => by
    have : x = n := h
    rw [pos, if_pos this]
  | x :: l, k + 1, h1, h2, h3 => by
    have h0 : ¬ x = n := h3 0 (by omega)
    rw [pos, if_neg h0, pos_some (k := k) (by simpa using h1) h2 (fun j hj => h3 (j + 1) (by omega))]; rfl

theorem pos_none {n : Int} : ∀ {l : List Int}, pos n l = none ↔ n ∉ l
  | [] => by simp [pos]
  | x :: l => by
    rw [pos]
    by_cases h : x = n
    · simp [h]
    · rw [if_neg h, Option.map_eq_none_iff, pos_none, List.mem_cons, not_or]
      exact ⟨fun g => ⟨fun e => h e.symm, g⟩, fun g => g.2⟩

theorem not_mem_getD {n : Int} {l : List Int} (h : ∀ j, j < l.length → l.getD j 0 ≠ n) : n ∉ l := fun hm => by
  obtain ⟨i, hi, e⟩ := List.getElem_of_mem hm
  have := h i hi
  rw [List.getD_eq_getElem?_getD, List.getElem?_eq_getElem hi] at this
  exact this e

theorem m80_eq (l : List Int) (n : Int) (hl : l.length ≤ 4000000000000000000) : m80 (l, (n, ())) = some ((match pos n l with | some k => (k : Int) | none => -1), ()) := by
  suffices h : Ok (m80 (l, (n, ()))) (fun r => r = ((match pos n l with | some k => (k : Int) | none => -1), ())) by
    obtain ⟨r, e, h⟩ := h; rw [e, h]
  unfold m80
  refine Ok.bind (S := fun e => match e with | .inl _ => pos n l = none | .inr v => ∃ k : Nat, v = k ∧ pos n l = some k) (Ok.loop l.length (fun i x => x = (i : Int) ∧ ∀ j, j < i → l.getD j 0 ≠ n) ⟨rfl, fun j hj => by omega⟩ ?_) fun y hy => ?_
  · rintro i x hi ⟨rfl, hq⟩
    refine Ok.cond (fun hc => ?_) (fun hc => Ok.inr (by simp only at hc; exact pos_none.2 (not_mem_getD fun j hj => hq j (by omega))))
    simp only [Int.toNat_natCast] at hc ⊢
    rw [wrap64 (n := (i : Int) + 1) (by omega) (by omega)]
    refine Ok.gd (by omega) (Ok.gd (by omega) ?_)
    refine Ok.cond (fun h => Ok.inr ⟨i, rfl, pos_some (by omega) h.symm hq⟩) (fun h => Ok.inl ⟨by omega, by omega, fun j hj => ?_⟩)
    by_cases e : j = i
    · subst e; exact fun g => h g.symm
    · exact hq j (by omega)
  · refine Ok.elim (fun v e => ?_) (fun v e => ?_)
    · subst e
      have hy : pos n l = none := hy
      exact Ok.some (by rw [hy])
    · subst e
      obtain ⟨k, e, hk⟩ := hy
      exact Ok.some (by rw [hk, e])

theorem m76_eq (l : List Int) (n : Int) (hl : l.length ≤ 4000000000000000000) : m76 (l, (n, ())) = some (decide (n ∈ l), ()) := by
  unfold m76
  rw [m80_eq l n hl]
  simp only [Option.bind_some]
  cases h : pos n l with
  | none => simp [pos_none.1 h]
  | some k =>
    have : n ∈ l := Classical.not_not.1 fun g => by rw [pos_none.2 g] at h; simp at h
    simp [this]

theorem m79_eq (l : List Int) (n : Int) (hl : l.length ≤ 4000000000000000000) : m79 (l, (n, ())) = some (decide (n ∈ l), ()) := by
  suffices h : Ok (m79 (l, (n, ()))) (fun r => r = (decide (n ∈ l), ())) by
    obtain ⟨r, e, h⟩ := h; rw [e, h]
  unfold m79
  refine Ok.bind (S := fun e => match e with | .inl _ => n ∉ l | .inr v => v = true ∧ n ∈ l) (Ok.loop l.length (fun i x => x = (i : Int) ∧ ∀ j, j < i → l.getD j 0 ≠ n) ⟨rfl, fun j hj => by omega⟩ ?_) fun y hy => ?_
  · rintro i x hi ⟨rfl, hq⟩
    refine Ok.cond (fun hc => ?_) (fun hc => Ok.inr (by simp only at hc; exact not_mem_getD fun j hj => hq j (by omega)))
    simp only [Int.toNat_natCast] at hc ⊢
    rw [wrap64 (n := (i : Int) + 1) (by omega) (by omega)]
    refine Ok.gd (by omega) (Ok.gd (by omega) ?_)
    refine Ok.cond (fun h => Ok.inr ⟨rfl, h ▸ getD_mem (by omega)⟩) (fun h => Ok.inl ⟨by omega, by omega, fun j hj => ?_⟩)
    by_cases e : j = i
    · subst e; exact h
    · exact hq j (by omega)
  · refine Ok.elim (fun v e => ?_) (fun v e => ?_)
    · subst e
      have hy : n ∉ l := hy
      exact Ok.some (by simp [hy])
    · subst e
      obtain ⟨e, hy⟩ := hy
      exact Ok.some (by simp [hy, e])

def loc (n : Int) : List Log → Option (Int × Int)
  | [] => none
  | g :: G => match pos n g.2 with
    | some k => some (g.1, (k : Int))
    | none => loc n G

theorem posi_rep (n : Nat) : posi (List.replicate n (-1)) = [] := by
  unfold posi; rw [List.filter_eq_nil_iff]; intro a ha; rw [(List.mem_replicate.1 ha).2]; simp

theorem newT_good {P L K : Int} (h : shape P L K) : Good P L K (List.replicate L.toNat (-1 : Int)) (List.replicate (L * P).toNat false) (-1, (0, 0)) [] := by
  have hm := shape_mul h
  have h' := h
  obtain ⟨h1, h2, h3, h4, h5, h6⟩ := h'
  refine ⟨⟨h, by simp; omega, by rw [List.length_replicate]; omega, by simp; omega, fun i hi => by simp at hi, .inl rfl⟩, fun i hi => ?_, fun p hp hv => ?_, ?_, by simp [posi]⟩
  · have : (List.replicate L.toNat (-1 : Int)).getD i 0 = -1 := by
      rw [List.getD_eq_getElem?_getD, List.getElem?_replicate, if_pos (by simpa using hi)]; rfl
    rw [this]; omega
  · rw [getD_rep] at hv; simp at hv
  · rw [List.map_nil, List.append_nil, posi_cons, if_neg (by simp), posi_rep]; exact List.nodup_nil

section
variable {P L K : Int} {D : List Int} {H : List Bool} {S : Int × (Int × Int)} {G : List Log}

theorem m25_good (h : Good P L K D H S G) : m25 ((P, (L, (K, (D, (H, (S, G)))))), ()) = some (0, ()) := by
  obtain ⟨⟨r, ⟨⟩⟩, e, h'⟩ := m25_ok P L K D H S G
  rcases h' with ⟨h1, _⟩ | ⟨_, h1⟩
  · rw [e]; simp only at h1; rw [h1]
  · exact absurd h h1

theorem m25_bad (h : ¬ Good P L K D H S G) : m25 ((P, (L, (K, (D, (H, (S, G)))))), ()) = some (50, ()) := by
  obtain ⟨⟨r, ⟨⟩⟩, e, h'⟩ := m25_ok P L K D H S G
  rcases h' with ⟨_, h1⟩ | ⟨h1, _⟩
  · exact absurd h1 h
  · rw [e]; simp only at h1; rw [h1]

theorem m43_good (h : Good P L K D H S G) : m43 ((P, (L, (K, (D, (H, (S, G)))))), ()) = some (0, ()) := by
  obtain ⟨⟨r, ⟨⟩⟩, e, h'⟩ := m43_ok P L K D H S G
  rcases h' with ⟨h1, _⟩ | ⟨_, h1⟩
  · rw [e]; simp only at h1; rw [h1]
  · exact absurd h h1

theorem m43_bad (h : ¬ Good P L K D H S G) : m43 ((P, (L, (K, (D, (H, (S, G)))))), ()) = some (50, ()) := by
  obtain ⟨⟨r, ⟨⟩⟩, e, h'⟩ := m43_ok P L K D H S G
  rcases h' with ⟨_, h1⟩ | ⟨h1, _⟩
  · exact absurd h1 h
  · rw [e]; simp only at h1; rw [h1]

theorem m55_good (h : Good P L K D H S G) : m55 ((P, (L, (K, (D, (H, (S, G)))))), ()) = some ((P, (L, (K, (D, (H, (S, G)))))), ()) := by
  unfold m55; rw [m25_good h]; rfl

theorem m55_bad (h : ¬ Good P L K D H S G) : m55 ((P, (L, (K, (D, (H, (S, G)))))), ()) = some (newT 4 1 1, ()) := by
  unfold m55; rw [m25_bad h]; simp only [Option.bind_some]
  rw [m30_yes ⟨by omega, by omega, by omega, by omega, by omega, by omega⟩]; rfl

theorem Good.sz (h : Good P L K D H S G) : D.length ≤ 256 ∧ H.length ≤ 8192 ∧ G.length ≤ 8 ∧ ∀ i, i < G.length → (G.getD i (0, [])).2.length ≤ 32 := by
  have hm := shape_mul h.li.sh
  obtain ⟨h1, h2, h3, h4, h5, h6⟩ := h.li.sh
  have a := h.li.dl
  have b := h.li.hl
  have c := h.li.gl
  refine ⟨by omega, by omega, by omega, fun i hi => ?_⟩
  have := (h.li.lg i hi).le
  omega

def blocks (D : List Int) (S : Int × (Int × Int)) (G : List Log) : List Int := posi (S.1 :: D ++ G.map (·.1))

theorem m77_ok (h : Good P L K D H S G) : Ok (m77 ((P, (L, (K, (D, (H, (S, G)))))), ())) (fun r => r = sortI (blocks D S G)) := by
  unfold m77
  rw [m55_good h]
  obtain ⟨s1, s2, s3, s4⟩ := h.sz
  simp only [Option.bind_some]
  have e0 : (S.1 :: ([] : List Int)) ++ D = S.1 :: D := rfl
  rw [e0]
  obtain ⟨E, hE⟩ : ∃ E : List Int, E = S.1 :: D := ⟨_, rfl⟩
  have hEl : E.length = D.length + 1 := by rw [hE]; rfl
  rw [← hE]
  refine Ok.gd (by simp; omega) (Ok.gd (by simp; omega) ?_)
  refine Ok.bind (S := fun y => y = posi E) (Ok.loop E.length (fun i x => x.2 = (i : Int) ∧ x.1 = posi (E.take i)) ⟨rfl, rfl⟩ ?_) fun y hy => ?_
  · rintro i ⟨x1, x2⟩ hi ⟨hx, hl⟩
    simp only at hx hl
    subst hx hl
    refine Ok.cond (fun hc => ?_) (fun hc => Ok.inr ?_)
    · simp only [Int.toNat_natCast] at hc ⊢
      have hlen := posi_len (E.take i)
      simp only [List.length_take] at hlen
      rw [wrap64 (n := (i : Int) + 1) (by omega) (by omega), take_snoc E i (by omega) 0, posi_snoc]
      refine Ok.gd (by omega) (Ok.gd (by omega) (Ok.gd (by omega) ?_))
      refine Ok.cond (fun q => ?_) (fun q => Ok.inl ⟨by omega, by simp, by simp only; rw [if_neg (by omega)]⟩)
      refine Ok.gd (by simp; omega) (Ok.gd (by simp; omega) (Ok.inl ⟨by omega, by simp, by simp only; rw [if_pos (by omega)]⟩))
    · simp only at hc
      rw [List.take_of_length_le (by omega)]
  · subst hy
    have hlen := posi_len E
    have hg : ∀ x ∈ G.map (·.1), (0 : Int) ≤ x := fun x hx => by
      obtain ⟨g, hg, rfl⟩ := List.mem_map.1 hx
      obtain ⟨i, hi, e⟩ := List.getElem_of_mem hg
      have := (h.li.lg i hi).p0
      rw [List.getD_eq_getElem?_getD, List.getElem?_eq_getElem hi] at this
      simp only [Option.getD_some] at this
      rw [e] at this; exact this
    have fin : blocks D S G = posi E ++ G.map (·.1) := by rw [blocks, posi_app, posi_all hg, hE]
    have hfl : (blocks D S G).length ≤ 300 := by rw [fin]; simp; omega
    rw [fin] at hfl
    refine Ok.bind (S := fun z => z = posi E ++ G.map (·.1)) (Ok.loop G.length (fun i x => x.2 = (i : Int) ∧ x.1 = posi E ++ (G.take i).map (·.1)) ⟨rfl, by simp⟩ ?_) fun z hz => ?_
    · rintro i ⟨x1, x2⟩ hi ⟨hx, h1⟩
      simp only at hx h1
      subst hx h1
      refine Ok.cond (fun hc => ?_) (fun hc => Ok.inr (by simp only at hc; rw [List.take_of_length_le (by omega)]))
      simp only [Int.toNat_natCast] at hc ⊢
      rw [wrap64 (n := (i : Int) + 1) (by omega) (by omega), take_snoc G i (by omega) (0, [])]
      refine Ok.gd (by omega) (Ok.gd (by omega) (Ok.gd (by simp; omega) (Ok.gd (by simp; omega) (Ok.inl ⟨by omega, by simp, by simp⟩))))
    · subst hz
      rw [gd_pos (by omega)]
      simp only [Option.bind_some]
      exact Ok.some (by rw [fin])

def fresh (D : List Int) (S : Int × (Int × Int)) (G : List Log) (n : Int) : Prop := 0 ≤ n ∧ n ≤ 255 ∧ n ∉ blocks D S G

theorem blocks_len (h : Good P L K D H S G) : (blocks D S G).length ≤ 300 := by
  obtain ⟨s1, s2, s3, s4⟩ := h.sz
  refine Nat.le_trans (posi_len _) ?_
  simp; omega

theorem m47_ok (h : Good P L K D H S G) (n : Int) : Ok (m47 ((P, (L, (K, (D, (H, (S, G)))))), (n, ()))) (fun r => r.1 = true ↔ fresh D S G n) := by
  unfold m47
  rw [m40_eq]
  simp only [Option.bind_some]
  refine Ok.cond (fun h1 => ?_) (fun h1 => Ok.some ⟨fun g => by simp at g, fun g => absurd ⟨g.1, g.2.1⟩ h1⟩)
  refine Ok.bind (m77_ok h) fun y hy => ?_
  have hl := blocks_len h
  have hp : y.Perm (blocks D S G) := by rw [hy]; exact sortI_perm _
  rw [m76_eq _ _ (by have := hp.length_eq; omega)]
  simp only [Option.bind_some]
  refine Ok.some ?_
  simp only [Bool.not_eq_true', decide_eq_false_iff_not, fresh, hp.mem_iff]
  exact ⟨fun g => ⟨h1.1, h1.2, g⟩, fun g => g.2.2⟩

theorem m50_ok (h : Good P L K D H S G) (n : Int) : Ok (m50 ((P, (L, (K, (D, (H, (S, G)))))), (n, ()))) (fun r => r.1 = true ↔ fresh D S G n) := by
  unfold m50
  obtain ⟨s1, s2, s3, s4⟩ := h.sz
  refine Ok.cond (fun h1 => ?_) (fun h1 => Ok.some ⟨fun g => by simp at g, fun g => absurd g.1 h1⟩)
  refine Ok.cond (fun h2 => ?_) (fun h2 => Ok.some ⟨fun g => by simp at g, fun g => by have := g.2.1; simp only at h2; omega⟩)
  simp only at h1 h2 ⊢
  rw [m74_ok P L K D H S G s1 s3 fun i hi => (h.li.lg i hi).p0]
  simp only [Option.bind_some]
  have hp : (posi (D ++ [S.1] ++ G.map (·.1))).Perm (blocks D S G) := by
    apply posi_perm
    exact List.Perm.append_right _ (List.perm_append_comm (l₁ := D) (l₂ := [S.1]))
  have hl := blocks_len h
  rw [m79_eq _ _ (by have := hp.length_eq; omega)]
  refine Ok.some ?_
  simp only [Bool.not_eq_true', decide_eq_false_iff_not, fresh, hp.mem_iff]
  exact ⟨fun g => ⟨h1, by omega, g⟩, fun g => g.2.2⟩
end

def wh (Q : Nat) (D : List Int) (H : List Bool) (S : Int × (Int × Int)) (G : List Log) (n : Nat) : (Int × Int) × (Bool × Unit) :=
  match loc n G with
  | some p => (p, (true, ()))
  | none =>
    if 0 ≤ S.1 ∧ S.2.1 = ((n / Q : Nat) : Int) ∧ ((n % Q : Nat) : Int) < S.2.2 then ((S.1, ((n % Q : Nat) : Int)), (true, ()))
    else if H.getD n false = true then ((D.getD (n / Q) 0, ((n % Q : Nat) : Int)), (true, ()))
    else ((0, 0), (false, ()))

theorem div_mod {Q n : Nat} : Int.tdiv (n : Int) (Q : Int) = ((n / Q : Nat) : Int) ∧ Int.tmod (n : Int) (Q : Int) = ((n % Q : Nat) : Int) :=
  ⟨by rw [Int.tdiv_eq_ediv_of_nonneg (by omega)]; rfl, by rw [Int.tmod_eq_emod_of_nonneg (by omega)]; rfl⟩

section
variable {Q : Nat} {L K : Int} {D : List Int} {H : List Bool} {S : Int × (Int × Int)} {G : List Log}

theorem m56_eq (h : Good Q L K D H S G) (n : Nat) (hn : n < H.length) : m56 (((Q : Int), (L, (K, (D, (H, (S, G)))))), ((n : Int), ())) = some (wh Q D H S G n) := by
  suffices h : Ok (m56 (((Q : Int), (L, (K, (D, (H, (S, G)))))), ((n : Int), ()))) (fun r => r = wh Q D H S G n) by
    obtain ⟨r, e, h⟩ := h; rw [e, h]
  obtain ⟨s1, s2, s3, s4⟩ := h.sz
  have hm := shape_mul h.li.sh
  have hdv := blk_lt (L := L) (D := D) (H := H) ⟨h.li.sh.1, h.li.sh.2.1, h.li.sh.2.2.1, h.li.sh.2.2.2.1, by omega, by omega⟩ h.li.dl h.li.hl n hn
  simp only [Int.toNat_natCast] at hdv
  have hQ := h.li.sh.1
  obtain ⟨b, hb⟩ : ∃ b, n / Q = b := ⟨_, rfl⟩
  obtain ⟨o, ho⟩ : ∃ o, n % Q = o := ⟨_, rfl⟩
  have hoQ : o < Q := ho ▸ Nat.mod_lt _ (by omega)
  unfold m56 wh
  rw [hb] at hdv
  simp only [div_mod.1, div_mod.2, hb, ho]
  rw [wrap64 (n := (b : Int)) (by omega) (by omega)]
  refine Ok.bind (S := fun e => match e with | .inl _ => loc n G = none | .inr v => v.1 = true ∧ loc n G = some v.2) (Ok.loop G.length (fun i x => x.1 = (i : Int) ∧ loc n G = loc n (G.drop i)) ⟨rfl, by simp⟩ ?_) fun y hy => ?_
  · rintro i ⟨x1, x2⟩ hi ⟨hx, hq⟩
    simp only at hx hq
    subst hx
    refine Ok.cond (fun hc => ?_) (fun hc => Ok.inr (by simp only at hc; rw [hq, List.drop_of_length_le (by omega)]; rfl))
    simp only [Int.toNat_natCast] at hc ⊢
    have hi' : i < G.length := by omega
    have hs := s4 i hi'
    rw [wrap64 (n := (i : Int) + 1) (by omega) (by omega)]
    have e1 : G.drop i = G.getD i (0, []) :: G.drop (i + 1) := by
      rw [List.getD_eq_getElem?_getD, List.getElem?_eq_getElem hi', Option.getD_some, List.drop_eq_getElem_cons hi']
    rw [e1, loc] at hq
    refine Ok.gd (by omega) (Ok.gd (by omega) ?_)
    rw [m80_eq _ _ (by omega)]
    simp only [Option.bind_some]
    cases hp : pos n (G.getD i (0, [])).2 with
    | none =>
      rw [hp] at hq
      exact Ok.cond (fun h => absurd h (by simp)) (fun _ => Ok.inl ⟨hi', by simp, hq⟩)
    | some k =>
      rw [hp] at hq
      exact Ok.cond (fun _ => Ok.inr ⟨rfl, hq⟩) (fun h => by simp only at h; omega)
  · refine Ok.elim (fun v e => ?_) (fun v e => ?_)
    rotate_left
    · subst e
      obtain ⟨e1, e2⟩ := hy
      rw [e2]; exact Ok.some (by rw [e1])
    subst e
    have hy : loc n G = none := hy
    rw [hy]
    simp only
    refine Ok.ite (fun h => by omega) (fun _ => Ok.ite (fun h => by omega) (fun _ => ?_))
    have rest : ¬ (0 ≤ S.1 ∧ S.2.1 = (b : Int) ∧ (o : Int) < S.2.2) → Ok (gd ((0 : Int) ≤ (n : Int)) (gd ((n : Int) < (((List.length H) : Nat) : Int)) (bif (List.getD H (Int.toNat (n : Int)) false) then
        (gd ((0 : Int) ≤ (b : Int)) (gd ((b : Int) < (((List.length D) : Nat) : Int)) (some (((List.getD D (Int.toNat (b : Int)) (0 : Int)), (o : Int)), (true, ())))))
       else
        (some (((0 : Int), (0 : Int)), (false, ())))))) (fun r => r = if 0 ≤ S.1 ∧ S.2.1 = (b : Int) ∧ (o : Int) < S.2.2 then ((S.1, (o : Int)), (true, ()))
          else if H.getD n false = true then ((D.getD b 0, (o : Int)), (true, ())) else ((0, 0), (false, ()))) := by
      intro hc
      rw [if_neg hc]
      simp only [Int.toNat_natCast]
      refine Ok.gd (by omega) (Ok.gd (by omega) ?_)
      refine Ok.condb (fun h => Ok.gd (by omega) (Ok.gd (by omega) (Ok.some ?_))) (fun h => Ok.some ?_)
      · rw [if_pos h]
      · rw [h]; rfl
    refine Ok.cond (fun h1 => Ok.cond (fun h2 => Ok.cond (fun h3 => Ok.some ?_) (fun h3 => rest fun g => ?_)) (fun h2 => rest fun g => ?_)) (fun h1 => rest fun g => ?_)
    · rw [if_pos ⟨h1, h2, by omega⟩]
    · exact h3 g.2.2
    · exact h2 g.2.1
    · exact h1 g.1

theorem m22_good (h : Good Q L K D H S G) (n : Nat) (hn : n < H.length) : m22 (((Q : Int), (L, (K, (D, (H, (S, G)))))), ((n : Int), ())) = some (wh Q D H S G n) := by
  obtain ⟨s1, s2, s3, s4⟩ := h.sz
  unfold m22
  rw [m55_good h]
  simp only [Option.bind_some]
  rw [wrap64 (n := ((H.length : Nat) : Int) - 1) (by omega) (by omega), m40_eq]
  simp only [Option.bind_some]
  rw [decide_eq_true (by omega), m56_eq h n hn]
  rfl
end
end Go.Proofs.Ytecadglgkhfaaaa
end

section
namespace Go.Proofs.Ytecadglgkhfaaaa
open Go Go.Proofs.AM

def fgc (c : Int → Bool) (g : Log) : Log := (g.1, g.2.map fun p => if c p = true then -1 else p)

theorem ith_mid (A B : List Log) (g : Log) : ith (A := Int) (ki := .int .i64) (A ++ g :: B) A.length = g.2 := by
  unfold ith; simp
theorem setIn_mid (A B : List Log) (g : Log) (ys : List Int) : setIn (A := Int) (ki := .int .i64) (A ++ g :: B) A.length ys = A ++ (g.1, ys) :: B := by
  unfold setIn
  induction A with
  | nil => rfl
  | cons a A ih => rw [List.length_cons, List.cons_append, List.modify_succ_cons, ih]; rfl
theorem hth_mid (A B : List Log) (g : Log) : hth (kh := .int .i64) (ki := .int .i64) (A ++ g :: B) A.length = g.1 := by
  unfold hth; simp

theorem getD_mid (A B : List Int) (x : Int) : (A ++ x :: B).getD A.length 0 = x := by simp
theorem set_mid (A B : List Int) (x y : Int) : (A ++ x :: B).set A.length y = A ++ y :: B := by simp

theorem inner_gen (c : Int → Bool) (A B : List Log) (g : Log) (f : Int × List Log → Option ((Int × List Log) ⊕ List Log))
    (hin : ∀ j row, j < g.2.length → row.length = g.2.length → f ((j : Int), A ++ (g.1, row) :: B) = some (.inl ((j : Int) + 1, A ++ (g.1, if c (row.getD j 0) = true then row.set j (-1) else row) :: B)))
    (hend : ∀ row, row.length = g.2.length → f ((g.2.length : Int), A ++ (g.1, row) :: B) = some (.inr (A ++ (g.1, row) :: B))) :
    loopM f (0, A ++ g :: B) = some (A ++ fgc c g :: B) := by
  refine loop_idx' g.2.length (fun j => ((j : Int), A ++ (g.1, (g.2.take j).map (fun p => if c p = true then -1 else p) ++ g.2.drop j) :: B)) (by simp) (fun j hj => ?_) ?_
  · have hl : ((g.2.take j).map (fun p => if c p = true then -1 else p) ++ g.2.drop j).length = g.2.length := by simp; omega
    rw [hin j _ hj hl]
    have e1 : g.2.drop j = g.2.getD j 0 :: g.2.drop (j + 1) := by
      rw [List.getD_eq_getElem?_getD, List.getElem?_eq_getElem hj, Option.getD_some, List.drop_eq_getElem_cons hj]
    have e2 : ((g.2.take j).map (fun p => if c p = true then -1 else p)).length = j := by simp; omega
    have e3 : (g.2.take (j + 1)).map (fun p => if c p = true then -1 else p) = (g.2.take j).map (fun p => if c p = true then -1 else p) ++ [if c (g.2.getD j 0) = true then -1 else g.2.getD j 0] := by
      rw [take_snoc g.2 j hj 0, List.map_append]; rfl
    rw [e1, e3]
    obtain ⟨T, hT⟩ : ∃ T, T = (g.2.take j).map (fun p => if c p = true then -1 else p) := ⟨_, rfl⟩
    rw [← hT] at e2 ⊢
    subst e2
    rw [getD_mid, set_mid]
    by_cases h : c (g.2.getD T.length 0) = true
    · rw [if_pos h, if_pos h]; simp
    · rw [if_neg h, if_neg h]; simp
  · rw [hend _ (by simp)]
    simp [fgc]

theorem inner_genp (c : Int → Bool) (A B : List Log) (g : Log) (f : Int × List Log → Option ((Int × List Log) ⊕ List Log))
    (hin : ∀ j row, j < g.2.length → row.length = g.2.length → row.getD j 0 = g.2.getD j 0 → f ((j : Int), A ++ (g.1, row) :: B) = some (.inl ((j : Int) + 1, A ++ (g.1, if c (row.getD j 0) = true then row.set j (-1) else row) :: B)))
    (hend : ∀ row, row.length = g.2.length → f ((g.2.length : Int), A ++ (g.1, row) :: B) = some (.inr (A ++ (g.1, row) :: B))) :
    loopM f (0, A ++ g :: B) = some (A ++ fgc c g :: B) := by
  refine loop_idx' g.2.length (fun j => ((j : Int), A ++ (g.1, (g.2.take j).map (fun p => if c p = true then -1 else p) ++ g.2.drop j) :: B)) (by simp) (fun j hj => ?_) ?_
  · have hl : ((g.2.take j).map (fun p => if c p = true then -1 else p) ++ g.2.drop j).length = g.2.length := by simp; omega
    have e1 : g.2.drop j = g.2.getD j 0 :: g.2.drop (j + 1) := by
      rw [List.getD_eq_getElem?_getD, List.getElem?_eq_getElem hj, Option.getD_some, List.drop_eq_getElem_cons hj]
    have hrow : ((g.2.take j).map (fun p => if c p = true then -1 else p) ++ g.2.drop j).getD j 0 = g.2.getD j 0 := by
      rw [e1]
      have e2 : ((g.2.take j).map (fun p => if c p = true then -1 else p)).length = j := by simp; omega
      obtain ⟨T, hT⟩ : ∃ T, T = (g.2.take j).map (fun p => if c p = true then -1 else p) := ⟨_, rfl⟩
      rw [← hT] at e2 ⊢
      subst e2
      rw [getD_mid]
    rw [hin j _ hj hl hrow]
    have e2 : ((g.2.take j).map (fun p => if c p = true then -1 else p)).length = j := by simp; omega
    have e3 : (g.2.take (j + 1)).map (fun p => if c p = true then -1 else p) = (g.2.take j).map (fun p => if c p = true then -1 else p) ++ [if c (g.2.getD j 0) = true then -1 else g.2.getD j 0] := by
      rw [take_snoc g.2 j hj 0, List.map_append]; rfl
    rw [e1, e3]
    obtain ⟨T, hT⟩ : ∃ T, T = (g.2.take j).map (fun p => if c p = true then -1 else p) := ⟨_, rfl⟩
    rw [← hT] at e2 ⊢
    subst e2
    rw [getD_mid, set_mid]
    by_cases h : c (g.2.getD T.length 0) = true
    · rw [if_pos h, if_pos h]; simp
    · rw [if_neg h, if_neg h]; simp
  · rw [hend _ (by simp)]
    simp [fgc]

theorem outer_gen (c : Int → Bool) (G : List Log) (F : Int × List Log → Option ((Int × List Log) ⊕ List Log))
    (hout : ∀ (A : List Log) g B, A.length + 1 + B.length = G.length → g ∈ G → F ((A.length : Int), A ++ g :: B) = some (.inl ((A.length : Int) + 1, A ++ fgc c g :: B)))
    (hend : ∀ X, F ((G.length : Int), X) = some (.inr X)) : loopM F (0, G) = some (G.map (fgc c)) := by
  refine loop_idx' G.length (fun i => ((i : Int), (G.take i).map (fgc c) ++ G.drop i)) (by simp) (fun i hi => ?_) ?_
  · have e1 : G.drop i = G[i] :: G.drop (i + 1) := List.drop_eq_getElem_cons hi
    have e2 : ((G.take i).map (fgc c)).length = i := by simp; omega
    have e3 : (G.take (i + 1)).map (fgc c) = (G.take i).map (fgc c) ++ [fgc c G[i]] := by
      rw [List.take_add_one, List.getElem?_eq_getElem hi, List.map_append]; rfl
    rw [e1]
    have := hout ((G.take i).map (fgc c)) G[i] (G.drop (i + 1)) (by rw [e2]; simp; omega) (List.getElem_mem hi)
    rw [e2] at this
    rw [this, e3]
    simp
  · rw [hend]
    simp

def isn (n : Int) (p : Int) : Bool := decide (p = n)

theorem m18f_eq (n : Int) (hn : 0 ≤ n) (G : List Log) (hG : G.length ≤ 100) (hg : ∀ g ∈ G, g.2.length ≤ 32) : m18f n G = some (G.map (fgc (isn n))) := by
  unfold m18f
  refine outer_gen (isn n) G _ (fun A g B hl hm => ?_) (fun X => ?_)
  rotate_left
  · simp only; rw [decide_eq_false (by omega)]; rfl
  have hgl := hg g hm
  simp only [Int.toNat_natCast]
  rw [decide_eq_true (show (A.length : Int) < (G.length : Int) by omega)]
  simp only [cond_true]
  rw [gd_pos (by omega), gd_pos (by omega), gd_pos (by simp)]
  rw [inner_gen (isn n) A B g _ (fun j row hj hr => ?_) (fun row hr => ?_)]
  · simp only [Option.bind_some]; rw [wrap64 (by omega) (by omega)]
  · simp only [Int.toNat_natCast, ith_mid, setIn_mid]
    rw [decide_eq_true (show (j : Int) < (g.2.length : Int) by omega)]
    simp only [cond_true]
    rw [gd_pos (by omega), gd_pos (by omega), gd_pos (by omega), wrap64 (by omega) (by omega)]
    unfold isn
    simp only [Bool.cond_eq_ite, decide_eq_true_eq]
    have aux : ∀ v : Int, (if v ≥ 0 then (if v = n then gd ((0 : Int) ≤ (j : Int)) (gd ((j : Int) < (row.length : Int)) (gd (j < row.length) (some (Sum.inl ((j : Int) + 1, A ++ (g.1, row.set j (-1)) :: B))))) else some (Sum.inl ((j : Int) + 1, A ++ (g.1, row) :: B))) else some (Sum.inl ((j : Int) + 1, A ++ (g.1, row) :: B))) = (some (Sum.inl ((j : Int) + 1, A ++ (g.1, if v = n then row.set j (-1) else row) :: B)) : Option ((Int × List Log) ⊕ List Log)) := by
      intro v
      by_cases h1 : v = n
      · rw [if_pos (by omega), if_pos h1, if_pos h1, gd_pos (by omega), gd_pos (by omega), gd_pos (by omega)]
      · by_cases h2 : v ≥ 0
        · rw [if_pos h2, if_neg h1, if_neg h1]
        · rw [if_neg h2, if_neg h1]
    exact aux (row.getD j 0)
  · simp only [Int.toNat_natCast, ith_mid]
    rw [decide_eq_false (by omega)]; rfl

theorem room_fgc (P : Int) (c : Int → Bool) (G : List Log) : room P (G.map (fgc c)) = room P G := by
  unfold room
  have : (((G.map (fgc c)).getD ((G.map (fgc c)).length - 1) (0, [])).2.length) = (G.getD (G.length - 1) (0, [])).2.length := by
    simp only [List.length_map, List.getD_eq_getElem?_getD, List.getElem?_map]
    cases G[G.length - 1]? <;> simp [fgc]
  rw [this, List.length_map]

def addLast (G : List Log) (v : Int) : List Log := setIn (A := Int) (ki := .int .i64) G (G.length - 1) (ith (A := Int) (ki := .int .i64) G (G.length - 1) ++ [v])

theorem addLast_snoc (A : List Log) (g : Log) (v : Int) : addLast (A ++ [g]) v = A ++ [(g.1, g.2 ++ [v])] := by
  unfold addLast
  have e : (A ++ [g]).length - 1 = A.length := by simp
  rw [e, ith_mid, setIn_mid]

section
open Classical
variable (P L K : Int) (D : List Int) (H : List Bool) (S : Int × (Int × Int)) (G : List Log)

noncomputable def openS (s : Int × Int) (ph : Int) : Tab × (Int × Unit) :=
  if ¬ Good P L K D H S G then (zeroT, (50, ()))
  else if ¬ fresh D S G ph then (zeroT, (1, ()))
  else if s.1 = 3 ∧ S.1 < 0 ∧ 0 ≤ s.2 ∧ s.2 < L then ((P, (L, (K, (D, (H, ((ph, (s.2, 0)), G)))))), (0, ()))
  else if s.1 = 4 ∧ (G.length : Int) < K ∧ room P G = false then ((P, (L, (K, (D, (H, (S, G ++ [(ph, [])])))))), (0, ()))
  else (zeroT, (51, ()))

noncomputable def putS (s : Int × Int) (n : Int) : Tab × ((Int × Int) × (Int × Unit)) :=
  if ¬ Good P L K D H S G then (zeroT, ((0, 0), (50, ())))
  else if ¬ (0 ≤ n ∧ n < H.length) then (zeroT, ((0, 0), (1, ())))
  else if s.1 = 1 ∧ 0 ≤ S.1 ∧ S.2.1 = Int.tdiv n P ∧ S.2.2 = Int.tmod n P then ((P, (L, (K, (D, (H, ((S.1, (S.2.1, S.2.2 + 1)), G.map (fgc (isn n)))))))), ((S.1, S.2.2), (0, ())))
  else if s.1 = 2 ∧ room P G = true then
    ((P, (L, (K, (D, (H, (S, addLast (G.map (fgc (isn n))) n)))))), ((hth (kh := .int .i64) (ki := .int .i64) (addLast (G.map (fgc (isn n))) n) (G.length - 1), (((ith (A := Int) (ki := .int .i64) (addLast (G.map (fgc (isn n))) n) (G.length - 1)).length : Nat) : Int) - 1), (0, ())))
  else (zeroT, ((0, 0), (51, ())))

end

section
variable {P L K : Int} {D : List Int} {H : List Bool} {S : Int × (Int × Int)} {G : List Log}

theorem ok_eq {A : Type} {o : Option A} {r : A} (h : Ok o (fun x => x = r)) : o = some r := by
  obtain ⟨x, e, h⟩ := h; rw [e, h]

theorem Good.el (h : Good P L K D H S G) : ∀ g ∈ G, g.2.length ≤ 32 := fun g hg => by
  obtain ⟨i, hi, e⟩ := List.getElem_of_mem hg
  have := h.sz.2.2.2 i hi
  rw [List.getD_eq_getElem?_getD, List.getElem?_eq_getElem hi] at this
  simp only [Option.getD_some] at this
  rw [e] at this; exact this

theorem m15_spec (s : Int × Int) (ph : Int) : m15 ((P, (L, (K, (D, (H, (S, G)))))), (s, (ph, ()))) = some (openS P L K D H S G s ph) := by
  apply ok_eq
  unfold m15
  unfold openS
  by_cases h : Good P L K D H S G
  rotate_left
  · rw [m25_bad h]
    simp only [Option.bind_some]
    refine Ok.ncond (fun _ => Ok.some ?_) (fun h1 => by simp at h1)
    rw [if_pos h]; rfl
  rw [m25_good h, if_neg (Classical.not_not.2 h)]
  simp only [Option.bind_some]
  obtain ⟨s1, s2, s3, s4⟩ := h.sz
  have hs := h.li.sh
  obtain ⟨p1, p2, p3, p4, p5, p6⟩ := hs
  refine Ok.ncond (fun h1 => absurd trivial h1) (fun _ => ?_)
  refine Ok.bind (m47_ok h ph) fun y hy => ?_
  refine Ok.condb (fun h1 => ?_) (fun h1 => ?_)
  · have : ¬ fresh D S G ph := fun g => by rw [hy.2 g] at h1; simp at h1
    rw [if_pos this]; exact Ok.some rfl
  have hf : fresh D S G ph := hy.1 (by simpa using h1)
  rw [if_neg (Classical.not_not.2 hf)]
  rw [clo_eq P L K D H S G (by omega) (fun i hi => by have := s4 i hi; omega)]
  simp only [Option.bind_some]
  refine Ok.gd (by omega) (Ok.gd (by omega) (Ok.gd (by omega) (Ok.gd (by omega) (Ok.gd (by omega) (Ok.gd (by omega) ?_)))))
  have tail : ¬ (s.1 = 3 ∧ S.1 < 0 ∧ 0 ≤ s.2 ∧ s.2 < L) → Ok (m15t ((P, (L, (K, (D, (H, (S, G)))))), (s, (ph, ()))) (P, (L, (K, (D, (H, (S.1, (S.2.1, (S.2.2, G))))))))) (fun r => r = if s.1 = 3 ∧ S.1 < 0 ∧ 0 ≤ s.2 ∧ s.2 < L then ((P, (L, (K, (D, (H, ((ph, (s.2, 0)), G)))))), (0, ()))
      else if s.1 = 4 ∧ (G.length : Int) < K ∧ room P G = false then ((P, (L, (K, (D, (H, (S, G ++ [(ph, [])])))))), (0, ()))
      else (zeroT, (51, ()))) := by
    intro hn
    rw [if_neg hn]
    unfold m15t
    refine Ok.cond (fun a => Ok.cond (fun b => ?_) (fun b => Ok.some ?_)) (fun a => Ok.some ?_)
    · rw [m49_eq P L K D H S G (by omega)]
      simp only [Option.bind_some] at a b ⊢
      refine Ok.condb (fun c => Ok.gd (by omega) (Ok.gd (by omega) (Ok.some ?_))) (fun c => Ok.some ?_)
      · simp only [Bool.not_eq_true'] at c
        rw [if_pos ⟨a, b, c⟩]
      · simp only [Bool.not_eq_false'] at c
        rw [if_neg (fun g => by rw [g.2.2] at c; simp at c)]; rfl
    · rw [if_neg (fun g => b g.2.1)]; rfl
    · rw [if_neg (fun g => a g.1)]; rfl
  rw [wrap64 (n := L - 1) (by omega) (by omega), m40_eq]
  simp only [Option.bind_some]
  refine Ok.cond (fun a => Ok.cond (fun b => Ok.cond (fun c => Ok.some ?_) (fun c => tail fun g => c ⟨g.2.2.1, by have := g.2.2.2; omega⟩)) (fun b => tail fun g => b g.2.1)) (fun a => tail fun g => a g.1)
  rw [if_pos ⟨a, b, c.1, by omega⟩]

theorem m18_spec (s : Int × Int) (n : Int) : m18 ((P, (L, (K, (D, (H, (S, G)))))), (s, (n, ()))) = some (putS P L K D H S G s n) := by
  apply ok_eq
  unfold m18
  unfold putS
  by_cases h : Good P L K D H S G
  rotate_left
  · rw [m25_bad h]
    simp only [Option.bind_some]
    refine Ok.ncond (fun _ => Ok.some ?_) (fun h1 => by simp at h1)
    rw [if_pos h]; rfl
  rw [m25_good h, if_neg (Classical.not_not.2 h)]
  simp only [Option.bind_some]
  obtain ⟨s1, s2, s3, s4⟩ := h.sz
  have hs := h.li.sh
  have hm := shape_mul hs
  have hHl := h.li.hl
  have hsq := h.li.sq
  obtain ⟨p1, p2, p3, p4, p5, p6⟩ := hs
  refine Ok.ncond (fun h1 => absurd trivial h1) (fun _ => ?_)
  rw [wrap64 (n := ((H.length : Nat) : Int) - 1) (by omega) (by omega), m40_eq]
  simp only [Option.bind_some]
  refine Ok.ncond (fun h1 => Ok.some ?_) (fun h1 => ?_)
  · rw [if_pos (fun g => h1 (by omega))]; rfl
  rw [if_neg (Classical.not_not.2 ⟨h1.1, by omega⟩)]
  rw [clo_eq P L K D H S G (by omega) (fun i hi => by have := s4 i hi; omega)]
  simp only [Option.bind_some]
  refine Ok.gd (by omega) (Ok.gd (by omega) (Ok.gd (by omega) (Ok.gd (by omega) (Ok.gd (by omega) (Ok.gd (by omega) ?_)))))
  rw [m18f_eq n h1.1 G (by omega) h.el]
  simp only [Option.bind_some]
  obtain ⟨N, rfl⟩ : ∃ N : Nat, n = N := ⟨n.toNat, by omega⟩
  obtain ⟨Q, rfl⟩ : ∃ Q : Nat, P = Q := ⟨P.toNat, by omega⟩
  have hdv : N / Q < 10000 := Nat.lt_of_le_of_lt (Nat.div_le_self _ _) (by omega)
  obtain ⟨G', hG'⟩ : ∃ G', G' = G.map (fgc (isn (N : Int))) := ⟨_, rfl⟩
  have hl' : G'.length = G.length := by rw [hG', List.length_map]
  have hrm : room Q G' = room Q G := by rw [hG', room_fgc]
  have hel : ∀ g ∈ G', g.2.length ≤ 32 := fun g hg => by
    rw [hG'] at hg
    obtain ⟨g', hg', rfl⟩ := List.mem_map.1 hg
    have := h.el g' hg'
    simpa [fgc] using this
  rw [← hG']
  have tail : ¬ (s.1 = 1 ∧ 0 ≤ S.1 ∧ S.2.1 = Int.tdiv (N : Int) Q ∧ S.2.2 = Int.tmod (N : Int) Q) → Ok (m18t (((Q : Int), (L, (K, (D, (H, (S, G)))))), (s, ((N : Int), ()))) ((Q : Int), (L, (K, (D, (H, (S.1, (S.2.1, (S.2.2, G)))))))) G') (fun r => r = if s.1 = 1 ∧ 0 ≤ S.1 ∧ S.2.1 = Int.tdiv (N : Int) Q ∧ S.2.2 = Int.tmod (N : Int) Q then (((Q : Int), (L, (K, (D, (H, ((S.1, (S.2.1, S.2.2 + 1)), G')))))), ((S.1, S.2.2), (0, ())))
      else if s.1 = 2 ∧ room Q G = true then
        (((Q : Int), (L, (K, (D, (H, (S, addLast G' N)))))), ((hth (kh := .int .i64) (ki := .int .i64) (addLast G' N) (G.length - 1), (((ith (A := Int) (ki := .int .i64) (addLast G' N) (G.length - 1)).length : Nat) : Int) - 1), (0, ())))
      else (zeroT, ((0, 0), (51, ())))) := by
    intro hn
    rw [if_neg hn]
    unfold m18t
    refine Ok.cond (fun a => ?_) (fun a => Ok.some ?_)
    · rw [m49_eq _ _ _ _ _ _ _ (by omega), hrm]
      simp only [Option.bind_some] at a ⊢
      refine Ok.condb (fun c => ?_) (fun c => Ok.some ?_)
      · rw [if_pos ⟨a, c⟩]
        have hpos : 0 < G.length := by
          unfold room at c; simp only [decide_eq_true_eq] at c; exact c.1
        rw [wrap64 (n := ((G.length : Nat) : Int) - 1) (by omega) (by omega)]
        have e1 : ((((G.length : Nat) : Int) - 1).toNat) = G.length - 1 := by omega
        obtain ⟨A, g, hAg⟩ : ∃ A g, G' = A ++ [g] := ⟨G'.dropLast, G'.getLast (by intro e; rw [e] at hl'; simp at hl'; omega), (List.dropLast_concat_getLast _).symm⟩
        have hAl : G.length - 1 = A.length := by rw [← hl', hAg]; simp
        have hgl : g.2.length ≤ 32 := hel g (by rw [hAg]; simp)
        have e2 : setIn (A := Int) (ki := .int .i64) (A ++ [g]) A.length (g.2 ++ [(N : Int)]) = A ++ [(g.1, g.2 ++ [(N : Int)])] := setIn_mid A [] g _
        have e3 : ith (A := Int) (ki := .int .i64) (A ++ [g]) A.length = g.2 := ith_mid A [] g
        have e4 : ith (A := Int) (ki := .int .i64) (A ++ [(g.1, g.2 ++ [(N : Int)])]) A.length = g.2 ++ [(N : Int)] := ith_mid A [] _
        have e5 : hth (kh := .int .i64) (ki := .int .i64) (A ++ [(g.1, g.2 ++ [(N : Int)])]) A.length = g.1 := hth_mid A [] _
        subst hAg
        simp only [e1, hAl, e3, e2, e4, e5, addLast_snoc]
        have hx : (A ++ [g]).length = A.length + 1 := by simp
        have hx2 : (A ++ [(g.1, g.2 ++ [(N : Int)])]).length = A.length + 1 := by simp
        have hx3 : (g.2 ++ [(N : Int)]).length = g.2.length + 1 := by simp
        rw [hx2, hx3, hx, wrap64 (n := ((g.2.length + 1 : Nat) : Int) - 1) (by omega) (by omega)]
        refine Ok.gd (by omega) (Ok.gd (by omega) (Ok.gd (by omega) (Ok.gd (by simp; omega) (Ok.gd (by simp; omega) (Ok.gd (by omega) (Ok.gd (by omega) (Ok.gd trivial (Ok.gd trivial (Ok.gd (by omega) (Ok.gd (by omega) (Ok.gd (by omega) (Ok.gd (by omega) (Ok.gd (by omega) (Ok.gd (by omega) (Ok.some rfl)))))))))))))))
      · rw [if_neg (fun g => by rw [g.2] at c; simp at c)]; rfl
    · rw [if_neg (fun g => a g.1)]; rfl
  refine Ok.cond (fun a => Ok.cond (fun b => ?_) (fun b => tail fun g => b g.2.1)) (fun a => tail fun g => a g.1)
  obtain ⟨bb, hb⟩ : ∃ b, N / Q = b := ⟨_, rfl⟩
  rw [hb] at hdv
  simp only [div_mod.1, div_mod.2, hb] at tail ⊢
  rw [wrap64 (n := (bb : Int)) (by omega) (by omega)]
  refine Ok.ite (fun e => by omega) (fun _ => ?_)
  refine Ok.cond (fun c => ?_) (fun c => tail fun g => c g.2.2.1)
  refine Ok.ite (fun e => by omega) (fun _ => ?_)
  refine Ok.cond (fun d => Ok.some ?_) (fun d => tail fun g => d g.2.2.2)
  have hu : 0 ≤ S.2.2 ∧ S.2.2 ≤ 100 := by
    rcases hsq with e | e
    · rw [e]; simp
    · omega
  rw [if_pos ⟨a, b, c, d⟩, wrap64 (n := S.2.2 + 1) (by omega) (by omega), wrap64 (n := S.2.2 + 1 - 1) (by omega) (by omega), show S.2.2 + 1 - 1 = S.2.2 by omega]

end
end Go.Proofs.Ytecadglgkhfaaaa
end

section
namespace Go.Proofs.Ytecadglgkhfaaaa
open Go Go.Proofs.AM

def ovr (P : Int) (S : Int × (Int × Int)) (G : List Log) : Prop := ∃ g ∈ G, ∃ p ∈ g.2, 0 ≤ p ∧ Int.tdiv p P = S.2.1 ∧ Int.tmod p P < S.2.2

section
variable {P L K : Int} {D : List Int} {H : List Bool} {S : Int × (Int × Int)} {G : List Log}

theorem getD_cons_drop {A : Type} {l : List A} {i : Nat} {z : A} (h : i < l.length) : l.drop i = l.getD i z :: l.drop (i + 1) := by
  rw [List.getD_eq_getElem?_getD, List.getElem?_eq_getElem h, Option.getD_some, List.drop_eq_getElem_cons h]

theorem div_lt {p Q : Nat} (h : p < 100000) : p / Q < 100000 := Nat.lt_of_le_of_lt (Nat.div_le_self _ _) h

theorem tdiv_ok {p P : Int} (h0 : 0 ≤ p) (h1 : p < 8192) (hP : 4 ≤ P) : IntKind.wrap .i64 (Int.tdiv p P) = Int.tdiv p P := by
  obtain ⟨N, rfl⟩ : ∃ N : Nat, p = N := ⟨p.toNat, by omega⟩
  obtain ⟨Q, rfl⟩ : ∃ Q : Nat, P = Q := ⟨P.toNat, by omega⟩
  have hd := div_lt (p := N) (Q := Q) (by omega)
  rw [div_mod.1]
  obtain ⟨b, hb⟩ : ∃ b, N / Q = b := ⟨_, rfl⟩
  rw [hb] at hd ⊢
  rw [wrap64 (by omega) (by omega)]

theorem Good.pages (h : Good P L K D H S G) : ∀ g ∈ G, ∀ p ∈ g.2, -1 ≤ p ∧ p < 8192 := fun g hg p hp => by
  have hm := shape_mul h.li.sh
  obtain ⟨i, hi, e⟩ := List.getElem_of_mem hg
  have := (h.li.lg i hi).pg
  rw [List.getD_eq_getElem?_getD, List.getElem?_eq_getElem hi] at this
  simp only [Option.getD_some] at this
  rw [e] at this
  obtain ⟨j, hj, e2⟩ := List.getElem_of_mem hp
  have := this j hj
  rw [List.getD_eq_getElem?_getD, List.getElem?_eq_getElem hj] at this
  simp only [Option.getD_some] at this
  rw [e2] at this
  omega

theorem m62_ok (h : Good P L K D H S G) : Ok (m62 ((P, (L, (K, (D, (H, (S, G)))))), ())) (fun r => r.1 = true ↔ ovr P S G) := by
  obtain ⟨s1, s2, s3, s4⟩ := h.sz
  have hpg := h.pages
  have hel := h.el
  have hP := h.li.sh.1
  unfold m62
  refine Ok.bind (S := fun e => match e with | .inl _ => ¬ ovr P S G | .inr v => v = true ∧ ovr P S G) (Ok.loop G.length (fun i x => x = (i : Int) ∧ ∀ g ∈ G.take i, ∀ p ∈ g.2, ¬ (0 ≤ p ∧ Int.tdiv p P = S.2.1 ∧ Int.tmod p P < S.2.2)) ⟨rfl, fun g hg => by simp at hg⟩ ?_) fun y hy => ?_
  · rintro i x hi ⟨rfl, hq0⟩
    refine Ok.cond (fun hc => ?_) (fun hc => Ok.inr ?_)
    rotate_left
    · simp only at hc
      rw [List.take_of_length_le (by omega)] at hq0
      exact fun ⟨g, hg, p, hp, e⟩ => hq0 g hg p hp e
    simp only [Int.toNat_natCast] at hc ⊢
    have hi' : i < G.length := by omega
    rw [wrap64 (n := (i : Int) + 1) (by omega) (by omega)]
    refine Ok.gd (by omega) (Ok.gd (by omega) ?_)
    obtain ⟨g, hgd⟩ : ∃ g, g = G.getD i (0, []) := ⟨_, rfl⟩
    have hgm : g ∈ G := hgd ▸ getD_mem hi'
    have hgl := hel g hgm
    have hgp := hpg g hgm
    have htk : G.take (i + 1) = G.take i ++ [g] := hgd ▸ take_snoc G i hi' (0, [])
    simp only [← hgd]
    refine Ok.bind (S := fun e => match e with | .inl _ => ∀ p ∈ g.2, ¬ (0 ≤ p ∧ Int.tdiv p P = S.2.1 ∧ Int.tmod p P < S.2.2) | .inr v => v = true ∧ ovr P S G) (Ok.loop g.2.length (fun j x => x = (j : Int) ∧ ∀ p ∈ g.2.take j, ¬ (0 ≤ p ∧ Int.tdiv p P = S.2.1 ∧ Int.tmod p P < S.2.2)) ⟨rfl, fun p hp => by simp at hp⟩ ?_) fun y hy => ?_
    · rintro j x hj ⟨rfl, hr⟩
      refine Ok.cond (fun hc => ?_) (fun hc => Ok.inr ?_)
      rotate_left
      · rw [List.take_of_length_le (by omega)] at hr
        exact hr
      simp only [Int.toNat_natCast] at hc ⊢
      have hj' : j < g.2.length := by omega
      rw [wrap64 (n := (j : Int) + 1) (by omega) (by omega)]
      refine Ok.gd (by omega) (Ok.gd (by omega) ?_)
      obtain ⟨p, hpd⟩ : ∃ p, p = g.2.getD j 0 := ⟨_, rfl⟩
      have hpm : p ∈ g.2 := hpd ▸ getD_mem hj'
      have hpb := hgp p hpm
      have htk2 : g.2.take (j + 1) = g.2.take j ++ [p] := hpd ▸ take_snoc g.2 j hj' 0
      simp only [← hpd]
      have go : ¬ (0 ≤ p ∧ Int.tdiv p P = S.2.1 ∧ Int.tmod p P < S.2.2) → j < g.2.length ∧ ((j : Int) + 1 = ((j + 1 : Nat) : Int) ∧ ∀ p ∈ g.2.take (j + 1), ¬ (0 ≤ p ∧ Int.tdiv p P = S.2.1 ∧ Int.tmod p P < S.2.2)) := fun hn => by
        refine ⟨hj', by omega, fun q hq => ?_⟩
        rw [htk2] at hq
        rcases List.mem_append.1 hq with hq | hq
        · exact hr q hq
        · simp only [List.mem_singleton] at hq; subst hq; exact hn
      refine Ok.cond (fun a => ?_) (fun a => Ok.inl (go fun k => a k.1))
      rw [tdiv_ok a hpb.2 hP]
      refine Ok.ite (fun e => by omega) (fun _ => ?_)
      refine Ok.cond (fun b => ?_) (fun b => Ok.inl (go fun k => b k.2.1))
      refine Ok.ite (fun e => by omega) (fun _ => ?_)
      refine Ok.cond (fun c => Ok.inr ⟨rfl, g, hgm, _, hpm, a, b, c⟩) (fun c => Ok.inl (go fun k => c k.2.2))
    · refine Ok.elim (fun v e => ?_) (fun v e => ?_)
      · subst e
        refine Ok.inl ⟨hi', by omega, fun q hq => ?_⟩
        rw [htk] at hq
        rcases List.mem_append.1 hq with hq | hq
        · exact hq0 q hq
        · simp only [List.mem_singleton] at hq; subst hq; exact hy
      · subst e; exact Ok.inr hy
  · refine Ok.elim (fun v e => ?_) (fun v e => ?_)
    · subst e; exact Ok.some ⟨fun h => by simp at h, fun h => absurd h hy⟩
    · subst e; exact Ok.some ⟨fun _ => hy.2, fun _ => hy.1⟩

def whl (n : Int) (G : List Log) : (Int × Int) × (Bool × Unit) := match loc n G with
  | some p => (p, (true, ()))
  | none => ((0, 0), (false, ()))

theorem m75_ok (n : Int) (hG : G.length ≤ 100) (hel : ∀ g ∈ G, g.2.length ≤ 100) : m75 ((P, (L, (K, (D, (H, (S, G)))))), (n, ())) = some (whl n G) := by
  apply ok_eq
  unfold m75 whl
  refine Ok.bind (S := fun e => match e with | .inl _ => loc n G = none | .inr v => v.1 = true ∧ loc n G = some v.2) (Ok.loop G.length (fun i x => x.1 = (i : Int) ∧ loc n G = loc n (G.drop i)) ⟨rfl, by simp⟩ ?_) fun y hy => ?_
  · rintro i ⟨x1, x2⟩ hi ⟨hx, hq⟩
    simp only at hx hq
    subst hx
    refine Ok.cond (fun hc => ?_) (fun hc => Ok.inr (by simp only at hc; rw [hq, List.drop_of_length_le (by omega)]; rfl))
    simp only [Int.toNat_natCast] at hc ⊢
    have hi' : i < G.length := by omega
    rw [wrap64 (n := (i : Int) + 1) (by omega) (by omega)]
    have e1 := getD_cons_drop (z := ((0 : Int), ([] : List Int))) hi'
    obtain ⟨g, hgd⟩ : ∃ g, g = G.getD i (0, []) := ⟨_, rfl⟩
    have hgl := hel g (hgd ▸ getD_mem hi')
    rw [← hgd] at e1
    simp only [← hgd]
    rw [e1, loc] at hq
    refine Ok.bind (S := fun e => match e with | .inl _ => pos n g.2 = none | .inr v => v.1 = true ∧ v.2.1 = g.1 ∧ ∃ k : Nat, v.2.2 = k ∧ pos n g.2 = some k) (Ok.loop g.2.length (fun j x => x.1 = (j : Int) ∧ ∀ k, k < j → g.2.getD k 0 ≠ n) ⟨rfl, fun k hk => by omega⟩ ?_) fun y hy => ?_
    · rintro j ⟨z1, z2⟩ hj ⟨hz, hr⟩
      simp only at hz hr
      subst hz
      refine Ok.gd (by omega) (Ok.gd (by omega) ?_)
      refine Ok.cond (fun hc => ?_) (fun hc => Ok.inr (by simp only at hc; exact pos_none.2 (not_mem_getD fun k hk => hr k (by omega))))
      simp only [Int.toNat_natCast] at hc ⊢
      rw [wrap64 (n := (j : Int) + 1) (by omega) (by omega)]
      refine Ok.gd (by omega) (Ok.gd (by omega) (Ok.gd (by omega) (Ok.gd (by omega) ?_)))
      refine Ok.cond (fun a => Ok.gd (by omega) (Ok.gd (by omega) (Ok.inr ⟨rfl, rfl, j, rfl, pos_some (by omega) a hr⟩))) (fun a => Ok.inl ⟨by omega, by simp, fun k hk => ?_⟩)
      by_cases e : k = j
      · subst e; exact a
      · exact hr k (by omega)
    · refine Ok.elim (fun v e => ?_) (fun v e => ?_)
      · subst e
        have hy : pos n g.2 = none := hy
        rw [hy] at hq
        exact Ok.inl ⟨hi', by simp, hq⟩
      · subst e
        obtain ⟨h1, h2, k, h3, h4⟩ := hy
        rw [h4] at hq
        exact Ok.inr ⟨h1, by simp only; rw [h2, h3]; exact hq⟩
  · refine Ok.elim (fun v e => ?_) (fun v e => ?_)
    · subst e
      have hy : loc n G = none := hy
      rw [hy]; exact Ok.some rfl
    · subst e
      rw [hy.2]; exact Ok.some (by rw [hy.1])

theorem loc_none {n : Int} : ∀ {G : List Log}, loc n G = none ↔ ∀ g ∈ G, n ∉ g.2
  | [] => by simp [loc]
  | g :: G => by
    rw [loc]
    cases h : pos n g.2 with
    | none =>
      simp only [List.mem_cons, forall_eq_or_imp]
      rw [loc_none]
      exact ⟨fun k => ⟨pos_none.1 h, k⟩, fun k => k.2⟩
    | some k =>
      simp only [List.mem_cons, forall_eq_or_imp]
      refine ⟨fun g => by simp at g, fun g => ?_⟩
      rw [pos_none.2 g.1] at h; simp at h

theorem m45_ok (h : Good P L K D H S G) (hS : 0 ≤ S.1) : Ok (m45 ((P, (L, (K, (D, (H, (S, G)))))), ())) (fun r => r.1 = true ↔ ovr P S G) := by
  obtain ⟨s1, s2, s3, s4⟩ := h.sz
  have hel := h.el
  have hm := shape_mul h.li.sh
  obtain ⟨p1, p2, p3, p4, p5, p6⟩ := h.li.sh
  have hsq : 0 ≤ S.2.1 ∧ S.2.1 < L ∧ 0 ≤ S.2.2 ∧ S.2.2 ≤ P := by
    rcases h.li.sq with e | e
    · rw [e] at hS; simp at hS
    · exact e.2.2
  obtain ⟨Q, rfl⟩ : ∃ Q : Nat, P = Q := ⟨P.toNat, by omega⟩
  obtain ⟨b, hb⟩ : ∃ b : Nat, S.2.1 = b := ⟨S.2.1.toNat, by omega⟩
  obtain ⟨u, hu⟩ : ∃ u : Nat, S.2.2 = u := ⟨S.2.2.toNat, by omega⟩
  have hbQ : b * Q ≤ 8192 := by
    have : (b : Int) * Q ≤ L * Q := Int.mul_le_mul_of_nonneg_right (by omega) (by omega)
    have e : ((b * Q : Nat) : Int) = (b : Int) * Q := by simp
    omega
  have hov : ovr Q S G ↔ ∃ o, o < u ∧ loc ((b * Q + o : Nat) : Int) G ≠ none := by
    constructor
    · rintro ⟨g, hg, p, hp, h0, h1, h2⟩
      obtain ⟨N, rfl⟩ : ∃ N : Nat, p = N := ⟨p.toNat, by omega⟩
      rw [div_mod.1, hb] at h1
      rw [div_mod.2, hu] at h2
      refine ⟨N % Q, by omega, fun hn => ?_⟩
      have e : b * Q + N % Q = N := by
        have : N / Q = b := by omega
        rw [← this, Nat.mul_comm]; exact Nat.div_add_mod N Q
      rw [e] at hn
      exact loc_none.1 hn g hg hp
    · rintro ⟨o, ho, hl⟩
      have : ¬ ∀ g ∈ G, ((b * Q + o : Nat) : Int) ∉ g.2 := fun k => hl (loc_none.2 k)
      simp only [Classical.not_forall, Classical.not_not] at this
      obtain ⟨g, hg, hp⟩ := this
      refine ⟨g, hg, _, hp, by omega, ?_, ?_⟩
      · rw [div_mod.1, hb, Nat.mul_comm, Nat.mul_add_div (by omega), Nat.div_eq_of_lt (by omega)]; simp
      · rw [div_mod.2, hu, Nat.mul_comm, Nat.mul_add_mod, Nat.mod_eq_of_lt (by omega)]; omega
  unfold m45
  simp only [hb, hu]
  have e0 : (b : Int) * (Q : Int) = ((b * Q : Nat) : Int) := by simp
  rw [e0, wrap64 (n := ((b * Q : Nat) : Int)) (by omega) (by omega)]
  refine Ok.bind (S := fun e => match e with | .inl _ => ¬ ovr Q S G | .inr v => v = true ∧ ovr Q S G) (Ok.loop u (fun i x => x = (i : Int) ∧ ∀ o, o < i → loc ((b * Q + o : Nat) : Int) G = none) ⟨rfl, fun o ho => by omega⟩ ?_) fun y hy => ?_
  · rintro i x hi ⟨rfl, hq⟩
    refine Ok.cond (fun hc => ?_) (fun hc => Ok.inr ?_)
    rotate_left
    · rw [hov]; exact fun ⟨o, ho, hl⟩ => hl (hq o (by omega))
    rw [show ((b * Q : Nat) : Int) + (i : Int) = ((b * Q + i : Nat) : Int) by simp, wrap64 (n := ((b * Q + i : Nat) : Int)) (by omega) (by omega), m75_ok _ (by omega) (fun g hg => by have := hel g hg; omega), wrap64 (n := (i : Int) + 1) (by omega) (by omega)]
    simp only [Option.bind_some]
    unfold whl
    cases hl : loc ((b * Q + i : Nat) : Int) G with
    | none =>
      refine Ok.condb (fun h => by simp at h) (fun _ => Ok.inl ⟨by omega, by omega, fun o ho => ?_⟩)
      by_cases e : o = i
      · subst e; exact hl
      · exact hq o (by omega)
    | some p =>
      exact Ok.condb (fun _ => Ok.inr ⟨rfl, hov.2 ⟨i, by omega, by rw [hl]; simp⟩⟩) (fun h => by simp at h)
  · refine Ok.elim (fun v e => ?_) (fun v e => ?_)
    · subst e; exact Ok.some ⟨fun h => by simp at h, fun h => absurd h hy⟩
    · subst e; exact Ok.some ⟨fun _ => hy.2, fun _ => hy.1⟩
end

def fstp : List Int → Option Int
  | [] => none
  | p :: l => if 0 ≤ p then some p else fstp l

def randW (P K : Int) (G : List Log) : Int × Int :=
  if room P G = true then (2, 0) else if (G.length : Int) < K then (4, 0) else match fstp (G.getD 0 (0, [])).2 with
    | some p => (8, Int.tdiv p P)
    | none => (9, 0)

section
open Classical
variable (P L K : Int) (D : List Int) (H : List Bool) (S : Int × (Int × Int)) (G : List Log)

noncomputable def seqW (b : Int) : Int × Int :=
  if S.1 < 0 then (3, b) else if S.2.1 = b ∧ S.2.2 = 0 then (1, b) else if ovr P S G then (7, S.2.1) else if S.2.2 < P then (6, S.2.1) else (5, S.2.1)

noncomputable def wantS (n : Int) : (Int × Int) × (Int × Unit) :=
  if ¬ Good P L K D H S G then ((0, 0), (50, ()))
  else if ¬ (0 ≤ n ∧ n < H.length) then ((0, 0), (1, ()))
  else if Int.tmod n P = 0 then (seqW P S G (Int.tdiv n P), (0, ()))
  else if 0 ≤ S.1 ∧ S.2.1 = Int.tdiv n P ∧ S.2.2 = Int.tmod n P then ((1, Int.tdiv n P), (0, ()))
  else (randW P K G, (0, ()))
end

section
variable {P L K : Int} {D : List Int} {H : List Bool} {S : Int × (Int × Int)} {G : List Log}

open Classical in
theorem m41_spec (h : Good P L K D H S G) (b : Int) : m41 ((P, (L, (K, (D, (H, (S, G)))))), (b, ())) = some (seqW P S G b, ()) := by
  apply ok_eq
  unfold m41 seqW
  simp only [show decide ((3 : Int) = 5) = false from rfl, show decide ((3 : Int) = 6) = false from rfl, show decide ((3 : Int) = 7) = false from rfl, show decide ((1 : Int) = 5) = false from rfl, show decide ((1 : Int) = 6) = false from rfl, show decide ((1 : Int) = 7) = false from rfl,
    show decide ((7 : Int) = 5) = false from rfl, show decide ((7 : Int) = 6) = false from rfl, show decide ((7 : Int) = 7) = true from rfl, show decide ((6 : Int) = 5) = false from rfl, show decide ((6 : Int) = 6) = true from rfl, show decide ((5 : Int) = 5) = true from rfl, cond_true, cond_false]
  have tail : ¬ S.1 < 0 → ¬ (S.2.1 = b ∧ S.2.2 = 0) → Ok (Option.bind (m62 ((P, (L, (K, (D, (H, (S, G)))))), ())) fun (y1 : (Bool × Unit)) =>
      bif y1.1 then some (((7 : Int), S.2.1), ()) else (bif decide (S.2.2 < P) then some (((6 : Int), S.2.1), ()) else some (((5 : Int), S.2.1), ()))) (fun r => r = (if S.1 < 0 then (3, b) else if S.2.1 = b ∧ S.2.2 = 0 then (1, b) else if ovr P S G then (7, S.2.1) else if S.2.2 < P then (6, S.2.1) else (5, S.2.1), ())) := by
    intro h1 h2
    refine Ok.bind (m62_ok h) fun y hy => ?_
    rw [if_neg h1, if_neg h2]
    refine Ok.condb (fun a => Ok.some ?_) (fun a => ?_)
    · rw [if_pos (hy.1 a)]
    · rw [if_neg (fun g => by rw [hy.2 g] at a; simp at a)]
      refine Ok.cond (fun c => Ok.some ?_) (fun c => Ok.some ?_)
      · rw [if_pos c]
      · rw [if_neg c]
  refine Ok.cond (fun a => Ok.some ?_) (fun a => Ok.cond (fun c => Ok.cond (fun d => Ok.some ?_) (fun d => tail a fun g => d g.2)) (fun c => tail a fun g => c g.1))
  · rw [if_pos a]
  · rw [if_neg a, if_pos ⟨c, d⟩]

theorem fstp_drop {l : List Int} {j : Nat} (hj : j < l.length) : fstp (l.drop j) = if 0 ≤ l.getD j 0 then some (l.getD j 0) else fstp (l.drop (j + 1)) := by
  rw [getD_cons_drop (z := 0) hj]; rfl

theorem m42_spec (h : Good P L K D H S G) : m42 ((P, (L, (K, (D, (H, (S, G)))))), ()) = some (randW P K G, ()) := by
  apply ok_eq
  obtain ⟨s1, s2, s3, s4⟩ := h.sz
  obtain ⟨p1, p2, p3, p4, p5, p6⟩ := h.li.sh
  unfold m42 randW
  rw [m49_eq P L K D H S G (by omega)]
  simp only [Option.bind_some]
  refine Ok.condb (fun a => Ok.some ?_) (fun a => ?_)
  · rw [if_pos a]
  rw [if_neg (fun g => by rw [g] at a; simp at a)]
  refine Ok.cond (fun c => Ok.some ?_) (fun c => ?_)
  · rw [if_pos c]
  rw [if_neg c]
  have hpos : 0 < G.length := by omega
  refine Ok.gd (by omega) ?_
  simp only [Int.toNat_zero]
  obtain ⟨g, hgd⟩ : ∃ g, g = G.getD 0 (0, []) := ⟨_, rfl⟩
  have hgm : g ∈ G := hgd ▸ getD_mem hpos
  have hgl := h.el g hgm
  have hgp := h.pages g hgm
  simp only [← hgd]
  refine Ok.bind (S := fun e => match e with | .inl _ => fstp g.2 = none | .inr v => ∃ p, fstp g.2 = some p ∧ v = (8, Int.tdiv p P)) (Ok.loop g.2.length (fun j x => x.1 = (j : Int) ∧ fstp g.2 = fstp (g.2.drop j)) ⟨rfl, by simp⟩ ?_) fun y hy => ?_
  · rintro j ⟨x1, x2⟩ hj ⟨hx, hr⟩
    simp only at hx hr
    subst hx
    refine Ok.cond (fun hc => ?_) (fun hc => Ok.inr (by simp only at hc; rw [hr, List.drop_of_length_le (by omega)]; rfl))
    simp only [Int.toNat_natCast] at hc ⊢
    have hj' : j < g.2.length := by omega
    rw [wrap64 (n := (j : Int) + 1) (by omega) (by omega)]
    rw [fstp_drop hj'] at hr
    have hb := hgp _ (getD_mem (z := 0) hj')
    refine Ok.gd (by omega) (Ok.gd (by omega) ?_)
    refine Ok.cond (fun a => Ok.ite (fun e => by omega) (fun _ => Ok.inr ?_)) (fun a => Ok.inl ⟨hj', by simp, ?_⟩)
    · rw [if_pos a] at hr
      exact ⟨_, hr, by rw [tdiv_ok a hb.2 p1]⟩
    · rw [if_neg (by simpa using a)] at hr; exact hr
  · refine Ok.elim (fun v e => ?_) (fun v e => ?_)
    · subst e
      have hy : fstp g.2 = none := hy
      rw [hy]; exact Ok.some rfl
    · subst e
      obtain ⟨p, h1, h2⟩ := hy
      rw [h1]; exact Ok.some (by rw [h2])

theorem m13_spec (n : Int) : m13 ((P, (L, (K, (D, (H, (S, G)))))), (n, ())) = some (wantS P L K D H S G n) := by
  apply ok_eq
  unfold m13 wantS
  by_cases h : Good P L K D H S G
  rotate_left
  · rw [m25_bad h]
    simp only [Option.bind_some]
    refine Ok.ncond (fun _ => Ok.some ?_) (fun h1 => by simp at h1)
    rw [if_pos h]
  rw [m25_good h, if_neg (Classical.not_not.2 h)]
  simp only [Option.bind_some]
  obtain ⟨s1, s2, s3, s4⟩ := h.sz
  obtain ⟨p1, p2, p3, p4, p5, p6⟩ := h.li.sh
  refine Ok.ncond (fun h1 => absurd trivial h1) (fun _ => ?_)
  rw [wrap64 (n := ((H.length : Nat) : Int) - 1) (by omega) (by omega), m40_eq]
  simp only [Option.bind_some]
  refine Ok.ncond (fun h1 => Ok.some ?_) (fun h1 => ?_)
  · rw [if_pos (fun g => h1 (by omega))]
  rw [if_neg (Classical.not_not.2 ⟨h1.1, by omega⟩)]
  refine Ok.ite (fun e => by have e : P = 0 := e; omega) (fun _ => Ok.ite (fun e => by have e : P = 0 := e; omega) (fun _ => ?_))
  rw [tdiv_ok h1.1 (by omega) p1, m41_spec h, m42_spec h]
  simp only [Option.bind_some]
  refine Ok.cond (fun a => Ok.some ?_) (fun a => ?_)
  · rw [if_pos a]
  rw [if_neg a]
  refine Ok.cond (fun b => Ok.cond (fun c => Ok.cond (fun d => Ok.some ?_) (fun d => Ok.some ?_)) (fun c => Ok.some ?_)) (fun b => Ok.some ?_)
  · rw [if_pos ⟨b, c, d⟩]
  · rw [if_neg (fun g => d g.2.2)]
  · rw [if_neg (fun g => c g.2.1)]
  · rw [if_neg (fun g => b g.1)]

end

theorem m51_same (l : List Int) (hl : l.length ≤ 4000000000000000000) : m51 (l, (l, ())) = some (true, ()) := by
  apply ok_eq
  unfold m51
  refine Ok.ncond (fun h => absurd rfl h) (fun _ => ?_)
  refine Ok.bind (S := fun e => match e with | .inl _ => True | .inr _ => False) (Ok.loop l.length (fun i x => x = (i : Int)) rfl ?_) fun y hy => ?_
  · rintro i x hi rfl
    refine Ok.cond (fun hc => ?_) (fun hc => Ok.inr trivial)
    simp only at hc
    rw [wrap64 (n := (i : Int) + 1) (by omega) (by omega)]
    refine Ok.gd (by omega) (Ok.gd (by omega) (Ok.gd (by omega) (Ok.gd (by omega) ?_)))
    exact Ok.ncond (fun h => absurd rfl h) (fun _ => Ok.inl ⟨by omega, by omega⟩)
  · refine Ok.elim (fun v e => ?_) (fun v e => ?_)
    · exact Ok.some rfl
    · subst e; exact hy.elim

theorem m17_same (P L K : Int) (D : List Int) (H : List Bool) (S : Int × (Int × Int)) (G : List Log) (hD : D.length ≤ 4000000000000000000) (hH : H.length ≤ 4000000000000000000) (hG : G.length ≤ 4000000000000000000) (hg : ∀ i, i < G.length → (G.getD i (0, [])).2.length ≤ 4000000000000000000) :
    m17 ((P, (L, (K, (D, (H, (S, G)))))), ((P, (L, (K, (D, (H, (S, G)))))), ())) = some (true, ()) := by
  apply ok_eq
  unfold m17
  refine Ok.ncond (fun h => absurd rfl h) (fun _ => Ok.ncond (fun h => absurd rfl h) (fun _ => Ok.ncond (fun h => absurd rfl h) (fun _ => ?_)))
  refine Ok.condb (fun h => by simp at h) (fun _ => ?_)
  simp only
  rw [m51_same D hD]
  simp only [Option.bind_some]
  refine Ok.condb (fun h => by simp at h) (fun _ => ?_)
  refine Ok.ncond (fun h => by simp at h) (fun _ => Ok.ncond (fun h => by simp at h) (fun _ => ?_))
  refine Ok.bind (S := fun e => match e with | .inl _ => True | .inr _ => False) (Ok.loop H.length (fun i x => x = (i : Int)) rfl ?_) fun y hy => ?_
  · rintro i x hi rfl
    refine Ok.cond (fun hc => ?_) (fun hc => Ok.inr trivial)
    rw [wrap64 (n := (i : Int) + 1) (by omega) (by omega)]
    refine Ok.gd (by omega) (Ok.gd (by omega) (Ok.gd (by omega) (Ok.gd (by omega) ?_)))
    refine Ok.condb (fun h => ?_) (fun _ => Ok.inl ⟨by omega, by omega⟩)
    cases hh : H.getD (Int.toNat (i : Int)) false <;> rw [hh] at h <;> simp at h
  · refine Ok.elim (fun v e => ?_) (fun v e => by subst e; exact hy.elim)
    refine Ok.bind (S := fun e => match e with | .inl _ => True | .inr _ => False) (Ok.loop G.length (fun i x => x = (i : Int)) rfl ?_) fun y hy => ?_
    · rintro i x hi rfl
      refine Ok.cond (fun hc => ?_) (fun hc => Ok.inr trivial)
      simp only [Int.toNat_natCast] at hc ⊢
      rw [wrap64 (n := (i : Int) + 1) (by omega) (by omega)]
      refine Ok.gd (by omega) (Ok.gd (by omega) (Ok.gd (by omega) (Ok.gd (by omega) ?_)))
      refine Ok.ncond (fun h => by simp at h) (fun _ => ?_)
      refine Ok.gd (by omega) (Ok.gd (by omega) (Ok.gd (by omega) (Ok.gd (by omega) ?_)))
      rw [m51_same _ (hg i (by omega))]
      simp only [Option.bind_some]
      exact Ok.condb (fun h => by simp at h) (fun _ => Ok.inl ⟨by omega, by omega⟩)
    · refine Ok.elim (fun v e => Ok.some rfl) (fun v e => by subst e; exact hy.elim)
end Go.Proofs.Ytecadglgkhfaaaa
end

section
namespace Go.Proofs.Ytecadglgkhfaaaa
open Go Go.Proofs.AM

section
variable {P L K : Int} {D : List Int} {H : List Bool} {S : Int × (Int × Int)} {G : List Log}

theorem good_openSeq (h : Good P L K D H S G) {ph b : Int} (hS : S.1 < 0) (h0 : 0 ≤ b) (h1 : b < L) (hf : fresh D S G ph) : Good P L K D H (ph, (b, 0)) G := by
  obtain ⟨p1, p2, p3, p4, p5, p6⟩ := h.li.sh
  refine ⟨⟨h.li.sh, h.li.dl, h.li.hl, h.li.gl, h.li.lg, .inr ⟨hf.1, hf.2.1, h0, h1, by simp, by simp only; omega⟩⟩, h.d1, h.hd, ?_, h.np⟩
  have hb := h.nb
  have hn := hf.2.2
  unfold blocks at hn
  rw [List.cons_append, posi_cons, if_neg (by omega)] at hb hn
  rw [List.cons_append, posi_cons, if_pos hf.1]
  exact List.nodup_cons.2 ⟨hn, hb⟩

theorem flatMap_fgc (c : Int → Bool) : ∀ G : List Log, (G.map (fgc c)).flatMap (·.2) = (G.flatMap (·.2)).map (fun p => if c p = true then -1 else p)
  | [] => rfl
  | g :: G => by
    rw [List.map_cons, List.flatMap_cons, List.flatMap_cons, List.map_append, flatMap_fgc c G]; rfl

theorem posi_map_sub (c : Int → Bool) : ∀ l : List Int, (posi (l.map (fun p => if c p = true then -1 else p))).Sublist (posi l)
  | [] => List.Sublist.refl _
  | x :: l => by
    rw [List.map_cons, posi_cons, posi_cons]
    have ih := posi_map_sub c l
    by_cases h : c x = true
    · rw [if_pos h, if_neg (by simp)]
      split
      · exact List.Sublist.cons _ ih
      · exact ih
    · rw [if_neg h]
      split
      · exact List.Sublist.cons_cons _ ih
      · exact ih

theorem getD_map {A B : Type} (F : A → B) {l : List A} {j : Nat} {z : B} {y : A} (h : j < l.length) : (l.map F).getD j z = F (l.getD j y) := by
  simp only [List.getD_eq_getElem?_getD, List.getElem?_map, List.getElem?_eq_getElem h, Option.map_some, Option.getD_some]

theorem good_forget (c : Int → Bool) (h : Good P L K D H S G) : Good P L K D H S (G.map (fgc c)) := by
  have hm := shape_mul h.li.sh
  have hfst : (G.map (fgc c)).map (·.1) = G.map (·.1) := by rw [List.map_map]; rfl
  refine ⟨⟨h.li.sh, h.li.dl, h.li.hl, by simpa using h.li.gl, fun i hi => ?_, h.li.sq⟩, h.d1, h.hd, by rw [hfst]; exact h.nb, ?_⟩
  · rw [List.length_map] at hi ⊢
    have k := h.li.lg i hi
    have e : (G.map (fgc c)).getD i (0, []) = fgc c (G.getD i (0, [])) := by
      simp only [List.getD_eq_getElem?_getD, List.getElem?_map, List.getElem?_eq_getElem hi, Option.map_some, Option.getD_some]
    rw [e]
    refine ⟨k.p0, k.p1, by simpa [fgc] using k.le, fun h2 => by simpa [fgc] using k.eq h2, fun j hj => ?_⟩
    have hj' : j < (G.getD i (0, [])).2.length := by simpa [fgc] using hj
    have hp := k.pg j hj'
    have e2 : (fgc c (G.getD i (0, []))).2.getD j 0 = if c ((G.getD i (0, [])).2.getD j 0) = true then -1 else (G.getD i (0, [])).2.getD j 0 := by
      exact getD_map _ hj'
    rw [e2]
    split
    · omega
    · exact hp
  · rw [flatMap_fgc]
    exact (posi_map_sub c _).nodup h.np

theorem good_putSeq (h : Good P L K D H S G) (hS : 0 ≤ S.1) (hu : S.2.2 < P) : Good P L K D H (S.1, (S.2.1, S.2.2 + 1)) G := by
  refine ⟨⟨h.li.sh, h.li.dl, h.li.hl, h.li.gl, h.li.lg, ?_⟩, h.d1, h.hd, h.nb, h.np⟩
  rcases h.li.sq with e | e
  · rw [e] at hS; simp at hS
  · exact .inr ⟨e.1, e.2.1, e.2.2.1, e.2.2.2.1, by simp only; omega, by simp only; omega⟩

theorem good_drop {g : Log} (h : Good P L K D H S (g :: G)) : Good P L K D H S G := by
  have hgl := h.li.gl
  simp only [List.length_cons] at hgl
  refine ⟨⟨h.li.sh, h.li.dl, h.li.hl, by omega, fun i hi => ?_, h.li.sq⟩, h.d1, h.hd, ?_, ?_⟩
  · have k := h.li.lg (i + 1) (by simp; omega)
    have e : (g :: G).getD (i + 1) (0, []) = G.getD i (0, []) := rfl
    rw [e, List.length_cons] at k
    exact ⟨k.p0, k.p1, k.le, fun h2 => k.eq (by omega), k.pg⟩
  · refine List.Sublist.nodup (List.Sublist.filter _ ?_) h.nb
    exact List.Sublist.append (List.Sublist.refl _) (List.sublist_cons_self _ _)
  · have := h.np
    rw [List.flatMap_cons, posi_app] at this
    exact (List.nodup_append.1 this).2.1
end

section
open Classical
variable (P L K : Int) (D : List Int) (H : List Bool) (S : Int × (Int × Int)) (G : List Log)

noncomputable def dropS : Tab × (Int × (Int × Unit)) :=
  if ¬ Good P L K D H S G then (zeroT, (0, (50, ())))
  else match G with
    | [] => (zeroT, (0, (51, ())))
    | g :: G' => if ∃ p ∈ g.2, 0 ≤ p then (zeroT, (0, (51, ()))) else ((P, (L, (K, (D, (H, (S, G')))))), (g.1, (0, ())))
end

section
variable {P L K : Int} {D : List Int} {H : List Bool} {S : Int × (Int × Int)} {G : List Log}

theorem m24_spec : m24 ((P, (L, (K, (D, (H, (S, G)))))), ()) = some (dropS P L K D H S G) := by
  apply ok_eq
  unfold m24
  unfold dropS
  by_cases h : Good P L K D H S G
  rotate_left
  · rw [m25_bad h]
    simp only [Option.bind_some]
    refine Ok.ncond (fun _ => Ok.some ?_) (fun h1 => by simp at h1)
    rw [if_pos h]; rfl
  rw [m25_good h, if_neg (Classical.not_not.2 h)]
  simp only [Option.bind_some]
  obtain ⟨s1, s2, s3, s4⟩ := h.sz
  refine Ok.ncond (fun h1 => absurd trivial h1) (fun _ => ?_)
  cases G with
  | nil => exact Ok.cond (fun _ => Ok.some rfl) (fun h => by simp at h)
  | cons g G =>
    refine Ok.cond (fun h => by simp at h; omega) (fun _ => ?_)
    simp only [List.length_cons] at s3
    refine Ok.gd (by simp only [List.length_cons]; omega) ?_
    rw [clo_eq P L K D H S (g :: G) (by simp; omega) (fun i hi => by have := s4 i hi; omega)]
    have e0 : (g :: G).getD (Int.toNat 0) (0, []) = g := rfl
    simp only [e0, Option.bind_some]
    have hgl := h.el g (by simp)
    refine Ok.bind (S := fun e => match e with | .inl _ => ¬ ∃ p ∈ g.2, 0 ≤ p | .inr v => 0 ≤ v ∧ ∃ p ∈ g.2, 0 ≤ p) (Ok.loop g.2.length (fun j x => x = (j : Int) ∧ ∀ k, k < j → g.2.getD k 0 < 0) ⟨rfl, fun k hk => by omega⟩ ?_) fun y hy => ?_
    · rintro j x hj ⟨rfl, hr⟩
      refine Ok.cond (fun hc => ?_) (fun hc => Ok.inr ?_)
      rotate_left
      · rintro ⟨p, hp, h0⟩
        obtain ⟨k, hk, e⟩ := List.getElem_of_mem hp
        have := hr k (by omega)
        rw [List.getD_eq_getElem?_getD, List.getElem?_eq_getElem hk, Option.getD_some] at this
        omega
      simp only [Int.toNat_natCast] at hc ⊢
      rw [wrap64 (n := (j : Int) + 1) (by omega) (by omega)]
      refine Ok.gd (by omega) (Ok.gd (by omega) ?_)
      refine Ok.cond (fun a => Ok.inr ⟨by omega, _, getD_mem (by omega), a⟩) (fun a => Ok.inl ⟨by omega, by omega, fun k hk => ?_⟩)
      by_cases e : k = j
      · subst e; omega
      · exact hr k (by omega)
    · refine Ok.elim (fun v e => ?_) (fun v e => ?_)
      · subst e
        have hy : ¬ ∃ p ∈ g.2, 0 ≤ p := hy
        rw [if_neg hy]
        refine Ok.cond (fun h => by omega) (fun _ => ?_)
        refine Ok.gd (by omega) (Ok.gd (by omega) (Ok.gd (by omega) (Ok.gd (by omega) (Ok.gd (by omega) (Ok.gd (by omega) ?_)))))
        refine Ok.gd (by simp only [List.length_cons]; omega) (Ok.gd (by simp) (Ok.gd (by simp only [List.length_cons]; omega) (Ok.gd (by omega) (Ok.some ?_))))
        have e1 : List.take ((Int.toNat (((g :: G).length : Nat) : Int)) - (Int.toNat 1)) (List.drop (Int.toNat 1) (g :: G)) = G := by
          show List.take ((g :: G).length - 1) G = G
          simp
        rw [e1]
        rfl
      · subst e
        refine Ok.cond (fun _ => Ok.some ?_) (fun h => absurd hy.1 h)
        rw [if_pos hy.2]; rfl
end

section
variable {Q : Nat} {L K : Int} {D : List Int} {H : List Bool} {S : Int × (Int × Int)} {G : List Log}

end

theorem live_ok : m10 () = some (true, ()) := by
  have sh : shape 4 2 1 := ⟨by omega, by omega, by omega, by omega, by omega, by omega⟩
  have g0 : Good 4 2 1 [-1, -1] [false, false, false, false, false, false, false, false] (-1, (0, 0)) [] := newT_good sh
  have e0 : newT 4 2 1 = (4, (2, (1, ([-1, -1], ([false, false, false, false, false, false, false, false], ((-1, (0, 0)), [])))))) := rfl
  have w : wantS 4 2 1 [-1, -1] [false, false, false, false, false, false, false, false] (-1, (0, 0)) [] 0 = ((3, 0), (0, ())) := by
    unfold wantS seqW
    rw [if_neg (Classical.not_not.2 g0), if_neg (by simp), if_pos (by rfl), if_pos (by simp)]; rfl
  have f : fresh [-1, -1] (-1, (0, 0)) [] 7 := ⟨by omega, by omega, by simp [blocks, posi]⟩
  have o : openS 4 2 1 [-1, -1] [false, false, false, false, false, false, false, false] (-1, (0, 0)) [] (3, 0) 7 = ((4, (2, (1, ([-1, -1], ([false, false, false, false, false, false, false, false], ((7, (0, 0)), [])))))), (0, ())) := by
    unfold openS
    rw [if_neg (Classical.not_not.2 g0), if_neg (Classical.not_not.2 f), if_pos (by simp)]
  have g1 : Good 4 2 1 [-1, -1] [false, false, false, false, false, false, false, false] (7, (0, 0)) [] := good_openSeq g0 (by simp) (by omega) (by omega) f
  have p : putS 4 2 1 [-1, -1] [false, false, false, false, false, false, false, false] (7, (0, 0)) [] (1, 0) 0 = ((4, (2, (1, ([-1, -1], ([false, false, false, false, false, false, false, false], ((7, (0, 1)), [])))))), ((7, 0), (0, ()))) := by
    unfold putS
    rw [if_neg (Classical.not_not.2 g1), if_neg (by simp), if_pos (by simp)]; rfl
  have g2 : Good ((4 : Nat) : Int) 2 1 [-1, -1] [false, false, false, false, false, false, false, false] (7, (0, 1)) [] := good_putSeq g1 (by simp) (by simp)
  have v := m22_good g2 0 (by simp)
  have v' : m22 (((4 : Int), ((2 : Int), ((1 : Int), ([-1, -1], ([false, false, false, false, false, false, false, false], ((7, (0, 1)), [])))))), ((0 : Int), ())) = some ((7, 0), (true, ())) := by
    refine Eq.trans v ?_
    unfold wh
    rw [show loc ((0 : Nat) : Int) [] = none from rfl]
    simp
  unfold m10
  rw [m30_yes sh]
  simp only [Option.bind_some, e0]
  rw [m13_spec, w]
  simp only [Option.bind_some]
  rw [m15_spec, o]
  simp only [Option.bind_some]
  rw [m18_spec, p]
  simp only [Option.bind_some]
  rw [v']
  rfl
end Go.Proofs.Ytecadglgkhfaaaa
end

section
open Go Go.Proofs.AM
namespace Go.Proofs.Ytecadglgkhfaaaa

noncomputable def m27 (x : tT × tT × Int × Int × Unit) : Option (Bool × Unit) :=
 Option.bind (loopM (X := Int) (E := (Unit ⊕ Bool)) (fun (x1 : Int) =>
 bif (decide (x1 < x.1.1)) then
 (Option.bind (m22 (x.1, ((Go.IntKind.wrap .i64 ((Go.IntKind.wrap .i64 (x.2.2.1 * x.1.1)) + x1)), ()))) fun (y2 : ((Int × Int) × (Bool × Unit))) =>
 Option.bind (m22 (x.2.1, ((Go.IntKind.wrap .i64 ((Go.IntKind.wrap .i64 (x.2.2.1 * x.1.1)) + x1)), ()))) fun (y3 : ((Int × Int) × (Bool × Unit))) =>
 bif (!(bif y2.2.1 then y3.2.1 else (!y3.2.1))) then
 (some (Sum.inr (Sum.inr false)))
 else
 (bif y3.2.1 then
 (bif (!((decide (y3.1.1 = x.2.2.2.1)) && (decide (y3.1.2 = x1)))) then
 (some (Sum.inr (Sum.inr false)))
 else
 (some (Sum.inl (Go.IntKind.wrap .i64 (x1 + (1 : Int))))))
 else
 (some (Sum.inl (Go.IntKind.wrap .i64 (x1 + (1 : Int)))))))
 else
 (some (Sum.inr (Sum.inl ())))) (0 : Int)) fun (y1 : (Unit ⊕ Bool)) =>
 Sum.elim (fun y2 =>
 Option.bind (m23 (x.1, (x.2.1, ((Go.IntKind.wrap .i64 (x.2.2.1 * x.1.1)), ((Go.IntKind.wrap .i64 ((Go.IntKind.wrap .i64 (x.2.2.1 * x.1.1)) + x.1.1)), ()))))) fun (y3 : (Bool × Unit)) =>
 some (y3.1, ())) (fun y2 =>
 some (y2, ())) y1

noncomputable def r27 : PDen [(true, kT), (true, kT), (false, (.int .i64)), (false, (.int .i64))] → Option (PDen [(false, .bool)]) := fun x => afun Try.prog ({ envOf [(22, ⟨[(true, kT), (false, (.int .i64))], [(true, (.pair (.int .i64) (.int .i64))), (false, .bool)], false, m22⟩), (23, ⟨[(true, kT), (true, kT), (false, (.int .i64)), (false, (.int .i64))], [(false, .bool)], false, m23⟩)] [] [] [] with deep := [79] }) ⟨[(0, ⟨[.slot 21 (.d false (.int .i64) true)], [], [(some 0, []), (none, [.slot 8 (.d false .bool true)])], none⟩)], []⟩ Try.f27 [(true, kT), (true, kT), (false, (.int .i64)), (false, (.int .i64))] [(false, .bool)] false x
theorem r27_eq : r27 = m27 := by kernel_rfl

theorem c27 : CS.Sound Try.prog 27 ⟨[(true, kT), (true, kT), (false, (.int .i64)), (false, (.int .i64))], [(false, .bool)], false, m27⟩ := afun_sound' (Env.Sound.deepen (envOf_sound (CSs.cons c22 (CSs.cons c23 (CSs.nil))) (HDs.nil) (IDs.nil)) [79]) rfl Try.follows (f := 27) (fn := Try.f27) Try.func27 (by kernel_rfl) (by kernel_rfl) r27_eq
end Go.Proofs.Ytecadglgkhfaaaa
end

section
open Go Go.Proofs.AM
namespace Go.Proofs.Ytecadglgkhfaaaa

noncomputable def m5 (x : tT × Int × Int × Unit) : Option (Bool × Unit) :=
 Option.bind (m10 ()) fun (y1 : (Bool × Unit)) =>
 bif (!y1.1) then
 (some (false, ()))
 else
 (Option.bind (m11 (x.1, ())) fun (y2 : (Bool × Unit)) =>
 bif (!y2.1) then
 (some (true, ()))
 else
 (Option.bind (m25 (x.1, ())) fun (y3 : (Int × Unit)) =>
 bif (!(decide (y3.1 = (0 : Int)))) then
 (some (true, ()))
 else
 (Option.bind (m26 (x.1, (x.2.1, (x.2.2.1, ())))) fun (y4 : (tT × ((List Int) × (Int × Unit)))) =>
 bif (decide (y4.2.2.1 = (0 : Int))) then
 (Option.bind (m27 (x.1, (y4.1, (x.2.1, (x.2.2.1, ()))))) fun (y5 : (Bool × Unit)) =>
 bif (!y5.1) then
 (some (false, ()))
 else
 (Option.bind (m28 (x.1, ())) fun (y6 : (tT × ((List Int) × (Int × Unit)))) =>
 bif (!(decide (y6.2.2.1 = (0 : Int)))) then
 (some (true, ()))
 else
 (Option.bind (m27 (x.1, (y6.1, (x.1.2.2.2.2.2.1.2.1, (x.1.2.2.2.2.2.1.1, ()))))) fun (y7 : (Bool × Unit)) =>
 some (y7.1, ()))))
 else
 (Option.bind (m28 (x.1, ())) fun (y5 : (tT × ((List Int) × (Int × Unit)))) =>
 bif (!(decide (y5.2.2.1 = (0 : Int)))) then
 (some (true, ()))
 else
 (Option.bind (m27 (x.1, (y5.1, (x.1.2.2.2.2.2.1.2.1, (x.1.2.2.2.2.2.1.1, ()))))) fun (y6 : (Bool × Unit)) =>
 some (y6.1, ()))))))

noncomputable def r5 : PDen [(true, kT), (false, (.int .i64)), (false, (.int .i64))] → Option (PDen [(false, .bool)]) := fun x => afun Try.prog ({ envOf [(10, ⟨[], [(false, .bool)], false, m10⟩), (11, ⟨[(true, kT)], [(false, .bool)], false, m11⟩), (25, ⟨[(true, kT)], [(false, (.int .i64))], false, m25⟩), (26, ⟨[(true, kT), (false, (.int .i64)), (false, (.int .i64))], [(true, kT), (false, (.sl (.int .i64))), (false, (.int .i64))], false, m26⟩), (27, ⟨[(true, kT), (true, kT), (false, (.int .i64)), (false, (.int .i64))], [(false, .bool)], false, m27⟩), (28, ⟨[(true, kT)], [(true, kT), (false, (.sl (.int .i64))), (false, (.int .i64))], false, m28⟩)] [] [] [] with deep := [79] }) ⟨[], []⟩ Try.f5 [(true, kT), (false, (.int .i64)), (false, (.int .i64))] [(false, .bool)] false x
theorem r5_eq : r5 = m5 := by kernel_rfl

theorem c5 : CS.Sound Try.prog 5 ⟨[(true, kT), (false, (.int .i64)), (false, (.int .i64))], [(false, .bool)], false, m5⟩ := afun_sound' (Env.Sound.deepen (envOf_sound (CSs.cons c10 (CSs.cons c11 (CSs.cons c25 (CSs.cons c26 (CSs.cons c27 (CSs.cons c28 (CSs.nil))))))) (HDs.nil) (IDs.nil)) [79]) rfl Try.follows (f := 5) (fn := Try.f5) Try.func5 (by kernel_rfl) (by kernel_rfl) r5_eq
end Go.Proofs.Ytecadglgkhfaaaa
end

section
namespace Go.Proofs.Ytecadglgkhfaaaa
open Go Go.Proofs.AM

def inb (P b : Int) (p : Int) : Bool := decide (0 ≤ p ∧ Int.tdiv p P = b)

theorem m61f_eq (b P : Int) (hP : 4 ≤ P) (G : List Log) (hG : G.length ≤ 100) (hg : ∀ g ∈ G, g.2.length ≤ 32) (hp : ∀ g ∈ G, ∀ p ∈ g.2, p < 8192) : m61f b P G = some (G.map (fgc (inb P b))) := by
  unfold m61f
  refine outer_gen (inb P b) G _ (fun A g B hl hm => ?_) (fun X => ?_)
  rotate_left
  · simp only; rw [decide_eq_false (by omega)]; rfl
  have hgl := hg g hm
  have hgp := hp g hm
  simp only [Int.toNat_natCast]
  rw [decide_eq_true (show (A.length : Int) < (G.length : Int) by omega)]
  simp only [cond_true]
  rw [gd_pos (by omega), gd_pos (by omega), gd_pos (by simp)]
  rw [inner_genp (inb P b) A B g _ (fun j row hj hr hrow => ?_) (fun row hr => ?_)]
  · simp only [Option.bind_some]; rw [wrap64 (by omega) (by omega)]
  · simp only [Int.toNat_natCast, ith_mid, setIn_mid]
    rw [decide_eq_true (show (j : Int) < (g.2.length : Int) by omega)]
    simp only [cond_true]
    rw [gd_pos (by omega), gd_pos (by omega), gd_pos (by omega), wrap64 (n := (j : Int) + 1) (by omega) (by omega)]
    unfold inb
    simp only [Bool.cond_eq_ite, decide_eq_true_eq]
    have hlt : row.getD j 0 < 8192 := by rw [hrow]; exact hgp _ (getD_mem hj)
    have aux : ∀ v : Int, v < 8192 → (if v ≥ 0 then (if P = 0 then none else (if IntKind.wrap .i64 (Int.tdiv v P) = b then gd ((0 : Int) ≤ (j : Int)) (gd ((j : Int) < (row.length : Int)) (gd (j < row.length) (some (Sum.inl ((j : Int) + 1, A ++ (g.1, row.set j (-1)) :: B))))) else some (Sum.inl ((j : Int) + 1, A ++ (g.1, row) :: B)))) else some (Sum.inl ((j : Int) + 1, A ++ (g.1, row) :: B))) = (some (Sum.inl ((j : Int) + 1, A ++ (g.1, if 0 ≤ v ∧ Int.tdiv v P = b then row.set j (-1) else row) :: B)) : Option ((Int × List Log) ⊕ List Log)) := by
      intro v hv
      by_cases h0 : v ≥ 0
      · rw [if_pos h0, if_neg (by omega), tdiv_ok h0 hv hP]
        by_cases h1 : Int.tdiv v P = b
        · rw [if_pos h1, if_pos ⟨h0, h1⟩, gd_pos (by omega), gd_pos (by omega), gd_pos (by omega)]
        · rw [if_neg h1, if_neg (fun k => h1 k.2)]
      · rw [if_neg h0, if_neg (fun k => h0 k.1)]
    exact aux (row.getD j 0) hlt
  · simp only [Int.toNat_natCast, ith_mid]
    rw [decide_eq_false (by omega)]; rfl

def hv (Q : Nat) (D : List Int) (H : List Bool) (S : Int × (Int × Int)) (G : List Log) (b : Nat) : List Bool := (List.range Q).map fun o => (wh Q D H S G (b * Q + o)).2.1

def setH (Q : Nat) (D : List Int) (H : List Bool) (S : Int × (Int × Int)) (G : List Log) (b : Nat) : List Bool := H.take (b * Q) ++ hv Q D H S G b ++ H.drop (b * Q + Q)

open Classical in
noncomputable def setS (S : Int × (Int × Int)) (b : Nat) : Int × (Int × Int) := if 0 ≤ S.1 ∧ S.2.1 = (b : Int) then (-1, (0, 0)) else S

section
variable {Q : Nat} {L K : Int} {D : List Int} {H : List Bool} {S : Int × (Int × Int)} {G : List Log}

theorem hv_len (b : Nat) : (hv Q D H S G b).length = Q := by simp [hv]
theorem hv_get (b o : Nat) (ho : o < Q) : (hv Q D H S G b).getD o false = (wh Q D H S G (b * Q + o)).2.1 := by
  unfold hv
  rw [List.getD_eq_getElem?_getD, List.getElem?_map, List.getElem?_range ho]; rfl

theorem blk_le (h : Good Q L K D H S G) {b : Nat} (hb : (b : Int) < L) : b * Q + Q ≤ H.length ∧ H.length ≤ 8192 := by
  have hm := shape_mul h.li.sh
  have hl := h.li.hl
  have : ((b + 1 : Nat) : Int) * Q ≤ L * Q := Int.mul_le_mul_of_nonneg_right (by omega) (by omega)
  have e : (((b + 1) * Q : Nat) : Int) = ((b + 1 : Nat) : Int) * Q := by simp
  have e2 : (b + 1) * Q = b * Q + Q := by rw [Nat.add_mul, Nat.one_mul]
  omega

theorem setH_len (h : Good Q L K D H S G) {b : Nat} (hb : (b : Int) < L) : (setH Q D H S G b).length = H.length := by
  have := blk_le h hb
  unfold setH
  simp only [List.length_append, List.length_take, List.length_drop, hv_len]
  omega

theorem setH_out (h : Good Q L K D H S G) {b : Nat} (hb : (b : Int) < L) {n : Nat} (hn : n < b * Q ∨ b * Q + Q ≤ n) : (setH Q D H S G b).getD n false = H.getD n false := by
  have hle := blk_le h hb
  unfold setH
  have l1 : (H.take (b * Q)).length = b * Q := by simp; omega
  simp only [List.getD_eq_getElem?_getD]
  rcases hn with hn | hn
  · rw [List.append_assoc, List.getElem?_append_left (by omega), List.getElem?_take_of_lt hn]
  · rw [List.getElem?_append_right (by rw [List.length_append, l1, hv_len]; omega), List.length_append, l1, hv_len, List.getElem?_drop]
    congr 2; omega

theorem div_out {b n : Nat} (hQ : 0 < Q) : n / Q ≠ b ↔ n < b * Q ∨ b * Q + Q ≤ n := by
  have h1 := Nat.div_add_mod n Q
  have h2 := Nat.mod_lt n hQ
  obtain ⟨q, hq⟩ : ∃ q, n / Q = q := ⟨_, rfl⟩
  rw [hq] at h1 ⊢
  rw [Nat.mul_comm] at h1
  constructor
  · intro h
    rcases Nat.lt_or_gt_of_ne h with g | g
    · left
      have : (q + 1) * Q ≤ b * Q := Nat.mul_le_mul_right Q g
      rw [Nat.add_mul, Nat.one_mul] at this; omega
    · right
      have : (b + 1) * Q ≤ q * Q := Nat.mul_le_mul_right Q g
      rw [Nat.add_mul, Nat.one_mul] at this; omega
  · rintro h rfl
    omega

theorem good_settle (h : Good Q L K D H S G) {b : Nat} (hb : (b : Int) < L) {ph : Int} (h0 : 0 ≤ ph) (h1 : ph ≤ 255) (hn : ph ∉ posi ((setS S b).1 :: (D.take b ++ D.drop (b + 1)) ++ G.map (·.1))) :
    Good Q L K (D.set b ph) (setH Q D H S G b) (setS S b) (G.map (fgc (inb Q b))) := by
  have hf := good_forget (inb Q b) h
  have hDl := h.li.dl
  have hbD : b < D.length := by omega
  have hQ : 0 < Q := by have := h.li.sh.1; omega
  have hS : (setS S b).1 = -1 ∨ (setS S b).1 = S.1 := by
    unfold setS; split
    · exact .inl rfl
    · exact .inr rfl
  refine ⟨⟨h.li.sh, by rw [List.length_set]; exact hDl, by rw [setH_len h hb]; exact h.li.hl, hf.li.gl, hf.li.lg, ?_⟩, fun i hi => ?_, fun p hp hv => ?_, ?_, hf.np⟩
  · unfold setS; split
    · exact .inl rfl
    · exact h.li.sq
  · rw [List.length_set] at hi
    rw [getD_set _ _ _ _ _ hbD]
    split
    · omega
    · exact h.d1 i hi
  · rw [setH_len h hb] at hp
    simp only [Int.toNat_natCast]
    rw [getD_set _ _ _ _ _ hbD]
    by_cases e : b = p / Q
    · rw [if_pos e]; exact h0
    · rw [if_neg e]
      rw [setH_out h hb ((div_out hQ).1 (fun g => e g.symm))] at hv
      have := h.hd p hp hv
      simpa using this
  · have hfst : (G.map (fgc (inb Q b))).map (·.1) = G.map (·.1) := by rw [List.map_map]; rfl
    rw [hfst]
    have e1 : D.set b ph = D.take b ++ ph :: D.drop (b + 1) := by rw [List.set_eq_take_append_cons_drop, if_pos hbD]
    have e2 : D = D.take b ++ D.getD b 0 :: D.drop (b + 1) := by
      rw [← getD_cons_drop hbD, List.take_append_drop]
    have hp : (posi ((setS S b).1 :: D.set b ph ++ G.map (·.1))).Perm (ph :: posi ((setS S b).1 :: (D.take b ++ D.drop (b + 1)) ++ G.map (·.1))) := by
      have : ((setS S b).1 :: D.set b ph ++ G.map (·.1)).Perm (ph :: ((setS S b).1 :: (D.take b ++ D.drop (b + 1)) ++ G.map (·.1))) := by
        rw [e1]
        simp only [List.cons_append, List.append_assoc]
        refine List.Perm.trans (List.Perm.cons _ List.perm_middle) ?_
        exact List.Perm.swap _ _ _
      have := posi_perm this
      rw [posi_cons, if_pos h0] at this
      exact this
    rw [hp.nodup_iff, List.nodup_cons]
    refine ⟨hn, ?_⟩
    have hb0 := h.nb
    have sub : (posi ((setS S b).1 :: (D.take b ++ D.drop (b + 1)) ++ G.map (·.1))).Sublist (posi (S.1 :: D ++ G.map (·.1))) := by
      have sD : (D.take b ++ D.drop (b + 1)).Sublist D := by
        conv => rhs; rw [e2]
        exact List.Sublist.append (List.Sublist.refl _) (List.sublist_cons_self _ _)
      have s2 : (posi ((D.take b ++ D.drop (b + 1)) ++ G.map (·.1))).Sublist (posi (D ++ G.map (·.1))) := List.Sublist.filter _ (List.Sublist.append sD (List.Sublist.refl _))
      simp only [List.cons_append]
      rw [posi_cons, posi_cons]
      rcases hS with e | e
      · rw [e, if_neg (by simp)]
        split
        · exact List.Sublist.cons _ s2
        · exact s2
      · rw [e]
        split
        · exact List.Sublist.cons_cons _ s2
        · exact s2
    exact sub.nodup hb0

theorem m61_ok (h : Good Q L K D H S G) {b : Nat} (hb : (b : Int) < L) {ph : Int} (h0 : 0 ≤ ph) (h1 : ph ≤ 255) (hn : ph ∉ posi ((setS S b).1 :: (D.take b ++ D.drop (b + 1)) ++ G.map (·.1))) :
    m61 (((Q : Int), (L, (K, (D, (H, (S, G)))))), ((b : Int), (ph, ()))) = some (((Q : Int), (L, (K, (D.set b ph, (setH Q D H S G b, (setS S b, G.map (fgc (inb Q b)))))))), (delI (sortI (blocks D S G)) (sortI (blocks (D.set b ph) (setS S b) (G.map (fgc (inb Q b))))), ())) := by
  apply ok_eq
  obtain ⟨s1, s2, s3, s4⟩ := h.sz
  have g' := good_settle h hb h0 h1 hn
  have hbl := blk_le h hb
  have hsh := h.li.sh
  obtain ⟨p1, p2, p3, p4, p5, p6⟩ := hsh
  have hDl := h.li.dl
  have hbD : b < D.length := by omega
  have hle1 := blocks_len h
  have hle2 := blocks_len g'
  unfold m61
  refine Ok.bind (m77_ok h) fun y1 e1 => ?_
  subst e1
  rw [clo_eq Q L K D H S G (by omega) (fun i hi => by have := s4 i hi; omega)]
  simp only [Option.bind_some]
  refine Ok.gd (by omega) (Ok.gd (by omega) (Ok.gd (by omega) (Ok.gd (by omega) (Ok.gd (by omega) (Ok.gd (by omega) ?_)))))
  refine Ok.gd (by omega) (Ok.gd (by omega) (Ok.gd (by omega) ?_))
  have w0 : (b : Int) * (Q : Int) = ((b * Q : Nat) : Int) := by simp
  have w1 : IntKind.wrap .i64 ((b : Int) * (Q : Int)) = ((b * Q : Nat) : Int) := by rw [w0, wrap64 (by omega) (by omega)]
  simp only [w1, Int.toNat_natCast]
  refine Ok.bind (S := fun y => y = hv Q D H S G b) (Ok.loop Q (fun i x => x.1 = (i : Int) ∧ x.2 = ((List.range i).map fun o => (wh Q D H S G (b * Q + o)).2.1) ++ List.replicate (Q - i) false) ⟨rfl, by simp⟩ ?_) fun y2 e2 => ?_
  · rintro i ⟨x1, x2⟩ hi ⟨hx, hl⟩
    simp only at hx hl
    subst hx hl
    refine Ok.cond (fun hc => ?_) (fun hc => Ok.inr ?_)
    rotate_left
    · simp only at hc
      obtain rfl : i = Q := by omega
      simp [hv]
    simp only at hc
    have hi' : i < Q := by omega
    have w2 : ((b * Q : Nat) : Int) + (i : Int) = ((b * Q + i : Nat) : Int) := by simp
    rw [w2, wrap64 (n := ((b * Q + i : Nat) : Int)) (by omega) (by omega), wrap64 (n := (i : Int) + 1) (by omega) (by omega)]
    have hm := m56_eq h (b * Q + i) (by omega)
    have hm' : m56 (((Q : Int), (L, (K, (D, (H, ((S.1, (S.2.1, S.2.2)), G)))))), (((b * Q + i : Nat) : Int), ())) = some (wh Q D H S G (b * Q + i)) := hm
    rw [hm']
    simp only [Option.bind_some]
    have e3 : List.replicate (Q - i) false = false :: List.replicate (Q - (i + 1)) false := by
      rw [show Q - i = (Q - (i + 1)) + 1 by omega, List.replicate_succ]
    have hl : (((List.range i).map fun o => (wh Q D H S G (b * Q + o)).2.1) ++ List.replicate (Q - i) false).length = Q := by simp; omega
    have hl2 : ((List.range i).map fun o => (wh Q D H S G (b * Q + o)).2.1).length = i := by simp
    refine Ok.condb (fun ht => ?_) (fun ht => Ok.inl ⟨hi', by simp, ?_⟩)
    · refine Ok.gd (by omega) (Ok.gd (by rw [hl]; omega) (Ok.gd (by rw [hl]; simpa using hi') (Ok.inl ⟨hi', by simp, ?_⟩)))
      simp only [Int.toNat_natCast]
      rw [List.range_succ, List.map_append, e3]
      simp only [List.map_cons, List.map_nil, ht]
      rw [List.set_append_right _ _ (by omega), hl2, Nat.sub_self]
      simp
    · simp only
      rw [List.range_succ, List.map_append, e3]
      simp only [List.map_cons, List.map_nil, ht]
      simp
  subst e2
  refine Ok.gd (by omega) (Ok.gd (by omega) (Ok.gd (by omega) (Ok.gd (by omega) (Ok.gd (by omega) (Ok.gd (by omega) ?_)))))
  rw [m61f_eq b Q p1 G (by omega) h.el (fun g hg p hp => (h.pages g hg p hp).2)]
  simp only [Option.bind_some]
  have eH : (List.take (b * Q) H ++ List.take (H.length - b * Q) (hv Q D H S G b)) ++ List.drop (b * Q + min (hv Q D H S G b).length (H.length - b * Q)) H = setH Q D H S G b := by
    unfold setH
    have e0 : List.take (H.length - b * Q) (hv Q D H S G b) = hv Q D H S G b := List.take_of_length_le (by rw [hv_len]; omega)
    rw [e0, hv_len, Nat.min_eq_left (by omega)]
  rw [eH]
  have fin : ∀ S0 : Int × (Int × Int), S0 = setS S b → Ok (Option.bind (m77 (((Q : Int), (L, (K, (D.set b ph, (setH Q D H S G b, (S0, G.map (fgc (inb Q b)))))))), ())) fun (y5 : (List Int)) =>
      Option.bind (gd ((List.length (sortI (blocks D S G))) ≤ 140737488355328) (gd ((List.length y5) ≤ 140737488355328) (some (delI (sortI (blocks D S G)) y5)))) fun (y6 : (List Int)) =>
      some (((Q : Int), (L, (K, (D.set b ph, (setH Q D H S G b, (S0, G.map (fgc (inb Q b)))))))), (y6, ()))) (fun r => r = (((Q : Int), (L, (K, (D.set b ph, (setH Q D H S G b, (setS S b, G.map (fgc (inb Q b)))))))), (delI (sortI (blocks D S G)) (sortI (blocks (D.set b ph) (setS S b) (G.map (fgc (inb Q b))))), ()))) := by
    rintro S0 rfl
    refine Ok.bind (m77_ok g') fun y5 e5 => ?_
    subst e5
    rw [sortI_len, sortI_len, gd_pos (by omega), gd_pos (by omega)]
    exact Ok.some rfl
  refine Ok.cond (fun a => Ok.cond (fun c => fin _ ?_) (fun c => fin _ ?_)) (fun a => fin _ ?_)
  · unfold setS; rw [if_pos ⟨a, c⟩]
  · unfold setS; rw [if_neg (fun g => c g.2)]
  · unfold setS; rw [if_neg (fun g => a g.1)]
end

section
variable {Q : Nat} {L K : Int} {D : List Int} {H : List Bool} {S : Int × (Int × Int)} {G : List Log}

theorem sub_blocks (b : Nat) {ph : Int} (hf : ph ∉ blocks D S G) (h0 : 0 ≤ ph) : ph ∉ posi ((setS S b).1 :: (D.take b ++ D.drop (b + 1)) ++ G.map (·.1)) := by
  intro hm
  obtain ⟨hm, _⟩ := mem_posi.1 hm
  apply hf
  unfold blocks
  rw [mem_posi]
  refine ⟨?_, h0⟩
  simp only [List.cons_append, List.mem_cons, List.mem_append] at hm ⊢
  rcases hm with e | (e | e) | e
  · unfold setS at e
    split at e
    · simp only at e; omega
    · exact .inl e
  · exact .inr (.inl (List.mem_of_mem_take e))
  · exact .inr (.inl (List.mem_of_mem_drop e))
  · exact .inr (.inr e)

theorem switch_new (h : Good Q L K D H S G) {b : Nat} (hS : 0 ≤ S.1) (hb : S.2.1 = (b : Int)) : S.1 ∉ posi ((setS S b).1 :: (D.take b ++ D.drop (b + 1)) ++ G.map (·.1)) := by
  intro hm
  obtain ⟨hm, _⟩ := mem_posi.1 hm
  have hnb := h.nb
  rw [List.cons_append, posi_cons, if_pos hS, List.nodup_cons] at hnb
  apply hnb.1
  rw [mem_posi]
  refine ⟨?_, hS⟩
  simp only [List.cons_append, List.mem_cons, List.mem_append] at hm ⊢
  rcases hm with e | (e | e) | e
  · unfold setS at e
    rw [if_pos ⟨hS, hb⟩] at e
    simp only at e; omega
  · exact .inl (List.mem_of_mem_take e)
  · exact .inl (List.mem_of_mem_drop e)
  · exact .inr e

def setT (Q : Nat) (L K : Int) (D : List Int) (H : List Bool) (S' : Int × (Int × Int)) (S : Int × (Int × Int)) (G : List Log) (b : Nat) (ph : Int) : Tab := ((Q : Int), (L, (K, (D.set b ph, (setH Q D H S G b, (S', G.map (fgc (inb Q b))))))))

theorem m26_ok (h : Good Q L K D H S G) (block ph : Int) : Ok (m26 (((Q : Int), (L, (K, (D, (H, (S, G)))))), (block, (ph, ())))) (fun r => (∃ b : Nat, block = b ∧ (b : Int) < L ∧ fresh D S G ph ∧ r.2.2.1 = 0 ∧ r.1 = setT Q L K D H (setS S b) S G b ph ∧ r.2.1 = delI (sortI (blocks D S G)) (sortI (blocks (D.set b ph) (setS S b) (G.map (fgc (inb Q b)))))) ∨ (r = (zeroT, ([], (1, ()))) ∧ ¬ (0 ≤ block ∧ block < L ∧ fresh D S G ph))) := by
  obtain ⟨p1, p2, p3, p4, p5, p6⟩ := h.li.sh
  unfold m26
  rw [m25_good h]
  simp only [Option.bind_some]
  refine Ok.ncond (fun h1 => absurd trivial h1) (fun _ => ?_)
  rw [wrap64 (n := L - 1) (by omega) (by omega), m40_eq]
  simp only [Option.bind_some]
  refine Ok.ncond (fun h1 => Ok.some (.inr ⟨rfl, fun g => h1 ⟨g.1, by omega⟩⟩)) (fun h1 => ?_)
  refine Ok.bind (m47_ok h ph) fun y hy => ?_
  refine Ok.condb (fun h2 => Ok.some (.inr ⟨rfl, fun g => ?_⟩)) (fun h2 => ?_)
  · rw [hy.2 g.2.2] at h2; simp at h2
  have hf : fresh D S G ph := hy.1 (by simpa using h2)
  obtain ⟨b, rfl⟩ : ∃ b : Nat, block = b := ⟨block.toNat, by omega⟩
  rw [m61_ok h (by omega) hf.1 hf.2.1 (sub_blocks b hf.2.2 hf.1)]
  exact Ok.some (.inl ⟨b, rfl, by omega, hf, rfl, rfl, rfl⟩)

theorem m28_ok (h : Good Q L K D H S G) : Ok (m28 (((Q : Int), (L, (K, (D, (H, (S, G)))))), ())) (fun r => (∃ b : Nat, S.2.1 = b ∧ (b : Int) < L ∧ 0 ≤ S.1 ∧ ¬ ovr Q S G ∧ r.2.2.1 = 0 ∧ r.1 = setT Q L K D H (setS S b) S G b S.1 ∧ r.2.1 = delI (sortI (blocks D S G)) (sortI (blocks (D.set b S.1) (setS S b) (G.map (fgc (inb Q b)))))) ∨ (r = (zeroT, ([], (51, ()))) ∧ ¬ (0 ≤ S.1 ∧ ¬ ovr Q S G))) := by
  obtain ⟨p1, p2, p3, p4, p5, p6⟩ := h.li.sh
  have hsq := h.li.sq
  unfold m28
  rw [m25_good h]
  simp only [Option.bind_some]
  refine Ok.ncond (fun h1 => absurd trivial h1) (fun _ => ?_)
  refine Ok.cond (fun h1 => Ok.some (.inr ⟨rfl, fun g => by have := g.1; omega⟩)) (fun h1 => ?_)
  refine Ok.bind (m62_ok h) fun y hy => ?_
  refine Ok.condb (fun h2 => Ok.some (.inr ⟨rfl, fun g => g.2 (hy.1 h2)⟩)) (fun h2 => ?_)
  have ho : ¬ ovr Q S G := fun g => by rw [hy.2 g] at h2; simp at h2
  have hS : 0 ≤ S.1 ∧ S.1 ≤ 255 ∧ 0 ≤ S.2.1 ∧ S.2.1 < L := by
    rcases hsq with e | e
    · rw [e] at h1; simp at h1
    · exact ⟨e.1, e.2.1, e.2.2.1, e.2.2.2.1⟩
  obtain ⟨b, hb⟩ : ∃ b : Nat, S.2.1 = b := ⟨S.2.1.toNat, by omega⟩
  have hbL : (b : Int) < L := by rw [← hb]; exact hS.2.2.2
  have hm := m61_ok h hbL hS.1 hS.2.1 (switch_new h hS.1 hb)
  have hx : ((((Q : Int), (L, (K, (D, (H, (S, G)))))), (S.2.1, (S.1, ()))) : Tab × Int × Int × Unit) = (((Q : Int), (L, (K, (D, (H, (S, G)))))), ((b : Int), (S.1, ()))) := by rw [hb]
  rw [hx, hm]
  exact Ok.some (.inl ⟨b, hb, hbL, hS.1, ho, rfl, rfl, rfl⟩)

end
end Go.Proofs.Ytecadglgkhfaaaa
end

section
namespace Go.Proofs.Ytecadglgkhfaaaa
open Go Go.Proofs.AM

section
variable {P L K : Int} {D : List Int} {H : List Bool} {S : Int × (Int × Int)} {G : List Log}
theorem m66_good (h : Good P L K D H S G) : m66 ((P, (L, (K, (D, (H, (S, G)))))), ()) = some ((P, (L, (K, (D, (H, (S, G)))))), ()) := by
  unfold m66; rw [m43_good h]; rfl

theorem m66_bad (h : ¬ Good P L K D H S G) : m66 ((P, (L, (K, (D, (H, (S, G)))))), ()) = some (newT 4 1 1, ()) := by
  unfold m66; rw [m43_bad h]; simp only [Option.bind_some]
  rw [m71_yes ⟨by omega, by omega, by omega, by omega, by omega, by omega⟩]; rfl
end

theorem may_of (t : Tab) : ∃ (Q : Nat) (L K : Int) (D : List Int) (H : List Bool) (S : Int × (Int × Int)) (G : List Log), Good Q L K D H S G ∧ m55 (t, ()) = some (((Q : Int), (L, (K, (D, (H, (S, G)))))), ()) ∧ m66 (t, ()) = some (((Q : Int), (L, (K, (D, (H, (S, G)))))), ()) := by
  obtain ⟨P, L, K, D, H, S, G⟩ := t
  by_cases h : Good P L K D H S G
  · obtain ⟨Q, rfl⟩ : ∃ Q : Nat, P = Q := ⟨P.toNat, by have := h.li.sh.1; omega⟩
    exact ⟨Q, L, K, D, H, S, G, h, m55_good h, m66_good h⟩
  · have sh : shape ((4 : Nat) : Int) 1 1 := ⟨by omega, by omega, by omega, by omega, by omega, by omega⟩
    exact ⟨4, 1, 1, _, _, _, _, newT_good sh, m55_bad h, m66_bad h⟩

section
variable {Q : Nat} {L K : Int} {D : List Int} {H : List Bool} {S : Int × (Int × Int)} {G : List Log}

theorem m67_good (h : Good Q L K D H S G) (n : Nat) (hn : n < H.length) : m67 (((Q : Int), (L, (K, (D, (H, (S, G)))))), ((n : Int), ())) = some (wh Q D H S G n) := by
  apply ok_eq
  obtain ⟨s1, s2, s3, s4⟩ := h.sz
  have hm := shape_mul h.li.sh
  have hHl := h.li.hl
  have hel := h.el
  have hdv := blk_lt (L := L) (D := D) (H := H) ⟨h.li.sh.1, h.li.sh.2.1, h.li.sh.2.2.1, h.li.sh.2.2.2.1, by omega, by omega⟩ h.li.dl h.li.hl n hn
  simp only [Int.toNat_natCast] at hdv
  have hQ := h.li.sh.1
  obtain ⟨b, hb⟩ : ∃ b, n / Q = b := ⟨_, rfl⟩
  obtain ⟨o, ho⟩ : ∃ o, n % Q = o := ⟨_, rfl⟩
  unfold m67 wh
  rw [m66_good h]
  rw [hb] at hdv
  simp only [Option.bind_some, div_mod.1, div_mod.2, hb, ho]
  rw [wrap64 (n := (b : Int)) (by omega) (by omega)]
  refine Ok.bind (S := fun y => y.1 = true) ?_ fun y hy => ?_
  · unfold m44
    simp only
    rw [wrap64 (n := (Q : Int) * L) (by omega) (by omega)]
    exact Ok.cond (fun _ => Ok.some (by simp only [decide_eq_true_eq]; omega)) (fun g => absurd (show (0 : Int) ≤ (n : Int) by omega) g)
  refine Ok.condb (fun g => by rw [hy] at g; simp at g) (fun _ => ?_)
  rw [m75_ok _ (by omega) (fun g hg => by have := hel g hg; omega)]
  unfold whl
  simp only [Option.bind_some]
  cases hl : loc (n : Int) G with
  | some p => exact Ok.condb (fun _ => Ok.some rfl) (fun h => by simp at h)
  | none =>
    refine Ok.condb (fun h => by simp at h) (fun _ => ?_)
    refine Ok.ite (fun h => by omega) (fun _ => Ok.ite (fun h => by omega) (fun _ => ?_))
    have rest : ¬ (0 ≤ S.1 ∧ S.2.1 = (b : Int) ∧ (o : Int) < S.2.2) → Ok (gd ((0 : Int) ≤ (n : Int)) (gd ((n : Int) < (((List.length H) : Nat) : Int)) (bif (List.getD H (Int.toNat (n : Int)) false) then
        (gd ((0 : Int) ≤ (b : Int)) (gd ((b : Int) < (((List.length D) : Nat) : Int)) (some (((List.getD D (Int.toNat (b : Int)) (0 : Int)), (o : Int)), (true, ())))))
       else
        (some (((0 : Int), (0 : Int)), (false, ())))))) (fun r => r = if 0 ≤ S.1 ∧ S.2.1 = (b : Int) ∧ (o : Int) < S.2.2 then ((S.1, (o : Int)), (true, ()))
          else if H.getD n false = true then ((D.getD b 0, (o : Int)), (true, ())) else ((0, 0), (false, ()))) := by
      intro hc
      rw [if_neg hc]
      simp only [Int.toNat_natCast]
      refine Ok.gd (by omega) (Ok.gd (by omega) ?_)
      refine Ok.condb (fun h => Ok.gd (by omega) (Ok.gd (by omega) (Ok.some ?_))) (fun h => Ok.some ?_)
      · rw [if_pos h]
      · rw [h]; rfl
    refine Ok.cond (fun h1 => Ok.cond (fun h2 => Ok.cond (fun h3 => Ok.some ?_) (fun h3 => rest fun g => ?_)) (fun h2 => rest fun g => ?_)) (fun h1 => rest fun g => ?_)
    · rw [if_pos ⟨h1, h2, by omega⟩]
    · exact h3 g.2.2
    · exact h2 g.2.1
    · exact h1 g.1

abbrev Cp := (Int × Int) × Int

def cps (Q : Nat) (D : List Int) (H : List Bool) (S : Int × (Int × Int)) (G : List Log) (b u : Nat) : Nat → List Cp
  | 0 => []
  | k + 1 => cps Q D H S G b u k ++ (if (wh Q D H S G (b * Q + (u + k))).2.1 = true then [((wh Q D H S G (b * Q + (u + k))).1, ((u + k : Nat) : Int))] else [])

theorem cps_len (b u : Nat) : ∀ k, (cps Q D H S G b u k).length ≤ k
  | 0 => by simp [cps]
  | k + 1 => by
    have := cps_len b u k
    rw [cps, List.length_append]
    split
    · simp; omega
    · simp; omega

theorem cps_ge (b u : Nat) : ∀ k, ∀ x ∈ cps Q D H S G b u k, (u : Int) ≤ x.2 ∧ x.2 < ((u + k : Nat) : Int)
  | 0, x, hx => by simp [cps] at hx
  | k + 1, x, hx => by
    rw [cps, List.mem_append] at hx
    rcases hx with hx | hx
    · have := cps_ge b u k x hx; omega
    · split at hx
      · simp only [List.mem_singleton] at hx; subst hx; simp only; omega
      · simp at hx

theorem cps_filter (b u : Nat) : ∀ k, (cps Q D H S G b 0 (u + k)).filter (fun x => decide (x.2 ≥ (u : Int))) = cps Q D H S G b u k
  | 0 => by
    rw [cps, List.filter_eq_nil_iff]
    intro x hx
    have := cps_ge b 0 (u + 0) x hx
    simp; omega
  | k + 1 => by
    rw [← Nat.add_assoc, cps, List.filter_append, cps_filter b u k, cps, Nat.zero_add]
    congr 1
    split
    · simp; omega
    · rfl

def foldL (Q : Nat) (L : Int) (D : List Int) (H : List Bool) (S : Int × (Int × Int)) (G : List Log) (block : Int) : List Cp :=
  if 0 ≤ block ∧ block < L then cps Q D H S G block.toNat 0 Q else []

theorem m32_spec (h : Good Q L K D H S G) (block : Int) : m32 (((Q : Int), (L, (K, (D, (H, (S, G)))))), (block, ())) = some (foldL Q L D H S G block, ()) := by
  apply ok_eq
  obtain ⟨s1, s2, s3, s4⟩ := h.sz
  obtain ⟨p1, p2, p3, p4, p5, p6⟩ := h.li.sh
  unfold m32 foldL
  rw [m55_good h]
  simp only [Option.bind_some]
  rw [clo_eq Q L K D H S G (by omega) (fun i hi => by have := s4 i hi; omega)]
  simp only [Option.bind_some]
  refine Ok.gd (by omega) (Ok.gd (by omega) (Ok.gd (by omega) (Ok.gd (by omega) (Ok.gd (by omega) (Ok.gd (by omega) ?_)))))
  rw [wrap64 (n := L - 1) (by omega) (by omega), m40_eq]
  simp only [Option.bind_some]
  refine Ok.ncond (fun h1 => Ok.some ?_) (fun h1 => ?_)
  · rw [if_neg (fun g => h1 ⟨g.1, by omega⟩)]
  rw [if_pos ⟨h1.1, by omega⟩]
  obtain ⟨b, rfl⟩ : ∃ b : Nat, block = b := ⟨block.toNat, by omega⟩
  have hbl := blk_le h (show (b : Int) < L by omega)
  have w0 : (b : Int) * (Q : Int) = ((b * Q : Nat) : Int) := by simp
  have w1 : IntKind.wrap .i64 ((b : Int) * (Q : Int)) = ((b * Q : Nat) : Int) := by rw [w0, wrap64 (by omega) (by omega)]
  simp only [w1, Int.toNat_natCast]
  refine Ok.bind (S := fun y => y = cps Q D H S G b 0 Q) (Ok.loop Q (fun i x => x.1 = (i : Int) ∧ x.2 = cps Q D H S G b 0 i) ⟨rfl, rfl⟩ ?_) fun y hy => Ok.some (by rw [hy])
  rintro i ⟨x1, x2⟩ hi ⟨hx, hl⟩
  simp only at hx hl
  subst hx hl
  refine Ok.cond (fun hc => ?_) (fun hc => Ok.inr ?_)
  rotate_left
  · simp only at hc
    obtain rfl : i = Q := by omega
    rfl
  simp only at hc
  have hi' : i < Q := by omega
  have w2 : ((b * Q : Nat) : Int) + (i : Int) = ((b * Q + i : Nat) : Int) := by simp
  have hm' : m56 (((Q : Int), (L, (K, (D, (H, ((S.1, (S.2.1, S.2.2)), G)))))), (((b * Q + i : Nat) : Int), ())) = some (wh Q D H S G (b * Q + i)) := m56_eq h (b * Q + i) (by omega)
  have hlen := cps_len (Q := Q) (D := D) (H := H) (S := S) (G := G) b 0 i
  rw [w2, wrap64 (n := ((b * Q + i : Nat) : Int)) (by omega) (by omega), wrap64 (n := (i : Int) + 1) (by omega) (by omega), hm']
  simp only [Option.bind_some]
  refine Ok.condb (fun ht => ?_) (fun ht => Ok.inl ⟨hi', by simp, ?_⟩)
  · refine Ok.gd (by simp only [List.length_singleton]; omega) (Ok.gd (by simp only [List.length_singleton]; omega) (Ok.inl ⟨hi', by simp, ?_⟩))
    simp only
    rw [cps, Nat.zero_add, if_pos ht]
  · simp only
    rw [cps, Nat.zero_add, if_neg (by rw [ht]; simp), List.append_nil]

theorem m33_spec (h : Good Q L K D H S G) (block : Int) : m33 (((Q : Int), (L, (K, (D, (H, (S, G)))))), (block, ())) = some (foldL Q L D H S G block, ()) := by
  apply ok_eq
  obtain ⟨s1, s2, s3, s4⟩ := h.sz
  obtain ⟨p1, p2, p3, p4, p5, p6⟩ := h.li.sh
  unfold m33 foldL
  rw [m66_good h]
  simp only [Option.bind_some]
  refine Ok.cond (fun h1 => Ok.some ?_) (fun h1 => Ok.cond (fun h2 => Ok.some ?_) (fun h2 => ?_))
  · rw [if_neg (fun g => by omega)]
  · rw [if_neg (fun g => by omega)]
  rw [if_pos ⟨by omega, by omega⟩]
  obtain ⟨b, rfl⟩ : ∃ b : Nat, block = b := ⟨block.toNat, by omega⟩
  have hbl := blk_le h (show (b : Int) < L by omega)
  have w0 : (b : Int) * (Q : Int) = ((b * Q : Nat) : Int) := by simp
  have w1 : IntKind.wrap .i64 ((b : Int) * (Q : Int)) = ((b * Q : Nat) : Int) := by rw [w0, wrap64 (by omega) (by omega)]
  simp only [w1, Int.toNat_natCast]
  refine Ok.bind (S := fun y => y = cps Q D H S G b 0 Q) (Ok.loop Q (fun i x => x.2 = (i : Int) ∧ x.1 = cps Q D H S G b 0 i) ⟨rfl, rfl⟩ ?_) fun y hy => Ok.some (by rw [hy])
  rintro i ⟨x1, x2⟩ hi ⟨hx, hl⟩
  simp only at hx hl
  subst hx hl
  refine Ok.cond (fun hc => ?_) (fun hc => Ok.inr ?_)
  rotate_left
  · simp only at hc
    obtain rfl : i = Q := by omega
    rfl
  simp only at hc
  have hi' : i < Q := by omega
  have w2 : ((b * Q : Nat) : Int) + (i : Int) = ((b * Q + i : Nat) : Int) := by simp
  have hlen := cps_len (Q := Q) (D := D) (H := H) (S := S) (G := G) b 0 i
  rw [w2, wrap64 (n := ((b * Q + i : Nat) : Int)) (by omega) (by omega), wrap64 (n := (i : Int) + 1) (by omega) (by omega), m67_good h (b * Q + i) (by omega)]
  simp only [Option.bind_some]
  refine Ok.condb (fun ht => ?_) (fun ht => Ok.inl ⟨hi', by simp, ?_⟩)
  · refine Ok.gd (by simp only [List.length_singleton]; omega) (Ok.gd (by simp only [List.length_singleton]; omega) (Ok.inl ⟨hi', by simp, ?_⟩))
    simp only
    rw [cps, Nat.zero_add, if_pos ht]
  · simp only
    rw [cps, Nat.zero_add, if_neg (by rw [ht]; simp), List.append_nil]

def restL (Q : Nat) (D : List Int) (H : List Bool) (S : Int × (Int × Int)) (G : List Log) : List Cp :=
  if S.1 < 0 then [] else cps Q D H S G S.2.1.toNat S.2.2.toNat (Q - S.2.2.toNat)

theorem Good.seq (h : Good Q L K D H S G) (hS : ¬ S.1 < 0) : ∃ b u : Nat, S.2.1 = b ∧ S.2.2 = u ∧ (b : Int) < L ∧ u ≤ Q := by
  rcases h.li.sq with e | e
  · rw [e] at hS; simp at hS
  · exact ⟨S.2.1.toNat, S.2.2.toNat, by omega, by omega, by omega, by omega⟩

theorem m34_spec (h : Good Q L K D H S G) : m34 (((Q : Int), (L, (K, (D, (H, (S, G)))))), ()) = some (restL Q D H S G, ()) := by
  apply ok_eq
  obtain ⟨s1, s2, s3, s4⟩ := h.sz
  obtain ⟨p1, p2, p3, p4, p5, p6⟩ := h.li.sh
  unfold m34 restL
  rw [m55_good h]
  simp only [Option.bind_some]
  rw [clo_eq Q L K D H S G (by omega) (fun i hi => by have := s4 i hi; omega)]
  simp only [Option.bind_some]
  refine Ok.gd (by omega) (Ok.gd (by omega) (Ok.gd (by omega) (Ok.gd (by omega) (Ok.gd (by omega) (Ok.gd (by omega) ?_)))))
  refine Ok.cond (fun h1 => Ok.some ?_) (fun h1 => ?_)
  · rw [if_pos h1]
  rw [if_neg h1]
  obtain ⟨b, u, hb, hu, hbL, huQ⟩ := h.seq h1
  have hbl := blk_le h hbL
  have w0 : (b : Int) * (Q : Int) = ((b * Q : Nat) : Int) := by simp
  have w1 : IntKind.wrap .i64 ((b : Int) * (Q : Int)) = ((b * Q : Nat) : Int) := by rw [w0, wrap64 (by omega) (by omega)]
  simp only [hb, hu, w1, Int.toNat_natCast]
  refine Ok.bind (S := fun y => y = cps Q D H S G b u (Q - u)) (Ok.loop (Q - u) (fun i x => x.1 = ((u + i : Nat) : Int) ∧ x.2 = cps Q D H S G b u i) ⟨rfl, rfl⟩ ?_) fun y hy => Ok.some (by rw [hy])
  rintro i ⟨x1, x2⟩ hi ⟨hx, hl⟩
  simp only at hx hl
  subst hx hl
  refine Ok.cond (fun hc => ?_) (fun hc => Ok.inr ?_)
  rotate_left
  · simp only at hc
    obtain rfl : i = Q - u := by omega
    rfl
  simp only at hc
  have hi' : i < Q - u := by omega
  have w2 : ((b * Q : Nat) : Int) + ((u + i : Nat) : Int) = ((b * Q + (u + i) : Nat) : Int) := by simp
  have hm' : m56 (((Q : Int), (L, (K, (D, (H, ((S.1, ((b : Int), (u : Int))), G)))))), (((b * Q + (u + i) : Nat) : Int), ())) = some (wh Q D H S G (b * Q + (u + i))) := by
    have := m56_eq h (b * Q + (u + i)) (by omega)
    rw [← hb, ← hu]; exact this
  have hlen := cps_len (Q := Q) (D := D) (H := H) (S := S) (G := G) b u i
  rw [w2, wrap64 (n := ((b * Q + (u + i) : Nat) : Int)) (by omega) (by omega), wrap64 (n := ((u + i : Nat) : Int) + 1) (by omega) (by omega), hm']
  simp only [Option.bind_some]
  refine Ok.condb (fun ht => ?_) (fun ht => Ok.inl ⟨hi', by simp only; omega, ?_⟩)
  · refine Ok.gd (by simp only [List.length_singleton]; omega) (Ok.gd (by simp only [List.length_singleton]; omega) (Ok.inl ⟨hi', by simp only; omega, ?_⟩))
    simp only
    rw [cps, if_pos ht]
  · simp only
    rw [cps, if_neg (by rw [ht]; simp), List.append_nil]

theorem m35_spec (h : Good Q L K D H S G) : m35 (((Q : Int), (L, (K, (D, (H, (S, G)))))), ()) = some (restL Q D H S G, ()) := by
  apply ok_eq
  obtain ⟨p1, p2, p3, p4, p5, p6⟩ := h.li.sh
  unfold m35 restL
  rw [m66_good h]
  simp only [Option.bind_some]
  refine Ok.cond (fun h1 => Ok.some ?_) (fun h1 => ?_)
  · rw [if_pos h1]
  rw [if_neg h1]
  obtain ⟨b, u, hb, hu, hbL, huQ⟩ := h.seq h1
  simp only [hb, hu, Int.toNat_natCast]
  rw [m33_spec h (b : Int)]
  unfold foldL
  rw [if_pos ⟨by omega, hbL⟩]
  simp only [Option.bind_some, Int.toNat_natCast]
  have hfil : (cps Q D H S G b 0 Q).filter (fun x => decide (x.2 ≥ (u : Int))) = cps Q D H S G b u (Q - u) := by
    have := cps_filter (Q := Q) (D := D) (H := H) (S := S) (G := G) b u (Q - u)
    rwa [show u + (Q - u) = Q by omega] at this
  obtain ⟨l, hl⟩ : ∃ l, l = cps Q D H S G b 0 Q := ⟨_, rfl⟩
  have hlen := cps_len (Q := Q) (D := D) (H := H) (S := S) (G := G) b 0 Q
  rw [← hl] at hfil hlen ⊢
  rw [← hfil]
  refine Ok.bind (S := fun y => y = l.filter (fun x => decide (x.2 ≥ (u : Int)))) (Ok.loop l.length (fun i x => x.2 = (i : Int) ∧ x.1 = (l.take i).filter (fun x => decide (x.2 ≥ (u : Int)))) ⟨rfl, rfl⟩ ?_) fun y hy => Ok.some (by rw [hy])
  rintro i ⟨x1, x2⟩ hi ⟨hx, hl2⟩
  simp only at hx hl2
  subst hx hl2
  refine Ok.cond (fun hc => ?_) (fun hc => Ok.inr (by simp only at hc; rw [List.take_of_length_le (by omega)]))
  simp only [Int.toNat_natCast] at hc ⊢
  have hi' : i < l.length := by omega
  have hlf : ((l.take i).filter (fun x => decide (x.2 ≥ (u : Int)))).length ≤ i := Nat.le_trans (List.length_filter_le _ _) (by simp; omega)
  rw [wrap64 (n := (i : Int) + 1) (by omega) (by omega), take_snoc l i hi' ((0, 0), 0), List.filter_append]
  refine Ok.gd (by omega) (Ok.gd (by omega) ?_)
  refine Ok.cond (fun a => ?_) (fun a => Ok.inl ⟨hi', by simp, ?_⟩)
  · refine Ok.gd (by omega) (Ok.gd (by omega) (Ok.gd (by simp only [List.length_singleton]; omega) (Ok.gd (by simp only [List.length_singleton]; omega) (Ok.inl ⟨hi', by simp, ?_⟩))))
    simp only
    rw [List.filter_cons, if_pos (by simpa using a)]; rfl
  · simp only
    rw [List.filter_cons, if_neg (by simpa using a), List.filter_nil, List.append_nil]
end

theorem m32_may {t u : Tab} {b : Int} (h1 : m55 (t, ()) = some (u, ())) (h2 : m55 (u, ()) = some (u, ())) : m32 (t, (b, ())) = m32 (u, (b, ())) := by
  unfold m32; simp only [h1, h2]
theorem m33_may {t u : Tab} {b : Int} (h1 : m66 (t, ()) = some (u, ())) (h2 : m66 (u, ()) = some (u, ())) : m33 (t, (b, ())) = m33 (u, (b, ())) := by
  unfold m33; simp only [h1, h2]
theorem m34_may {t u : Tab} (h1 : m55 (t, ()) = some (u, ())) (h2 : m55 (u, ()) = some (u, ())) : m34 (t, ()) = m34 (u, ()) := by
  unfold m34; simp only [h1, h2]
theorem m35_may {t u : Tab} (h1 : m66 (t, ()) = some (u, ())) (h2 : m66 (u, ()) = some (u, ())) : m35 (t, ()) = m35 (u, ()) := by
  unfold m35; simp only [h1, h2]

theorem m31_same (l : List Cp) (hl : l.length ≤ 4000000000000000000) : m31 (l, (l, ())) = some (true, ()) := by
  apply ok_eq
  unfold m31
  refine Ok.ncond (fun h => absurd rfl h) (fun _ => ?_)
  refine Ok.bind (S := fun e => match e with | .inl _ => True | .inr _ => False) (Ok.loop l.length (fun i x => x = (i : Int)) rfl ?_) fun y hy => ?_
  · rintro i x hi rfl
    refine Ok.cond (fun hc => ?_) (fun hc => Ok.inr trivial)
    simp only at hc
    rw [wrap64 (n := (i : Int) + 1) (by omega) (by omega)]
    refine Ok.gd (by omega) (Ok.gd (by omega) (Ok.gd (by omega) (Ok.gd (by omega) ?_)))
    exact Ok.condb (fun h => by simp at h) (fun _ => Ok.inl ⟨by omega, by omega⟩)
  · refine Ok.elim (fun v e => Ok.some rfl) (fun v e => by subst e; exact hy.elim)

theorem m37_same (l : List Int) (hl : l.length ≤ 4000000000000000000) : m37 (l, (l, ())) = some (true, ()) := by
  apply ok_eq
  unfold m37
  refine Ok.ncond (fun h => absurd rfl h) (fun _ => ?_)
  refine Ok.bind (S := fun e => match e with | .inl _ => True | .inr _ => False) (Ok.loop l.length (fun i x => x = (i : Int)) rfl ?_) fun y hy => ?_
  · rintro i x hi rfl
    refine Ok.cond (fun hc => ?_) (fun hc => Ok.inr trivial)
    simp only at hc
    rw [wrap64 (n := (i : Int) + 1) (by omega) (by omega)]
    refine Ok.gd (by omega) (Ok.gd (by omega) (Ok.gd (by omega) (Ok.gd (by omega) ?_)))
    exact Ok.ncond (fun h => absurd rfl h) (fun _ => Ok.inl ⟨by omega, by omega⟩)
  · refine Ok.elim (fun v e => Ok.some rfl) (fun v e => by subst e; exact hy.elim)
end Go.Proofs.Ytecadglgkhfaaaa
end

section
namespace Go.Proofs.Ytecadglgkhfaaaa
open Go Go.Proofs.AM

theorem m39_spec {P L K : Int} {D : List Int} {H : List Bool} {S : Int × (Int × Int)} {G : List Log} : m39 ((P, (L, (K, (D, (H, (S, G)))))), ()) = some (dropS P L K D H S G) := by
  apply ok_eq
  unfold m39 dropS
  by_cases h : Good P L K D H S G
  rotate_left
  · rw [m43_bad h]
    simp only [Option.bind_some]
    refine Ok.ncond (fun _ => Ok.some ?_) (fun h1 => by simp at h1)
    rw [if_pos h]; rfl
  rw [m43_good h, if_neg (Classical.not_not.2 h)]
  simp only [Option.bind_some]
  obtain ⟨s1, s2, s3, s4⟩ := h.sz
  refine Ok.ncond (fun h1 => absurd trivial h1) (fun _ => ?_)
  cases G with
  | nil => exact Ok.cond (fun _ => Ok.some rfl) (fun h => by simp at h)
  | cons g G =>
    refine Ok.cond (fun h => by simp at h; omega) (fun _ => ?_)
    simp only [List.length_cons] at s3
    rw [clr_eq P L K D H S (g :: G) (by simp; omega) (fun i hi => by have := s4 i hi; omega)]
    have e0 : (g :: G).getD (Int.toNat 0) (0, []) = g := rfl
    have hgl := h.el g (by simp)
    have hlen : (0 : Int) < (((g :: G).length : Nat) : Int) := by simp only [List.length_cons]; omega
    simp only [e0, Option.bind_some, List.length_nil, Nat.zero_add]
    refine Ok.bind (S := fun e => match e with | .inl _ => ¬ ∃ p ∈ g.2, 0 ≤ p | .inr v => v = (0, (51, (0, (0, (0, ([], ([], (0, (0, (0, [])))))))))) ∧ ∃ p ∈ g.2, 0 ≤ p) (Ok.loop g.2.length (fun j x => x.1 = (j : Int) ∧ ∀ k, k < j → g.2.getD k 0 < 0) ⟨rfl, fun k hk => by omega⟩ ?_) fun y hy => ?_
    · rintro j ⟨x1, x2⟩ hj ⟨hx, hr⟩
      simp only at hx hr
      subst hx
      refine Ok.gd hlen ?_
      refine Ok.cond (fun hc => ?_) (fun hc => Ok.inr ?_)
      rotate_left
      · rintro ⟨p, hp, h0⟩
        obtain ⟨k, hk, e⟩ := List.getElem_of_mem hp
        simp only at hc
        have := hr k (by omega)
        rw [List.getD_eq_getElem?_getD, List.getElem?_eq_getElem hk, Option.getD_some] at this
        omega
      simp only [Int.toNat_natCast] at hc ⊢
      rw [wrap64 (n := (j : Int) + 1) (by omega) (by omega)]
      refine Ok.gd hlen (Ok.gd (by omega) (Ok.gd (by omega) ?_))
      refine Ok.cond (fun a => Ok.inr ⟨rfl, _, getD_mem (by omega), a⟩) (fun a => Ok.inl ⟨by omega, by simp, fun k hk => ?_⟩)
      by_cases e : k = j
      · subst e; omega
      · exact hr k (by omega)
    · refine Ok.elim (fun v e => ?_) (fun v e => ?_)
      · subst e
        have hy : ¬ ∃ p ∈ g.2, 0 ≤ p := hy
        rw [if_neg hy]
        refine Ok.gd (by omega) (Ok.gd (by omega) (Ok.gd (by omega) (Ok.gd (by omega) ?_)))
        refine Ok.gd (by simp only [List.length_cons]; omega) (Ok.gd (by omega) (Ok.gd hlen (Ok.some ?_)))
        have e1 : List.take ((Int.toNat (((g :: G).length : Nat) : Int)) - (Int.toNat 1)) (List.drop (Int.toNat 1) (g :: G)) = G := by
          show List.take ((g :: G).length - 1) G = G
          simp
        rw [e1]
      · subst e
        obtain ⟨hv, hy⟩ := hy
        rw [if_pos hy]
        exact Ok.some (by rw [hv]; rfl)

theorem lt_unique : ∀ {l m : List Int}, l.Pairwise (· < ·) → m.Pairwise (· < ·) → (∀ x, x ∈ l ↔ x ∈ m) → l = m
  | [], [], _, _, _ => rfl
  | [], y :: m, _, _, h => by have := (h y).2 (by simp); simp at this
  | x :: l, [], _, _, h => by have := (h x).1 (by simp); simp at this
  | x :: l, y :: m, h1, h2, h => by
    rw [List.pairwise_cons] at h1 h2
    have e : x = y := by
      have a := (h x).1 (by simp)
      have b := (h y).2 (by simp)
      rcases List.mem_cons.1 a with a | a
      · exact a
      · rcases List.mem_cons.1 b with b | b
        · exact b.symm
        · have := h1.1 y b; have := h2.1 x a; omega
    subst e
    rw [lt_unique h1.2 h2.2 (fun z => ?_)]
    constructor
    · intro hz
      rcases List.mem_cons.1 ((h z).1 (List.mem_cons_of_mem _ hz)) with e | e
      · have := h1.1 z hz; omega
      · exact e
    · intro hz
      rcases List.mem_cons.1 ((h z).2 (List.mem_cons_of_mem _ hz)) with e | e
      · have := h2.1 z hz; omega
      · exact e

theorem sortI_lt {l : List Int} (h : l.Nodup) : (sortI l).Pairwise (· < ·) := by
  have h1 : (sortI l).Pairwise (fun a b => decide (a ≤ b) = true) := List.pairwise_mergeSort (fun a b c h1 h2 => by simp only [decide_eq_true_eq] at *; omega) (fun a b => by simp only [Bool.or_eq_true, decide_eq_true_eq]; omega) l
  have h2 : (sortI l).Nodup := (sortI_perm l).nodup_iff.2 h
  rw [List.Nodup] at h2
  refine List.Pairwise.imp₂ (fun a b h1 h2 => ?_) h1 h2
  simp only [decide_eq_true_eq] at h1
  omega

def usedL (l : List Int) : Nat → List Int
  | 0 => []
  | n + 1 => usedL l n ++ (if (n : Int) ∈ l then [(n : Int)] else [])

theorem usedL_mem (l : List Int) : ∀ n x, x ∈ usedL l n ↔ 0 ≤ x ∧ x < (n : Int) ∧ x ∈ l
  | 0, x => by simp [usedL]; omega
  | n + 1, x => by
    rw [usedL, List.mem_append, usedL_mem l n x]
    by_cases h : (n : Int) ∈ l
    · rw [if_pos h, List.mem_singleton]
      constructor
      · rintro (⟨a, b, c⟩ | e)
        · exact ⟨a, by omega, c⟩
        · subst e; exact ⟨by omega, by omega, h⟩
      · rintro ⟨a, b, c⟩
        by_cases e : x = n
        · exact .inr e
        · exact .inl ⟨a, by omega, c⟩
    · rw [if_neg h]
      constructor
      · rintro (⟨a, b, c⟩ | e)
        · exact ⟨a, by omega, c⟩
        · simp at e
      · rintro ⟨a, b, c⟩
        by_cases e : x = n
        · subst e; exact absurd c h
        · exact .inl ⟨a, by omega, c⟩

theorem usedL_lt (l : List Int) : ∀ n, (usedL l n).Pairwise (· < ·)
  | 0 => by simp [usedL]
  | n + 1 => by
    rw [usedL, List.pairwise_append]
    refine ⟨usedL_lt l n, by split <;> simp, fun a ha b hb => ?_⟩
    have := (usedL_mem l n a).1 ha
    split at hb
    · simp only [List.mem_singleton] at hb; omega
    · simp at hb

theorem usedL_len (l : List Int) : ∀ n, (usedL l n).length ≤ n
  | 0 => by simp [usedL]
  | n + 1 => by
    have := usedL_len l n
    rw [usedL, List.length_append]
    split
    · simp; omega
    · simp; omega

section
variable {Q : Nat} {L K : Int} {D : List Int} {H : List Bool} {S : Int × (Int × Int)} {G : List Log}

theorem list_perm : (posi (D ++ [S.1] ++ G.map (·.1))).Perm (blocks D S G) := by
  apply posi_perm
  exact List.Perm.append_right _ (List.perm_append_comm (l₁ := D) (l₂ := [S.1]))

theorem blocks_lt (h : Good Q L K D H S G) : ∀ x ∈ blocks D S G, 0 ≤ x ∧ x < 256 := fun x hx => by
  obtain ⟨hx, h0⟩ := mem_posi.1 hx
  refine ⟨h0, ?_⟩
  simp only [List.cons_append, List.mem_cons, List.mem_append, List.mem_map] at hx
  rcases hx with h' | h' | ⟨y, h', h''⟩
  · subst h'; rcases h.li.sq with e | e
    · rw [e]; omega
    · omega
  · obtain ⟨i, hi, e⟩ := List.getElem_of_mem h'
    have := (h.d1 i hi).2
    rw [List.getD_eq_getElem?_getD, List.getElem?_eq_getElem hi] at this
    simp only [Option.getD_some] at this
    omega
  · obtain ⟨i, hi, e⟩ := List.getElem_of_mem h'
    have := (h.li.lg i hi).p1
    rw [List.getD_eq_getElem?_getD, List.getElem?_eq_getElem hi] at this
    simp only [Option.getD_some] at this
    rw [e] at this; omega

theorem m93_spec (h : Good Q L K D H S G) : m93 (((Q : Int), (L, (K, (D, (H, (S, G)))))), ()) = some (sortI (blocks D S G), ()) := by
  apply ok_eq
  obtain ⟨s1, s2, s3, s4⟩ := h.sz
  have hp : (posi (D ++ [S.1] ++ G.map (·.1))).Perm (blocks D S G) := list_perm
  have hbl := blocks_len h
  unfold m93
  rw [m66_good h]
  simp only [Option.bind_some]
  rw [m74_ok Q L K D H S G s1 s3 fun i hi => (h.li.lg i hi).p0]
  simp only [Option.bind_some]
  obtain ⟨l, hl⟩ : ∃ l, l = posi (D ++ [S.1] ++ G.map (·.1)) := ⟨_, rfl⟩
  rw [← hl] at hp ⊢
  have hll := hp.length_eq
  have fin : usedL l 256 = sortI (blocks D S G) := by
    refine lt_unique (usedL_lt l 256) (sortI_lt h.nb) (fun x => ?_)
    rw [usedL_mem, (sortI_perm _).mem_iff, hp.mem_iff]
    exact ⟨fun g => g.2.2, fun g => ⟨(blocks_lt h x g).1, by have := (blocks_lt h x g).2; omega, g⟩⟩
  rw [← fin]
  refine Ok.bind (S := fun y => y = usedL l 256) (Ok.loop 256 (fun i x => x.2 = (i : Int) ∧ x.1 = usedL l i) ⟨rfl, rfl⟩ ?_) fun y hy => Ok.some (by rw [hy])
  rintro i ⟨x1, x2⟩ hi ⟨hx, hl2⟩
  simp only at hx hl2
  subst hx hl2
  refine Ok.cond (fun hc => ?_) (fun hc => Ok.inr ?_)
  rotate_left
  · simp only at hc
    obtain rfl : i = 256 := by omega
    rfl
  simp only at hc ⊢
  have hlen := usedL_len l i
  rw [wrap64 (n := (i : Int) + 1) (by omega) (by omega), m79_eq _ _ (by omega)]
  simp only [Option.bind_some]
  refine Ok.cond (fun a => ?_) (fun a => Ok.inl ⟨by omega, by simp, ?_⟩)
  · refine Ok.gd (by simp only [List.length_singleton]; omega) (Ok.gd (by simp only [List.length_singleton]; omega) (Ok.inl ⟨by omega, by simp, ?_⟩))
    simp only
    rw [usedL, if_pos a]
  · simp only
    rw [usedL, if_neg a, List.append_nil]

theorem delI_take (l m : List Int) (i : Nat) (hi : i < l.length) : delI (l.take (i + 1)) m = delI (l.take i) m ++ (if l.getD i 0 ∈ m then [] else [l.getD i 0]) := by
  unfold delI
  rw [take_snoc l i hi 0, List.filter_append]
  congr 1
  by_cases h : l.getD i 0 ∈ m
  · rw [if_pos h, List.filter_cons, if_neg (by simpa using h)]; rfl
  · rw [if_neg h, List.filter_cons, if_pos (by simpa using h)]; rfl

theorem m70_spec (h : Good Q L K D H S G) {D' : List Int} {H' : List Bool} {S' : Int × (Int × Int)} {G' : List Log} (h' : Good Q L K D' H' S' G') :
    m70 (((Q : Int), (L, (K, (D, (H, (S, G)))))), (((Q : Int), (L, (K, (D', (H', (S', G')))))), ())) = some (delI (sortI (blocks D S G)) (sortI (blocks D' S' G')), ()) := by
  apply ok_eq
  obtain ⟨s1, s2, s3, s4⟩ := h'.sz
  have hp : (posi (D' ++ [S'.1] ++ G'.map (·.1))).Perm (blocks D' S' G') := list_perm
  have hbl := blocks_len h'
  have hbl0 := blocks_len h
  unfold m70
  rw [m93_spec h]
  simp only [Option.bind_some]
  rw [m74_ok Q L K D' H' S' G' s1 s3 fun i hi => (h'.li.lg i hi).p0]
  simp only [Option.bind_some]
  obtain ⟨m, hm⟩ : ∃ m, m = posi (D' ++ [S'.1] ++ G'.map (·.1)) := ⟨_, rfl⟩
  rw [← hm] at hp ⊢
  have hll := hp.length_eq
  obtain ⟨l, hl⟩ : ∃ l, l = sortI (blocks D S G) := ⟨_, rfl⟩
  have hl0 : l.length = (blocks D S G).length := by rw [hl, sortI_len]
  rw [← hl]
  have same : delI l (sortI (blocks D' S' G')) = delI l m := by
    unfold delI
    congr 1
    funext x
    have : x ∈ sortI (blocks D' S' G') ↔ x ∈ m := by rw [(sortI_perm _).mem_iff, hp.mem_iff]
    simp only [this]
  rw [same]
  refine Ok.bind (S := fun y => y = delI l m) (Ok.loop l.length (fun i x => x.2 = (i : Int) ∧ x.1 = delI (l.take i) m) ⟨rfl, rfl⟩ ?_) fun y hy => Ok.some (by rw [hy])
  rintro i ⟨x1, x2⟩ hi ⟨hx, hl2⟩
  simp only at hx hl2
  subst hx hl2
  refine Ok.cond (fun hc => ?_) (fun hc => Ok.inr (by simp only at hc; rw [List.take_of_length_le (by omega)]))
  simp only [Int.toNat_natCast] at hc ⊢
  have hi' : i < l.length := by omega
  have hlen : (delI (l.take i) m).length ≤ i := Nat.le_trans (delI_le _ _) (by simp; omega)
  rw [wrap64 (n := (i : Int) + 1) (by omega) (by omega), m79_eq _ _ (by omega), delI_take l m i hi']
  simp only [Option.bind_some]
  refine Ok.gd (by omega) (Ok.gd (by omega) ?_)
  refine Ok.ncond (fun a => ?_) (fun a => Ok.inl ⟨hi', by simp, ?_⟩)
  · refine Ok.gd (by omega) (Ok.gd (by omega) (Ok.gd (by simp only [List.length_singleton]; omega) (Ok.gd (by simp only [List.length_singleton]; omega) (Ok.inl ⟨hi', by simp, ?_⟩))))
    simp only
    rw [if_neg a]
  · simp only
    rw [if_pos a, List.append_nil]

def rng (lo hi : Int) (p : Int) : Bool := decide (lo ≤ p ∧ p < hi)

theorem m69f_eq (lo hi : Int) (G : List Log) (hG : G.length ≤ 100) (hg : ∀ g ∈ G, g.2.length ≤ 32) : m69f lo hi G = some (G.map (fgc (rng lo hi))) := by
  unfold m69f
  refine outer_gen (rng lo hi) G _ (fun A g B hl hm => ?_) (fun X => ?_)
  rotate_left
  · simp only; rw [decide_eq_false (by omega)]; rfl
  have hgl := hg g hm
  simp only [Int.toNat_natCast]
  rw [decide_eq_true (show (A.length : Int) < (G.length : Int) by omega)]
  simp only [cond_true]
  rw [inner_gen (rng lo hi) A B g _ (fun j row hj hr => ?_) (fun row hr => ?_)]
  · simp only [Option.bind_some]; rw [wrap64 (by omega) (by omega)]
  · have hAl : A.length < (A ++ (g.1, row) :: B).length := by simp
    simp only [Int.toNat_natCast, ith_mid, setIn_mid]
    rw [gd_pos (by omega), gd_pos (by omega), gd_pos hAl, decide_eq_true (show (j : Int) < (row.length : Int) by omega)]
    simp only [cond_true]
    rw [gd_pos (by omega), gd_pos (by omega), gd_pos hAl, gd_pos (by omega), gd_pos (by omega), gd_pos (by omega), wrap64 (n := (j : Int) + 1) (by omega) (by omega)]
    unfold rng
    simp only [Bool.cond_eq_ite, decide_eq_true_eq]
    have aux : ∀ v : Int, (if v ≥ lo then (if v < hi then gd ((0 : Int) ≤ (A.length : Int)) (gd ((A.length : Int) < (G.length : Int)) (gd (A.length < (A ++ (g.1, row) :: B).length) (gd ((0 : Int) ≤ (j : Int)) (gd ((j : Int) < (row.length : Int)) (gd (j < row.length) (some (Sum.inl ((j : Int) + 1, A ++ (g.1, row.set j (-1)) :: B)))))))) else some (Sum.inl ((j : Int) + 1, A ++ (g.1, row) :: B))) else some (Sum.inl ((j : Int) + 1, A ++ (g.1, row) :: B))) = (some (Sum.inl ((j : Int) + 1, A ++ (g.1, if lo ≤ v ∧ v < hi then row.set j (-1) else row) :: B)) : Option ((Int × List Log) ⊕ List Log)) := by
      intro v
      by_cases h1 : v ≥ lo
      · by_cases h2 : v < hi
        · rw [if_pos h1, if_pos h2, if_pos ⟨h1, h2⟩, gd_pos (by omega), gd_pos (by omega), gd_pos hAl, gd_pos (by omega), gd_pos (by omega), gd_pos (by omega)]
        · rw [if_pos h1, if_neg h2, if_neg (fun g => h2 g.2)]
      · rw [if_neg h1, if_neg (fun g => h1 g.1)]
    exact aux (row.getD j 0)
  · simp only [Int.toNat_natCast, ith_mid]
    rw [gd_pos (by omega), gd_pos (by omega), gd_pos (by simp), decide_eq_false (by omega)]; rfl

theorem fgc_congr {c d : Int → Bool} {G : List Log} (h : ∀ g ∈ G, ∀ p ∈ g.2, c p = d p) : G.map (fgc c) = G.map (fgc d) := by
  apply List.map_congr_left
  intro g hg
  unfold fgc
  congr 1
  apply List.map_congr_left
  intro p hp
  rw [h g hg p hp]

theorem m69_spec (h : Good Q L K D H S G) {b : Nat} (hb : (b : Int) < L) (ph : Int) :
    m69 (((Q : Int), (L, (K, (D, (H, (S, G)))))), ((b : Int), (ph, ()))) = some (setT Q L K D H (setS S b) S G b ph, ()) := by
  apply ok_eq
  obtain ⟨s1, s2, s3, s4⟩ := h.sz
  obtain ⟨p1, p2, p3, p4, p5, p6⟩ := h.li.sh
  have hbl := blk_le h hb
  have hDl := h.li.dl
  have hbD : b < D.length := by omega
  have w0 : (b : Int) * (Q : Int) = ((b * Q : Nat) : Int) := by simp
  have w1 : IntKind.wrap .i64 ((b : Int) * (Q : Int)) = ((b * Q : Nat) : Int) := by rw [w0, wrap64 (by omega) (by omega)]
  have w3 : ((b * Q : Nat) : Int) + (Q : Int) = ((b * Q + Q : Nat) : Int) := by simp
  unfold m69 setT
  rw [clr_eq Q L K D H S G (by omega) (fun i hi => by have := s4 i hi; omega)]
  simp only [Option.bind_some, List.length_nil, Nat.zero_add, w1]
  refine Ok.gd (by omega) (Ok.gd (by omega) (Ok.gd (by omega) (Ok.gd (by omega) ?_)))
  refine Ok.bind (S := fun y => y = setH Q D H S G b) (Ok.loop Q (fun i x => x.1 = (i : Int) ∧ x.2 = H.take (b * Q) ++ (hv Q D H S G b).take i ++ H.drop (b * Q + i)) ⟨rfl, by simp⟩ ?_) fun y2 e2 => ?_
  · rintro i ⟨x1, x2⟩ hi ⟨hx, hl⟩
    simp only at hx hl
    subst hx hl
    refine Ok.cond (fun hc => ?_) (fun hc => Ok.inr ?_)
    rotate_left
    · simp only at hc
      obtain rfl : i = Q := by omega
      have e0 : (hv i D H S G b).take i = hv i D H S G b := List.take_of_length_le (by rw [hv_len]; omega)
      simp only
      rw [e0]; rfl
    simp only at hc
    have hi' : i < Q := by omega
    have w2 : ((b * Q : Nat) : Int) + (i : Int) = ((b * Q + i : Nat) : Int) := by simp
    have l1 : (H.take (b * Q)).length = b * Q := by simp; omega
    have l2 : ((hv Q D H S G b).take i).length = i := by rw [List.length_take, hv_len]; omega
    have l3 : (H.take (b * Q) ++ (hv Q D H S G b).take i ++ H.drop (b * Q + i)).length = H.length := by
      rw [List.length_append, List.length_append, l1, l2, List.length_drop]; omega
    rw [w2, wrap64 (n := ((b * Q + i : Nat) : Int)) (by omega) (by omega), wrap64 (n := (i : Int) + 1) (by omega) (by omega), m67_good h (b * Q + i) (by omega)]
    simp only [Option.bind_some, Int.toNat_natCast]
    rw [l3]
    refine Ok.gd (by omega) (Ok.gd (by omega) (Ok.gd (by omega) (Ok.inl ⟨hi', by simp, ?_⟩)))
    simp only
    rw [take_snoc (hv Q D H S G b) i (by rw [hv_len]; exact hi') false, hv_get b i hi', List.drop_eq_getElem_cons (show b * Q + i < H.length by omega)]
    have l4 : (H.take (b * Q) ++ (hv Q D H S G b).take i).length = b * Q + i := by rw [List.length_append, l1, l2]
    rw [List.set_append_right _ _ (by omega), l4, Nat.sub_self]
    simp [Nat.add_assoc]
  subst e2
  refine Ok.gd (by omega) (Ok.gd (by omega) (Ok.gd (by simpa using hbD) ?_))
  rw [w3, wrap64 (n := ((b * Q + Q : Nat) : Int)) (by omega) (by omega), m69f_eq _ _ G (by omega) h.el]
  have hfg : G.map (fgc (rng ((b * Q : Nat) : Int) ((b * Q + Q : Nat) : Int))) = G.map (fgc (inb Q b)) := fgc_congr fun g hg p hp => by
    have := h.pages g hg p hp
    unfold rng inb
    rw [decide_eq_decide]
    by_cases h0 : 0 ≤ p
    · obtain ⟨N, rfl⟩ : ∃ N : Nat, p = N := ⟨p.toNat, by omega⟩
      rw [div_mod.1]
      have e := div_out (Q := Q) (b := b) (n := N) (by omega)
      constructor
      · rintro ⟨a, c⟩
        refine ⟨h0, ?_⟩
        by_cases e' : N / Q = b
        · rw [e']
        · have := e.1 e'; omega
      · rintro ⟨_, a⟩
        have a : N / Q = b := by omega
        have : ¬ (N < b * Q ∨ b * Q + Q ≤ N) := fun g => e.2 g a
        omega
    · constructor
      · rintro ⟨a, c⟩; omega
      · rintro ⟨a, c⟩; omega
  rw [hfg]
  simp only [Option.bind_some, Int.toNat_natCast]
  refine Ok.cond (fun a => Ok.cond (fun c => Ok.some ?_) (fun c => Ok.some ?_)) (fun a => Ok.some ?_)
  · unfold setS; rw [if_pos ⟨a, c⟩]
  · unfold setS; rw [if_neg (fun g => c g.2)]
  · unfold setS; rw [if_neg (fun g => a g.1)]

theorem m36_ok (h : Good Q L K D H S G) (block ph : Int) : Ok (m36 (((Q : Int), (L, (K, (D, (H, (S, G)))))), (block, (ph, ())))) (fun r => (∃ b : Nat, block = b ∧ (b : Int) < L ∧ fresh D S G ph ∧ r.2.2.1 = 0 ∧ r.1 = setT Q L K D H (setS S b) S G b ph ∧ r.2.1 = delI (sortI (blocks D S G)) (sortI (blocks (D.set b ph) (setS S b) (G.map (fgc (inb Q b)))))) ∨ (r = (zeroT, ([], (1, ()))) ∧ ¬ (0 ≤ block ∧ block < L ∧ fresh D S G ph))) := by
  unfold m36
  rw [m43_good h]
  simp only [Option.bind_some]
  refine Ok.ncond (fun h1 => absurd trivial h1) (fun _ => ?_)
  refine Ok.cond (fun h1 => Ok.some (.inr ⟨rfl, fun g => by have := g.1; omega⟩)) (fun h1 => Ok.cond (fun h2 => Ok.some (.inr ⟨rfl, fun g => by have := g.2.1; omega⟩)) (fun h2 => ?_))
  refine Ok.bind (m50_ok h ph) fun y hy => ?_
  refine Ok.condb (fun h2 => Ok.some (.inr ⟨rfl, fun g => ?_⟩)) (fun h3 => ?_)
  · rw [hy.2 g.2.2] at h2; simp at h2
  have hf : fresh D S G ph := hy.1 (by simpa using h3)
  obtain ⟨b, rfl⟩ : ∃ b : Nat, block = b := ⟨block.toNat, by omega⟩
  have hbL : (b : Int) < L := by omega
  rw [m69_spec h hbL ph]
  simp only [Option.bind_some]
  have g' := good_settle h hbL hf.1 hf.2.1 (sub_blocks b hf.2.2 hf.1)
  have hm := m70_spec h g'
  unfold setT
  rw [hm]
  exact Ok.some (.inl ⟨b, rfl, hbL, hf, rfl, rfl, rfl⟩)

theorem m38_ok (h : Good Q L K D H S G) : Ok (m38 (((Q : Int), (L, (K, (D, (H, (S, G)))))), ())) (fun r => (∃ b : Nat, S.2.1 = b ∧ (b : Int) < L ∧ 0 ≤ S.1 ∧ ¬ ovr Q S G ∧ r.2.2.1 = 0 ∧ r.1 = setT Q L K D H (setS S b) S G b S.1 ∧ r.2.1 = delI (sortI (blocks D S G)) (sortI (blocks (D.set b S.1) (setS S b) (G.map (fgc (inb Q b)))))) ∨ (r = (zeroT, ([], (51, ()))) ∧ ¬ (0 ≤ S.1 ∧ ¬ ovr Q S G))) := by
  have hsq := h.li.sq
  unfold m38
  rw [m43_good h]
  simp only [Option.bind_some]
  refine Ok.ncond (fun h1 => absurd trivial h1) (fun _ => ?_)
  refine Ok.cond (fun h1 => Ok.some (.inr ⟨rfl, fun g => by have := g.1; omega⟩)) (fun h1 => ?_)
  refine Ok.bind (m45_ok h (by omega)) fun y hy => ?_
  refine Ok.condb (fun h2 => Ok.some (.inr ⟨rfl, fun g => g.2 (hy.1 h2)⟩)) (fun h2 => ?_)
  have ho : ¬ ovr Q S G := fun g => by rw [hy.2 g] at h2; simp at h2
  have hS : 0 ≤ S.1 ∧ S.1 ≤ 255 ∧ 0 ≤ S.2.1 ∧ S.2.1 < L := by
    rcases hsq with e | e
    · rw [e] at h1; simp at h1
    · exact ⟨e.1, e.2.1, e.2.2.1, e.2.2.2.1⟩
  obtain ⟨b, hb⟩ : ∃ b : Nat, S.2.1 = b := ⟨S.2.1.toNat, by omega⟩
  have hbL : (b : Int) < L := by rw [← hb]; exact hS.2.2.2
  have hx : ((((Q : Int), (L, (K, (D, (H, (S, G)))))), (S.2.1, (S.1, ()))) : Tab × Int × Int × Unit) = (((Q : Int), (L, (K, (D, (H, (S, G)))))), ((b : Int), (S.1, ()))) := by rw [hb]
  rw [hx, m69_spec h hbL S.1]
  simp only [Option.bind_some]
  have g' := good_settle h hbL hS.1 hS.2.1 (switch_new h hS.1 hb)
  have hm := m70_spec h g'
  unfold setT
  rw [hm]
  exact Ok.some (.inl ⟨b, hb, hbL, hS.1, ho, rfl, rfl, rfl⟩)
end
end Go.Proofs.Ytecadglgkhfaaaa
end

section
namespace Go.Proofs.Ytecadglgkhfaaaa
open Go Go.Proofs.AM

theorem m11_any (t : Tab) : ∃ b, m11 (t, ()) = some (b, ()) := by
  unfold m11
  simp only [Bool.cond_eq_ite]
  split
  · split
    · exact ⟨_, rfl⟩
    · exact ⟨_, rfl⟩
  · exact ⟨_, rfl⟩

theorem same_good {P L K : Int} {D : List Int} {H : List Bool} {S : Int × (Int × Int)} {G : List Log} (h : Good P L K D H S G) : m17 ((P, (L, (K, (D, (H, (S, G)))))), ((P, (L, (K, (D, (H, (S, G)))))), ())) = some (true, ()) := by
  obtain ⟨s1, s2, s3, s4⟩ := h.sz
  exact m17_same _ _ _ _ _ _ _ (by omega) (by omega) (by omega) (fun i hi => by have := s4 i hi; omega)

theorem same_zero : m17 (zeroT, (zeroT, ())) = some (true, ()) :=
  m17_same _ _ _ _ _ _ _ (by simp) (by simp) (by simp) (fun i hi => by simp at hi)

theorem delI_small {Q : Nat} {L K : Int} {D : List Int} {H : List Bool} {S : Int × (Int × Int)} {G : List Log} (h : Good Q L K D H S G) (m : List Int) : (delI (sortI (blocks D S G)) m).length ≤ 4000000000000000000 := by
  have := blocks_len h
  have h2 := delI_le (sortI (blocks D S G)) m
  rw [sortI_len] at h2; omega

theorem cp_small {Q : Nat} {L K : Int} {D : List Int} {H : List Bool} {S : Int × (Int × Int)} {G : List Log} (h : Good Q L K D H S G) (b : Int) : (foldL Q L D H S G b).length ≤ 4000000000000000000 ∧ (restL Q D H S G).length ≤ 4000000000000000000 := by
  have hQ := h.li.sh.2.1
  constructor
  · unfold foldL
    split
    · exact Nat.le_trans (cps_len _ _ _) (by omega)
    · simp
  · unfold restL
    split
    · simp
    · exact Nat.le_trans (cps_len _ _ _) (by omega)

def Both (r s : Tab × (List Int × (Int × Unit))) : Prop := m17 (r.1, (s.1, ())) = some (true, ()) ∧ m37 (r.2.1, (s.2.1, ())) = some (true, ()) ∧ r.2.2.1 = s.2.2.1

theorem folded_both (P L K : Int) (D : List Int) (H : List Bool) (S : Int × (Int × Int)) (G : List Log) (block ph : Int) : ∃ r s, m26 ((P, (L, (K, (D, (H, (S, G)))))), (block, (ph, ()))) = some r ∧ m36 ((P, (L, (K, (D, (H, (S, G)))))), (block, (ph, ()))) = some s ∧ Both r s := by
  by_cases h : Good P L K D H S G
  rotate_left
  · refine ⟨(zeroT, ([], (50, ()))), (zeroT, ([], (50, ()))), ?_, ?_, same_zero, m37_same [] (by simp), rfl⟩
    · unfold m26; rw [m25_bad h]; rfl
    · unfold m36; rw [m43_bad h]; rfl
  obtain ⟨Q, rfl⟩ : ∃ Q : Nat, P = Q := ⟨P.toNat, by have := h.li.sh.1; omega⟩
  obtain ⟨r, e1, hr⟩ := m26_ok h block ph
  obtain ⟨s, e2, hs⟩ := m36_ok h block ph
  refine ⟨r, s, e1, e2, ?_⟩
  unfold Both
  rcases hr with ⟨b, rfl, hbL, hf, a1, a2, a3⟩ | ⟨a1, a2⟩
  · rcases hs with ⟨b', hbb, _, _, c1, c2, c3⟩ | ⟨_, c2⟩
    · obtain rfl : b = b' := by omega
      rw [a1, a2, a3, c1, c2, c3]
      exact ⟨same_good (good_settle h hbL hf.1 hf.2.1 (sub_blocks b hf.2.2 hf.1)), m37_same _ (delI_small h _), rfl⟩
    · exact absurd ⟨by omega, hbL, hf⟩ c2
  · rcases hs with ⟨b', rfl, hbL, hf, _⟩ | ⟨c1, _⟩
    · exact absurd ⟨by omega, hbL, hf⟩ a2
    · rw [a1, c1]
      exact ⟨same_zero, m37_same [] (by simp), rfl⟩

theorem switched_both (P L K : Int) (D : List Int) (H : List Bool) (S : Int × (Int × Int)) (G : List Log) : ∃ r s, m28 ((P, (L, (K, (D, (H, (S, G)))))), ()) = some r ∧ m38 ((P, (L, (K, (D, (H, (S, G)))))), ()) = some s ∧ Both r s := by
  by_cases h : Good P L K D H S G
  rotate_left
  · refine ⟨(zeroT, ([], (50, ()))), (zeroT, ([], (50, ()))), ?_, ?_, same_zero, m37_same [] (by simp), rfl⟩
    · unfold m28; rw [m25_bad h]; rfl
    · unfold m38; rw [m43_bad h]; rfl
  obtain ⟨Q, rfl⟩ : ∃ Q : Nat, P = Q := ⟨P.toNat, by have := h.li.sh.1; omega⟩
  obtain ⟨r, e1, hr⟩ := m28_ok h
  obtain ⟨s, e2, hs⟩ := m38_ok h
  refine ⟨r, s, e1, e2, ?_⟩
  unfold Both
  rcases hr with ⟨b, hb, hbL, hS, ho, a1, a2, a3⟩ | ⟨a1, a2⟩
  · rcases hs with ⟨b', hbb, _, _, _, c1, c2, c3⟩ | ⟨_, c2⟩
    · obtain rfl : b = b' := by omega
      have hs : S.1 ≤ 255 := by
        rcases h.li.sq with e | e
        · rw [e] at hS; simp at hS
        · exact e.2.1
      rw [a1, a2, a3, c1, c2, c3]
      exact ⟨same_good (good_settle h hbL hS hs (switch_new h hS hb)), m37_same _ (delI_small h _), rfl⟩
    · exact absurd ⟨hS, ho⟩ c2
  · rcases hs with ⟨b', _, _, hS, ho, _⟩ | ⟨c1, _⟩
    · exact absurd ⟨hS, ho⟩ a2
    · rw [a1, c1]
      exact ⟨same_zero, m37_same [] (by simp), rfl⟩

theorem drop_same {P L K : Int} {D : List Int} {H : List Bool} {S : Int × (Int × Int)} {G : List Log} : m17 ((dropS P L K D H S G).1, ((dropS P L K D H S G).1, ())) = some (true, ()) := by
  by_cases h : Good P L K D H S G
  rotate_left
  · unfold dropS; rw [if_pos h]; exact same_zero
  unfold dropS
  rw [if_neg (Classical.not_not.2 h)]
  cases G with
  | nil => exact same_zero
  | cons g G =>
    simp only
    by_cases c : ∃ p ∈ g.2, 0 ≤ p
    · rw [if_pos c]; exact same_zero
    · rw [if_neg c]; exact same_good (good_drop h)

theorem merges (P L K : Int) (D : List Int) (H : List Bool) (S : Int × (Int × Int)) (G : List Log) (block ph : Int) : m9 ((P, (L, (K, (D, (H, (S, G)))))), (block, (ph, ()))) = some (true, ()) := by
  unfold m9
  rw [live_ok]
  simp only [Option.bind_some, Bool.not_true, cond_false]
  obtain ⟨sm, hsm⟩ := m11_any (P, (L, (K, (D, (H, (S, G))))))
  rw [hsm]
  simp only [Option.bind_some]
  cases sm with
  | false => rfl
  | true =>
    simp only [Bool.not_true, cond_false]
    obtain ⟨Q, L', K', D', H', S', G', g, u1, u2⟩ := may_of (P, (L, (K, (D, (H, (S, G))))))
    obtain ⟨r, s, e1, e2, b1, b2, b3⟩ := folded_both P L K D H S G block ph
    obtain ⟨r', s', e1', e2', b1', b2', b3'⟩ := switched_both P L K D H S G
    have c := cp_small g block
    rw [m32_may u1 (m55_good g), m33_may u2 (m66_good g), m34_may u1 (m55_good g), m35_may u2 (m66_good g), m32_spec g, m33_spec g, m34_spec g, m35_spec g, e1, e2, e1', e2', m24_spec, m39_spec]
    simp only [Option.bind_some, m31_same _ c.1, m31_same _ c.2, b1, b2, b1', b2', b3, b3', drop_same, Bool.not_true, cond_false, cond_true, decide_true]

theorem PlanMerges_pure : ∀ x : AM.PDen [(true, kT), (false, (.int .i64)), (false, (.int .i64))], AM.PWf _ x → m9 x = some (true, ()) := by
  rintro ⟨⟨P, L, K, D, H, S, G⟩, block, ph, ⟨⟩⟩ _
  exact merges P L K D H S G block ph
end Go.Proofs.Ytecadglgkhfaaaa
end
