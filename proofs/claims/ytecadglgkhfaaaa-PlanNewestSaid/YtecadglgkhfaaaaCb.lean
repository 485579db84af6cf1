/- What the functions of this claim compute, each shown by the kernel, and what that comes to, with no program in sight. No condition. -/
import Derived.Test.YtecadglgkhfaaaaCa
set_option maxRecDepth 2000
set_option linter.unusedVariables false
set_option linter.unusedSimpArgs false
section
open Go Go.Proofs.AM
namespace Go.Proofs.Ytecadglgkhfaaaa

noncomputable def m17 (x : tT × tT × Unit) : Option (Bool × Unit) :=
 bif (!(decide (x.1.1 = x.2.1.1))) then
 (some (false, ()))
 else
 (bif (!(decide (x.1.2.1 = x.2.1.2.1))) then
 (some (false, ()))
 else
 (bif (!(decide (x.1.2.2.1 = x.2.1.2.2.1))) then
 (some (false, ()))
 else
 (bif (!((decide (x.1.2.2.2.2.2.1.1 = x.2.1.2.2.2.2.2.1.1)) && ((decide (x.1.2.2.2.2.2.1.2.1 = x.2.1.2.2.2.2.2.1.2.1)) && (decide (x.1.2.2.2.2.2.1.2.2 = x.2.1.2.2.2.2.2.1.2.2))))) then
 (some (false, ()))
 else
 (Option.bind (m51 (x.1.2.2.2.1, (x.2.1.2.2.2.1, ()))) fun (y1 : (Bool × Unit)) =>
 bif (!y1.1) then
 (some (false, ()))
 else
 (bif (!(decide ((((List.length x.1.2.2.2.2.1) : Nat) : Int) = (((List.length x.2.1.2.2.2.2.1) : Nat) : Int)))) then
 (some (false, ()))
 else
 (bif (!(decide ((((List.length x.1.2.2.2.2.2.2) : Nat) : Int) = (((List.length x.2.1.2.2.2.2.2.2) : Nat) : Int)))) then
 (some (false, ()))
 else
 (Option.bind (loopM (X := Int) (E := (Unit ⊕ Bool)) (fun (x2 : Int) =>
 bif (decide (x2 < (((List.length x.1.2.2.2.2.1) : Nat) : Int))) then
 (gd ((0 : Int) ≤ x2) (gd (x2 < (((List.length x.1.2.2.2.2.1) : Nat) : Int)) (gd ((0 : Int) ≤ x2) (gd (x2 < (((List.length x.2.1.2.2.2.2.1) : Nat) : Int)) (bif (!(bif (List.getD x.1.2.2.2.2.1 (Int.toNat x2) false) then (List.getD x.2.1.2.2.2.2.1 (Int.toNat x2) false) else (!(List.getD x.2.1.2.2.2.2.1 (Int.toNat x2) false)))) then
 (some (Sum.inr (Sum.inr false)))
 else
 (some (Sum.inl (Go.IntKind.wrap .i64 (x2 + (1 : Int))))))))))
 else
 (some (Sum.inr (Sum.inl ())))) (0 : Int)) fun (y2 : (Unit ⊕ Bool)) =>
 Sum.elim (fun y3 =>
 Option.bind (loopM (X := Int) (E := (Unit ⊕ Bool)) (fun (x4 : Int) =>
 bif (decide (x4 < (((List.length x.1.2.2.2.2.2.2) : Nat) : Int))) then
 (gd ((0 : Int) ≤ x4) (gd (x4 < (((List.length x.1.2.2.2.2.2.2) : Nat) : Int)) (gd ((0 : Int) ≤ x4) (gd (x4 < (((List.length x.2.1.2.2.2.2.2.2) : Nat) : Int)) (bif (!(decide ((List.getD x.1.2.2.2.2.2.2 (Int.toNat x4) ((0 : Int), ([] : List Int))).1 = (List.getD x.2.1.2.2.2.2.2.2 (Int.toNat x4) ((0 : Int), ([] : List Int))).1))) then
 (some (Sum.inr (Sum.inr false)))
 else
 (gd ((0 : Int) ≤ x4) (gd (x4 < (((List.length x.1.2.2.2.2.2.2) : Nat) : Int)) (gd ((0 : Int) ≤ x4) (gd (x4 < (((List.length x.2.1.2.2.2.2.2.2) : Nat) : Int)) (Option.bind (m51 ((List.getD x.1.2.2.2.2.2.2 (Int.toNat x4) ((0 : Int), ([] : List Int))).2, ((List.getD x.2.1.2.2.2.2.2.2 (Int.toNat x4) ((0 : Int), ([] : List Int))).2, ()))) fun (y5 : (Bool × Unit)) =>
 bif (!y5.1) then
 (some (Sum.inr (Sum.inr false)))
 else
 (some (Sum.inl (Go.IntKind.wrap .i64 (x4 + (1 : Int)))))))))))))))
 else
 (some (Sum.inr (Sum.inl ())))) (0 : Int)) fun (y4 : (Unit ⊕ Bool)) =>
 Sum.elim (fun y5 =>
 some (true, ())) (fun y5 =>
 some (y5, ())) y4) (fun y3 =>
 some (y3, ())) y2)))))))

noncomputable def r17 : PDen [(true, kT), (true, kT)] → Option (PDen [(false, .bool)]) := fun x => afun Try.prog ({ envOf [(51, ⟨[(false, (.sl (.int .i64))), (false, (.sl (.int .i64)))], [(false, .bool)], false, m51⟩)] [] [] [] with deep := [79] }) ⟨[(0, ⟨[.slot 5 (.d false (.int .i64) true)], [], [(some 0, []), (none, [.slot 4 (.d false .bool true)])], none⟩), (2, ⟨[.slot 6 (.d false (.int .i64) true)], [], [(some 2, []), (none, [.slot 4 (.d false .bool true)])], none⟩)], []⟩ Try.f17 [(true, kT), (true, kT)] [(false, .bool)] false x
theorem r17_eq : r17 = m17 := by kernel_rfl

theorem c17 : CS.Sound Try.prog 17 ⟨[(true, kT), (true, kT)], [(false, .bool)], false, m17⟩ := afun_sound' (Env.Sound.deepen (envOf_sound (CSs.cons c51 (CSs.nil)) (HDs.nil) (IDs.nil)) [79]) rfl Try.follows (f := 17) (fn := Try.f17) Try.func17 (by kernel_rfl) (by kernel_rfl) r17_eq
end Go.Proofs.Ytecadglgkhfaaaa
end

section
open Go Go.Proofs.AM
namespace Go.Proofs.Ytecadglgkhfaaaa

noncomputable def m19 (x : tT × (Int × Int) × Int × Unit) : Option (tT × ((Int × Int) × (Int × Unit))) :=
 Option.bind (m43 (x.1, ())) fun (y1 : (Int × Unit)) =>
 bif (!(decide (y1.1 = (0 : Int)))) then
 (some (((0 : Int), ((0 : Int), ((0 : Int), (([] : List Int), (([] : List Bool), (((0 : Int), ((0 : Int), (0 : Int))), ([] : List (Int × (List Int))))))))), (((0 : Int), (0 : Int)), (y1.1, ()))))
 else
 (Option.bind (m44 (x.1, (x.2.2.1, ()))) fun (y2 : (Bool × Unit)) =>
 bif (!y2.1) then
 (some (((0 : Int), ((0 : Int), ((0 : Int), (([] : List Int), (([] : List Bool), (((0 : Int), ((0 : Int), (0 : Int))), ([] : List (Int × (List Int))))))))), (((0 : Int), (0 : Int)), ((1 : Int), ()))))
 else
 (if x.1.1 = (0 : Int) then
 (none)
 else
 (if x.1.1 = (0 : Int) then
 (none)
 else
 (gd ((((List.length ([] : List Int)) + (List.length x.1.2.2.2.1)) * 8) ≤ 140737488355328) (gd (((List.length ([] : List Int)) + (List.length x.1.2.2.2.1)) ≤ 140737488355328) (gd ((((List.length ([] : List Bool)) + (List.length x.1.2.2.2.2.1)) * 1) ≤ 140737488355328) (gd (((List.length ([] : List Bool)) + (List.length x.1.2.2.2.2.1)) ≤ 140737488355328) (Option.bind (loopM (X := (Int × eT)) (E := eT) (fun (x3 : (Int × eT)) =>
 bif (decide (x3.1 < (((List.length x.1.2.2.2.2.2.2) : Nat) : Int))) then
 (gd ((0 : Int) ≤ x3.1) (gd (x3.1 < (((List.length x.1.2.2.2.2.2.2) : Nat) : Int)) (gd ((0 : Int) ≤ x3.1) (gd (x3.1 < (((List.length x.1.2.2.2.2.2.2) : Nat) : Int)) (gd ((((List.length ([] : List Int)) + (List.length (List.getD x.1.2.2.2.2.2.2 (Int.toNat x3.1) ((0 : Int), ([] : List Int))).2)) * 8) ≤ 140737488355328) (gd (((List.length ([] : List Int)) + (List.length (List.getD x.1.2.2.2.2.2.2 (Int.toNat x3.1) ((0 : Int), ([] : List Int))).2)) ≤ 140737488355328) (gd ((((List.length x3.2.2.2.2.2.2.2.2.2) + 1) * 32) ≤ 140737488355328) (gd (((List.length x3.2.2.2.2.2.2.2.2.2) + 1) ≤ 140737488355328) (some (Sum.inl ((Go.IntKind.wrap .i64 (x3.1 + (1 : Int))), (x3.2.1, (x3.2.2.1, (x3.2.2.2.1, (x3.2.2.2.2.1, (x3.2.2.2.2.2.1, (x3.2.2.2.2.2.2.1, (x3.2.2.2.2.2.2.2.1, (x3.2.2.2.2.2.2.2.2.1, (x3.2.2.2.2.2.2.2.2.2 ++ (((List.getD x.1.2.2.2.2.2.2 (Int.toNat x3.1) ((0 : Int), ([] : List Int))).1, (([] : List Int) ++ (List.getD x.1.2.2.2.2.2.2 (Int.toNat x3.1) ((0 : Int), ([] : List Int))).2)) :: ([] : List (Int × (List Int))))))))))))))))))))))))
 else
 (some (Sum.inr (x3.2.1, (x3.2.2.1, (x3.2.2.2.1, (x3.2.2.2.2.1, (x3.2.2.2.2.2.1, (x3.2.2.2.2.2.2.1, (x3.2.2.2.2.2.2.2.1, (x3.2.2.2.2.2.2.2.2.1, x3.2.2.2.2.2.2.2.2.2))))))))))) ((0 : Int), (x.1.1, (x.1.2.1, (x.1.2.2.1, ((([] : List Int) ++ x.1.2.2.2.1), ((([] : List Bool) ++ x.1.2.2.2.2.1), (x.1.2.2.2.2.2.1.1, (x.1.2.2.2.2.2.1.2.1, (x.1.2.2.2.2.2.1.2.2, ([] : List (Int × (List Int))))))))))))) fun (y3 : eT) =>
 Option.bind (loopM (X := (Int × (List (Int × (List Int))))) (E := (List (Int × (List Int)))) (fun (x4 : (Int × (List (Int × (List Int))))) =>
 bif (decide (x4.1 < (((List.length y3.2.2.2.2.2.2.2.2) : Nat) : Int))) then
 (Option.bind (loopM (X := (Int × (List (Int × (List Int))))) (E := (List (Int × (List Int)))) (fun (x5 : (Int × (List (Int × (List Int))))) =>
 gd ((0 : Int) ≤ x4.1) (gd (x4.1 < (((List.length y3.2.2.2.2.2.2.2.2) : Nat) : Int)) (gd ((Int.toNat x4.1) < (List.length x5.2)) (bif (decide (x5.1 < (((List.length (ith (A := Int) (ki := (.int .i64)) x5.2 (Int.toNat x4.1))) : Nat) : Int))) then
 (gd ((0 : Int) ≤ x4.1) (gd (x4.1 < (((List.length y3.2.2.2.2.2.2.2.2) : Nat) : Int)) (gd ((Int.toNat x4.1) < (List.length x5.2)) (gd ((0 : Int) ≤ x5.1) (gd (x5.1 < (((List.length (ith (A := Int) (ki := (.int .i64)) x5.2 (Int.toNat x4.1))) : Nat) : Int)) (gd ((Int.toNat x5.1) < (List.length (ith (A := Int) (ki := (.int .i64)) x5.2 (Int.toNat x4.1)))) (bif (decide ((List.getD (ith (A := Int) (ki := (.int .i64)) x5.2 (Int.toNat x4.1)) (Int.toNat x5.1) (0 : Int)) ≥ x.2.2.1)) then
 (bif (decide ((List.getD (ith (A := Int) (ki := (.int .i64)) x5.2 (Int.toNat x4.1)) (Int.toNat x5.1) (0 : Int)) < (Go.IntKind.wrap .i64 (x.2.2.1 + (1 : Int))))) then
 (gd ((0 : Int) ≤ x4.1) (gd (x4.1 < (((List.length y3.2.2.2.2.2.2.2.2) : Nat) : Int)) (gd ((Int.toNat x4.1) < (List.length x5.2)) (gd ((0 : Int) ≤ x5.1) (gd (x5.1 < (((List.length (ith (A := Int) (ki := (.int .i64)) x5.2 (Int.toNat x4.1))) : Nat) : Int)) (gd ((Int.toNat x5.1) < (List.length (ith (A := Int) (ki := (.int .i64)) x5.2 (Int.toNat x4.1)))) (some (Sum.inl ((Go.IntKind.wrap .i64 (x5.1 + (1 : Int))), (setIn (A := Int) (ki := (.int .i64)) x5.2 (Int.toNat x4.1) (List.set (ith (A := Int) (ki := (.int .i64)) x5.2 (Int.toNat x4.1)) (Int.toNat x5.1) (-1 : Int))))))))))))
 else
 (some (Sum.inl ((Go.IntKind.wrap .i64 (x5.1 + (1 : Int))), x5.2))))
 else
 (some (Sum.inl ((Go.IntKind.wrap .i64 (x5.1 + (1 : Int))), x5.2))))))))))
 else
 (some (Sum.inr x5.2)))))) ((0 : Int), x4.2)) fun (y5 : (List (Int × (List Int)))) =>
 some (Sum.inl ((Go.IntKind.wrap .i64 (x4.1 + (1 : Int))), y5)))
 else
 (some (Sum.inr x4.2))) ((0 : Int), y3.2.2.2.2.2.2.2.2)) fun (y4 : (List (Int × (List Int)))) =>
 bif (decide (x.2.1.1 = (1 : Int))) then
 (bif (decide (x.1.2.2.2.2.2.1.1 ≥ (0 : Int))) then
 (bif (decide (x.1.2.2.2.2.2.1.2.1 = (Go.IntKind.wrap .i64 (Int.tdiv x.2.2.1 x.1.1)))) then
 (bif (decide (x.1.2.2.2.2.2.1.2.2 = (Int.tmod x.2.2.1 x.1.1))) then
 (some ((y3.1, (y3.2.1, (y3.2.2.1, (y3.2.2.2.1, (y3.2.2.2.2.1, ((y3.2.2.2.2.2.1, (y3.2.2.2.2.2.2.1, (Go.IntKind.wrap .i64 (y3.2.2.2.2.2.2.2.1 + (1 : Int))))), y4)))))), ((y3.2.2.2.2.2.1, (Int.tmod x.2.2.1 x.1.1)), ((0 : Int), ()))))
 else
 (bif (decide (x.2.1.1 = (2 : Int))) then
 (Option.bind (m46 (x.1, ())) fun (y5 : (Bool × Unit)) =>
 bif y5.1 then
 (gd ((0 : Int) ≤ (Go.IntKind.wrap .i64 ((((List.length y3.2.2.2.2.2.2.2.2) : Nat) : Int) - (1 : Int)))) (gd ((Go.IntKind.wrap .i64 ((((List.length y3.2.2.2.2.2.2.2.2) : Nat) : Int) - (1 : Int))) < (((List.length y3.2.2.2.2.2.2.2.2) : Nat) : Int)) (gd ((Int.toNat (Go.IntKind.wrap .i64 ((((List.length y3.2.2.2.2.2.2.2.2) : Nat) : Int) - (1 : Int)))) < (List.length y4)) (gd ((((List.length (ith (A := Int) (ki := (.int .i64)) y4 (Int.toNat (Go.IntKind.wrap .i64 ((((List.length y3.2.2.2.2.2.2.2.2) : Nat) : Int) - (1 : Int)))))) + (List.length (x.2.2.1 :: ([] : List Int)))) * 8) ≤ 140737488355328) (gd (((List.length (ith (A := Int) (ki := (.int .i64)) y4 (Int.toNat (Go.IntKind.wrap .i64 ((((List.length y3.2.2.2.2.2.2.2.2) : Nat) : Int) - (1 : Int)))))) + (List.length (x.2.2.1 :: ([] : List Int)))) ≤ 140737488355328) (gd ((0 : Int) ≤ (Go.IntKind.wrap .i64 ((((List.length y3.2.2.2.2.2.2.2.2) : Nat) : Int) - (1 : Int)))) (gd ((Go.IntKind.wrap .i64 ((((List.length y3.2.2.2.2.2.2.2.2) : Nat) : Int) - (1 : Int))) < (((List.length y3.2.2.2.2.2.2.2.2) : Nat) : Int)) (gd ((Int.toNat (Go.IntKind.wrap .i64 ((((List.length y3.2.2.2.2.2.2.2.2) : Nat) : Int) - (1 : Int)))) = (Int.toNat (Go.IntKind.wrap .i64 ((((List.length y3.2.2.2.2.2.2.2.2) : Nat) : Int) - (1 : Int))))) (gd ((Int.toNat (Go.IntKind.wrap .i64 ((((List.length y3.2.2.2.2.2.2.2.2) : Nat) : Int) - (1 : Int)))) = (Int.toNat (Go.IntKind.wrap .i64 ((((List.length y3.2.2.2.2.2.2.2.2) : Nat) : Int) - (1 : Int))))) (gd ((0 : Int) ≤ (Go.IntKind.wrap .i64 ((((List.length y3.2.2.2.2.2.2.2.2) : Nat) : Int) - (1 : Int)))) (gd ((Go.IntKind.wrap .i64 ((((List.length y3.2.2.2.2.2.2.2.2) : Nat) : Int) - (1 : Int))) < (((List.length y3.2.2.2.2.2.2.2.2) : Nat) : Int)) (gd ((Int.toNat (Go.IntKind.wrap .i64 ((((List.length y3.2.2.2.2.2.2.2.2) : Nat) : Int) - (1 : Int)))) < (List.length (setIn (A := Int) (ki := (.int .i64)) y4 (Int.toNat (Go.IntKind.wrap .i64 ((((List.length y3.2.2.2.2.2.2.2.2) : Nat) : Int) - (1 : Int)))) ((ith (A := Int) (ki := (.int .i64)) y4 (Int.toNat (Go.IntKind.wrap .i64 ((((List.length y3.2.2.2.2.2.2.2.2) : Nat) : Int) - (1 : Int))))) ++ (x.2.2.1 :: ([] : List Int)))))) (gd ((0 : Int) ≤ (Go.IntKind.wrap .i64 ((((List.length y3.2.2.2.2.2.2.2.2) : Nat) : Int) - (1 : Int)))) (gd ((Go.IntKind.wrap .i64 ((((List.length y3.2.2.2.2.2.2.2.2) : Nat) : Int) - (1 : Int))) < (((List.length y3.2.2.2.2.2.2.2.2) : Nat) : Int)) (gd ((Int.toNat (Go.IntKind.wrap .i64 ((((List.length y3.2.2.2.2.2.2.2.2) : Nat) : Int) - (1 : Int)))) < (List.length (setIn (A := Int) (ki := (.int .i64)) y4 (Int.toNat (Go.IntKind.wrap .i64 ((((List.length y3.2.2.2.2.2.2.2.2) : Nat) : Int) - (1 : Int)))) ((ith (A := Int) (ki := (.int .i64)) y4 (Int.toNat (Go.IntKind.wrap .i64 ((((List.length y3.2.2.2.2.2.2.2.2) : Nat) : Int) - (1 : Int))))) ++ (x.2.2.1 :: ([] : List Int)))))) (some ((y3.1, (y3.2.1, (y3.2.2.1, (y3.2.2.2.1, (y3.2.2.2.2.1, ((y3.2.2.2.2.2.1, (y3.2.2.2.2.2.2.1, y3.2.2.2.2.2.2.2.1)), (setIn (A := Int) (ki := (.int .i64)) y4 (Int.toNat (Go.IntKind.wrap .i64 ((((List.length y3.2.2.2.2.2.2.2.2) : Nat) : Int) - (1 : Int)))) ((ith (A := Int) (ki := (.int .i64)) y4 (Int.toNat (Go.IntKind.wrap .i64 ((((List.length y3.2.2.2.2.2.2.2.2) : Nat) : Int) - (1 : Int))))) ++ (x.2.2.1 :: ([] : List Int)))))))))), (((hth (kh := (.int .i64)) (ki := (.int .i64)) (setIn (A := Int) (ki := (.int .i64)) y4 (Int.toNat (Go.IntKind.wrap .i64 ((((List.length y3.2.2.2.2.2.2.2.2) : Nat) : Int) - (1 : Int)))) ((ith (A := Int) (ki := (.int .i64)) y4 (Int.toNat (Go.IntKind.wrap .i64 ((((List.length y3.2.2.2.2.2.2.2.2) : Nat) : Int) - (1 : Int))))) ++ (x.2.2.1 :: ([] : List Int)))) (Int.toNat (Go.IntKind.wrap .i64 ((((List.length y3.2.2.2.2.2.2.2.2) : Nat) : Int) - (1 : Int))))), (Go.IntKind.wrap .i64 ((((List.length (ith (A := Int) (ki := (.int .i64)) (setIn (A := Int) (ki := (.int .i64)) y4 (Int.toNat (Go.IntKind.wrap .i64 ((((List.length y3.2.2.2.2.2.2.2.2) : Nat) : Int) - (1 : Int)))) ((ith (A := Int) (ki := (.int .i64)) y4 (Int.toNat (Go.IntKind.wrap .i64 ((((List.length y3.2.2.2.2.2.2.2.2) : Nat) : Int) - (1 : Int))))) ++ (x.2.2.1 :: ([] : List Int)))) (Int.toNat (Go.IntKind.wrap .i64 ((((List.length y3.2.2.2.2.2.2.2.2) : Nat) : Int) - (1 : Int)))))) : Nat) : Int) - (1 : Int)))), ((0 : Int), ())))))))))))))))))))
 else
 (some (((0 : Int), ((0 : Int), ((0 : Int), (([] : List Int), (([] : List Bool), (((0 : Int), ((0 : Int), (0 : Int))), ([] : List (Int × (List Int))))))))), (((0 : Int), (0 : Int)), ((51 : Int), ())))))
 else
 (some (((0 : Int), ((0 : Int), ((0 : Int), (([] : List Int), (([] : List Bool), (((0 : Int), ((0 : Int), (0 : Int))), ([] : List (Int × (List Int))))))))), (((0 : Int), (0 : Int)), ((51 : Int), ()))))))
 else
 (bif (decide (x.2.1.1 = (2 : Int))) then
 (Option.bind (m46 (x.1, ())) fun (y5 : (Bool × Unit)) =>
 bif y5.1 then
 (gd ((0 : Int) ≤ (Go.IntKind.wrap .i64 ((((List.length y3.2.2.2.2.2.2.2.2) : Nat) : Int) - (1 : Int)))) (gd ((Go.IntKind.wrap .i64 ((((List.length y3.2.2.2.2.2.2.2.2) : Nat) : Int) - (1 : Int))) < (((List.length y3.2.2.2.2.2.2.2.2) : Nat) : Int)) (gd ((Int.toNat (Go.IntKind.wrap .i64 ((((List.length y3.2.2.2.2.2.2.2.2) : Nat) : Int) - (1 : Int)))) < (List.length y4)) (gd ((((List.length (ith (A := Int) (ki := (.int .i64)) y4 (Int.toNat (Go.IntKind.wrap .i64 ((((List.length y3.2.2.2.2.2.2.2.2) : Nat) : Int) - (1 : Int)))))) + (List.length (x.2.2.1 :: ([] : List Int)))) * 8) ≤ 140737488355328) (gd (((List.length (ith (A := Int) (ki := (.int .i64)) y4 (Int.toNat (Go.IntKind.wrap .i64 ((((List.length y3.2.2.2.2.2.2.2.2) : Nat) : Int) - (1 : Int)))))) + (List.length (x.2.2.1 :: ([] : List Int)))) ≤ 140737488355328) (gd ((0 : Int) ≤ (Go.IntKind.wrap .i64 ((((List.length y3.2.2.2.2.2.2.2.2) : Nat) : Int) - (1 : Int)))) (gd ((Go.IntKind.wrap .i64 ((((List.length y3.2.2.2.2.2.2.2.2) : Nat) : Int) - (1 : Int))) < (((List.length y3.2.2.2.2.2.2.2.2) : Nat) : Int)) (gd ((Int.toNat (Go.IntKind.wrap .i64 ((((List.length y3.2.2.2.2.2.2.2.2) : Nat) : Int) - (1 : Int)))) = (Int.toNat (Go.IntKind.wrap .i64 ((((List.length y3.2.2.2.2.2.2.2.2) : Nat) : Int) - (1 : Int))))) (gd ((Int.toNat (Go.IntKind.wrap .i64 ((((List.length y3.2.2.2.2.2.2.2.2) : Nat) : Int) - (1 : Int)))) = (Int.toNat (Go.IntKind.wrap .i64 ((((List.length y3.2.2.2.2.2.2.2.2) : Nat) : Int) - (1 : Int))))) (gd ((0 : Int) ≤ (Go.IntKind.wrap .i64 ((((List.length y3.2.2.2.2.2.2.2.2) : Nat) : Int) - (1 : Int)))) (gd ((Go.IntKind.wrap .i64 ((((List.length y3.2.2.2.2.2.2.2.2) : Nat) : Int) - (1 : Int))) < (((List.length y3.2.2.2.2.2.2.2.2) : Nat) : Int)) (gd ((Int.toNat (Go.IntKind.wrap .i64 ((((List.length y3.2.2.2.2.2.2.2.2) : Nat) : Int) - (1 : Int)))) < (List.length (setIn (A := Int) (ki := (.int .i64)) y4 (Int.toNat (Go.IntKind.wrap .i64 ((((List.length y3.2.2.2.2.2.2.2.2) : Nat) : Int) - (1 : Int)))) ((ith (A := Int) (ki := (.int .i64)) y4 (Int.toNat (Go.IntKind.wrap .i64 ((((List.length y3.2.2.2.2.2.2.2.2) : Nat) : Int) - (1 : Int))))) ++ (x.2.2.1 :: ([] : List Int)))))) (gd ((0 : Int) ≤ (Go.IntKind.wrap .i64 ((((List.length y3.2.2.2.2.2.2.2.2) : Nat) : Int) - (1 : Int)))) (gd ((Go.IntKind.wrap .i64 ((((List.length y3.2.2.2.2.2.2.2.2) : Nat) : Int) - (1 : Int))) < (((List.length y3.2.2.2.2.2.2.2.2) : Nat) : Int)) (gd ((Int.toNat (Go.IntKind.wrap .i64 ((((List.length y3.2.2.2.2.2.2.2.2) : Nat) : Int) - (1 : Int)))) < (List.length (setIn (A := Int) (ki := (.int .i64)) y4 (Int.toNat (Go.IntKind.wrap .i64 ((((List.length y3.2.2.2.2.2.2.2.2) : Nat) : Int) - (1 : Int)))) ((ith (A := Int) (ki := (.int .i64)) y4 (Int.toNat (Go.IntKind.wrap .i64 ((((List.length y3.2.2.2.2.2.2.2.2) : Nat) : Int) - (1 : Int))))) ++ (x.2.2.1 :: ([] : List Int)))))) (some ((y3.1, (y3.2.1, (y3.2.2.1, (y3.2.2.2.1, (y3.2.2.2.2.1, ((y3.2.2.2.2.2.1, (y3.2.2.2.2.2.2.1, y3.2.2.2.2.2.2.2.1)), (setIn (A := Int) (ki := (.int .i64)) y4 (Int.toNat (Go.IntKind.wrap .i64 ((((List.length y3.2.2.2.2.2.2.2.2) : Nat) : Int) - (1 : Int)))) ((ith (A := Int) (ki := (.int .i64)) y4 (Int.toNat (Go.IntKind.wrap .i64 ((((List.length y3.2.2.2.2.2.2.2.2) : Nat) : Int) - (1 : Int))))) ++ (x.2.2.1 :: ([] : List Int)))))))))), (((hth (kh := (.int .i64)) (ki := (.int .i64)) (setIn (A := Int) (ki := (.int .i64)) y4 (Int.toNat (Go.IntKind.wrap .i64 ((((List.length y3.2.2.2.2.2.2.2.2) : Nat) : Int) - (1 : Int)))) ((ith (A := Int) (ki := (.int .i64)) y4 (Int.toNat (Go.IntKind.wrap .i64 ((((List.length y3.2.2.2.2.2.2.2.2) : Nat) : Int) - (1 : Int))))) ++ (x.2.2.1 :: ([] : List Int)))) (Int.toNat (Go.IntKind.wrap .i64 ((((List.length y3.2.2.2.2.2.2.2.2) : Nat) : Int) - (1 : Int))))), (Go.IntKind.wrap .i64 ((((List.length (ith (A := Int) (ki := (.int .i64)) (setIn (A := Int) (ki := (.int .i64)) y4 (Int.toNat (Go.IntKind.wrap .i64 ((((List.length y3.2.2.2.2.2.2.2.2) : Nat) : Int) - (1 : Int)))) ((ith (A := Int) (ki := (.int .i64)) y4 (Int.toNat (Go.IntKind.wrap .i64 ((((List.length y3.2.2.2.2.2.2.2.2) : Nat) : Int) - (1 : Int))))) ++ (x.2.2.1 :: ([] : List Int)))) (Int.toNat (Go.IntKind.wrap .i64 ((((List.length y3.2.2.2.2.2.2.2.2) : Nat) : Int) - (1 : Int)))))) : Nat) : Int) - (1 : Int)))), ((0 : Int), ())))))))))))))))))))
 else
 (some (((0 : Int), ((0 : Int), ((0 : Int), (([] : List Int), (([] : List Bool), (((0 : Int), ((0 : Int), (0 : Int))), ([] : List (Int × (List Int))))))))), (((0 : Int), (0 : Int)), ((51 : Int), ())))))
 else
 (some (((0 : Int), ((0 : Int), ((0 : Int), (([] : List Int), (([] : List Bool), (((0 : Int), ((0 : Int), (0 : Int))), ([] : List (Int × (List Int))))))))), (((0 : Int), (0 : Int)), ((51 : Int), ()))))))
 else
 (bif (decide (x.2.1.1 = (2 : Int))) then
 (Option.bind (m46 (x.1, ())) fun (y5 : (Bool × Unit)) =>
 bif y5.1 then
 (gd ((0 : Int) ≤ (Go.IntKind.wrap .i64 ((((List.length y3.2.2.2.2.2.2.2.2) : Nat) : Int) - (1 : Int)))) (gd ((Go.IntKind.wrap .i64 ((((List.length y3.2.2.2.2.2.2.2.2) : Nat) : Int) - (1 : Int))) < (((List.length y3.2.2.2.2.2.2.2.2) : Nat) : Int)) (gd ((Int.toNat (Go.IntKind.wrap .i64 ((((List.length y3.2.2.2.2.2.2.2.2) : Nat) : Int) - (1 : Int)))) < (List.length y4)) (gd ((((List.length (ith (A := Int) (ki := (.int .i64)) y4 (Int.toNat (Go.IntKind.wrap .i64 ((((List.length y3.2.2.2.2.2.2.2.2) : Nat) : Int) - (1 : Int)))))) + (List.length (x.2.2.1 :: ([] : List Int)))) * 8) ≤ 140737488355328) (gd (((List.length (ith (A := Int) (ki := (.int .i64)) y4 (Int.toNat (Go.IntKind.wrap .i64 ((((List.length y3.2.2.2.2.2.2.2.2) : Nat) : Int) - (1 : Int)))))) + (List.length (x.2.2.1 :: ([] : List Int)))) ≤ 140737488355328) (gd ((0 : Int) ≤ (Go.IntKind.wrap .i64 ((((List.length y3.2.2.2.2.2.2.2.2) : Nat) : Int) - (1 : Int)))) (gd ((Go.IntKind.wrap .i64 ((((List.length y3.2.2.2.2.2.2.2.2) : Nat) : Int) - (1 : Int))) < (((List.length y3.2.2.2.2.2.2.2.2) : Nat) : Int)) (gd ((Int.toNat (Go.IntKind.wrap .i64 ((((List.length y3.2.2.2.2.2.2.2.2) : Nat) : Int) - (1 : Int)))) = (Int.toNat (Go.IntKind.wrap .i64 ((((List.length y3.2.2.2.2.2.2.2.2) : Nat) : Int) - (1 : Int))))) (gd ((Int.toNat (Go.IntKind.wrap .i64 ((((List.length y3.2.2.2.2.2.2.2.2) : Nat) : Int) - (1 : Int)))) = (Int.toNat (Go.IntKind.wrap .i64 ((((List.length y3.2.2.2.2.2.2.2.2) : Nat) : Int) - (1 : Int))))) (gd ((0 : Int) ≤ (Go.IntKind.wrap .i64 ((((List.length y3.2.2.2.2.2.2.2.2) : Nat) : Int) - (1 : Int)))) (gd ((Go.IntKind.wrap .i64 ((((List.length y3.2.2.2.2.2.2.2.2) : Nat) : Int) - (1 : Int))) < (((List.length y3.2.2.2.2.2.2.2.2) : Nat) : Int)) (gd ((Int.toNat (Go.IntKind.wrap .i64 ((((List.length y3.2.2.2.2.2.2.2.2) : Nat) : Int) - (1 : Int)))) < (List.length (setIn (A := Int) (ki := (.int .i64)) y4 (Int.toNat (Go.IntKind.wrap .i64 ((((List.length y3.2.2.2.2.2.2.2.2) : Nat) : Int) - (1 : Int)))) ((ith (A := Int) (ki := (.int .i64)) y4 (Int.toNat (Go.IntKind.wrap .i64 ((((List.length y3.2.2.2.2.2.2.2.2) : Nat) : Int) - (1 : Int))))) ++ (x.2.2.1 :: ([] : List Int)))))) (gd ((0 : Int) ≤ (Go.IntKind.wrap .i64 ((((List.length y3.2.2.2.2.2.2.2.2) : Nat) : Int) - (1 : Int)))) (gd ((Go.IntKind.wrap .i64 ((((List.length y3.2.2.2.2.2.2.2.2) : Nat) : Int) - (1 : Int))) < (((List.length y3.2.2.2.2.2.2.2.2) : Nat) : Int)) (gd ((Int.toNat (Go.IntKind.wrap .i64 ((((List.length y3.2.2.2.2.2.2.2.2) : Nat) : Int) - (1 : Int)))) < (List.length (setIn (A := Int) (ki := (.int .i64)) y4 (Int.toNat (Go.IntKind.wrap .i64 ((((List.length y3.2.2.2.2.2.2.2.2) : Nat) : Int) - (1 : Int)))) ((ith (A := Int) (ki := (.int .i64)) y4 (Int.toNat (Go.IntKind.wrap .i64 ((((List.length y3.2.2.2.2.2.2.2.2) : Nat) : Int) - (1 : Int))))) ++ (x.2.2.1 :: ([] : List Int)))))) (some ((y3.1, (y3.2.1, (y3.2.2.1, (y3.2.2.2.1, (y3.2.2.2.2.1, ((y3.2.2.2.2.2.1, (y3.2.2.2.2.2.2.1, y3.2.2.2.2.2.2.2.1)), (setIn (A := Int) (ki := (.int .i64)) y4 (Int.toNat (Go.IntKind.wrap .i64 ((((List.length y3.2.2.2.2.2.2.2.2) : Nat) : Int) - (1 : Int)))) ((ith (A := Int) (ki := (.int .i64)) y4 (Int.toNat (Go.IntKind.wrap .i64 ((((List.length y3.2.2.2.2.2.2.2.2) : Nat) : Int) - (1 : Int))))) ++ (x.2.2.1 :: ([] : List Int)))))))))), (((hth (kh := (.int .i64)) (ki := (.int .i64)) (setIn (A := Int) (ki := (.int .i64)) y4 (Int.toNat (Go.IntKind.wrap .i64 ((((List.length y3.2.2.2.2.2.2.2.2) : Nat) : Int) - (1 : Int)))) ((ith (A := Int) (ki := (.int .i64)) y4 (Int.toNat (Go.IntKind.wrap .i64 ((((List.length y3.2.2.2.2.2.2.2.2) : Nat) : Int) - (1 : Int))))) ++ (x.2.2.1 :: ([] : List Int)))) (Int.toNat (Go.IntKind.wrap .i64 ((((List.length y3.2.2.2.2.2.2.2.2) : Nat) : Int) - (1 : Int))))), (Go.IntKind.wrap .i64 ((((List.length (ith (A := Int) (ki := (.int .i64)) (setIn (A := Int) (ki := (.int .i64)) y4 (Int.toNat (Go.IntKind.wrap .i64 ((((List.length y3.2.2.2.2.2.2.2.2) : Nat) : Int) - (1 : Int)))) ((ith (A := Int) (ki := (.int .i64)) y4 (Int.toNat (Go.IntKind.wrap .i64 ((((List.length y3.2.2.2.2.2.2.2.2) : Nat) : Int) - (1 : Int))))) ++ (x.2.2.1 :: ([] : List Int)))) (Int.toNat (Go.IntKind.wrap .i64 ((((List.length y3.2.2.2.2.2.2.2.2) : Nat) : Int) - (1 : Int)))))) : Nat) : Int) - (1 : Int)))), ((0 : Int), ())))))))))))))))))))
 else
 (some (((0 : Int), ((0 : Int), ((0 : Int), (([] : List Int), (([] : List Bool), (((0 : Int), ((0 : Int), (0 : Int))), ([] : List (Int × (List Int))))))))), (((0 : Int), (0 : Int)), ((51 : Int), ())))))
 else
 (some (((0 : Int), ((0 : Int), ((0 : Int), (([] : List Int), (([] : List Bool), (((0 : Int), ((0 : Int), (0 : Int))), ([] : List (Int × (List Int))))))))), (((0 : Int), (0 : Int)), ((51 : Int), ()))))))
 else
 (bif (decide (x.2.1.1 = (2 : Int))) then
 (Option.bind (m46 (x.1, ())) fun (y5 : (Bool × Unit)) =>
 bif y5.1 then
 (gd ((0 : Int) ≤ (Go.IntKind.wrap .i64 ((((List.length y3.2.2.2.2.2.2.2.2) : Nat) : Int) - (1 : Int)))) (gd ((Go.IntKind.wrap .i64 ((((List.length y3.2.2.2.2.2.2.2.2) : Nat) : Int) - (1 : Int))) < (((List.length y3.2.2.2.2.2.2.2.2) : Nat) : Int)) (gd ((Int.toNat (Go.IntKind.wrap .i64 ((((List.length y3.2.2.2.2.2.2.2.2) : Nat) : Int) - (1 : Int)))) < (List.length y4)) (gd ((((List.length (ith (A := Int) (ki := (.int .i64)) y4 (Int.toNat (Go.IntKind.wrap .i64 ((((List.length y3.2.2.2.2.2.2.2.2) : Nat) : Int) - (1 : Int)))))) + (List.length (x.2.2.1 :: ([] : List Int)))) * 8) ≤ 140737488355328) (gd (((List.length (ith (A := Int) (ki := (.int .i64)) y4 (Int.toNat (Go.IntKind.wrap .i64 ((((List.length y3.2.2.2.2.2.2.2.2) : Nat) : Int) - (1 : Int)))))) + (List.length (x.2.2.1 :: ([] : List Int)))) ≤ 140737488355328) (gd ((0 : Int) ≤ (Go.IntKind.wrap .i64 ((((List.length y3.2.2.2.2.2.2.2.2) : Nat) : Int) - (1 : Int)))) (gd ((Go.IntKind.wrap .i64 ((((List.length y3.2.2.2.2.2.2.2.2) : Nat) : Int) - (1 : Int))) < (((List.length y3.2.2.2.2.2.2.2.2) : Nat) : Int)) (gd ((Int.toNat (Go.IntKind.wrap .i64 ((((List.length y3.2.2.2.2.2.2.2.2) : Nat) : Int) - (1 : Int)))) = (Int.toNat (Go.IntKind.wrap .i64 ((((List.length y3.2.2.2.2.2.2.2.2) : Nat) : Int) - (1 : Int))))) (gd ((Int.toNat (Go.IntKind.wrap .i64 ((((List.length y3.2.2.2.2.2.2.2.2) : Nat) : Int) - (1 : Int)))) = (Int.toNat (Go.IntKind.wrap .i64 ((((List.length y3.2.2.2.2.2.2.2.2) : Nat) : Int) - (1 : Int))))) (gd ((0 : Int) ≤ (Go.IntKind.wrap .i64 ((((List.length y3.2.2.2.2.2.2.2.2) : Nat) : Int) - (1 : Int)))) (gd ((Go.IntKind.wrap .i64 ((((List.length y3.2.2.2.2.2.2.2.2) : Nat) : Int) - (1 : Int))) < (((List.length y3.2.2.2.2.2.2.2.2) : Nat) : Int)) (gd ((Int.toNat (Go.IntKind.wrap .i64 ((((List.length y3.2.2.2.2.2.2.2.2) : Nat) : Int) - (1 : Int)))) < (List.length (setIn (A := Int) (ki := (.int .i64)) y4 (Int.toNat (Go.IntKind.wrap .i64 ((((List.length y3.2.2.2.2.2.2.2.2) : Nat) : Int) - (1 : Int)))) ((ith (A := Int) (ki := (.int .i64)) y4 (Int.toNat (Go.IntKind.wrap .i64 ((((List.length y3.2.2.2.2.2.2.2.2) : Nat) : Int) - (1 : Int))))) ++ (x.2.2.1 :: ([] : List Int)))))) (gd ((0 : Int) ≤ (Go.IntKind.wrap .i64 ((((List.length y3.2.2.2.2.2.2.2.2) : Nat) : Int) - (1 : Int)))) (gd ((Go.IntKind.wrap .i64 ((((List.length y3.2.2.2.2.2.2.2.2) : Nat) : Int) - (1 : Int))) < (((List.length y3.2.2.2.2.2.2.2.2) : Nat) : Int)) (gd ((Int.toNat (Go.IntKind.wrap .i64 ((((List.length y3.2.2.2.2.2.2.2.2) : Nat) : Int) - (1 : Int)))) < (List.length (setIn (A := Int) (ki := (.int .i64)) y4 (Int.toNat (Go.IntKind.wrap .i64 ((((List.length y3.2.2.2.2.2.2.2.2) : Nat) : Int) - (1 : Int)))) ((ith (A := Int) (ki := (.int .i64)) y4 (Int.toNat (Go.IntKind.wrap .i64 ((((List.length y3.2.2.2.2.2.2.2.2) : Nat) : Int) - (1 : Int))))) ++ (x.2.2.1 :: ([] : List Int)))))) (some ((y3.1, (y3.2.1, (y3.2.2.1, (y3.2.2.2.1, (y3.2.2.2.2.1, ((y3.2.2.2.2.2.1, (y3.2.2.2.2.2.2.1, y3.2.2.2.2.2.2.2.1)), (setIn (A := Int) (ki := (.int .i64)) y4 (Int.toNat (Go.IntKind.wrap .i64 ((((List.length y3.2.2.2.2.2.2.2.2) : Nat) : Int) - (1 : Int)))) ((ith (A := Int) (ki := (.int .i64)) y4 (Int.toNat (Go.IntKind.wrap .i64 ((((List.length y3.2.2.2.2.2.2.2.2) : Nat) : Int) - (1 : Int))))) ++ (x.2.2.1 :: ([] : List Int)))))))))), (((hth (kh := (.int .i64)) (ki := (.int .i64)) (setIn (A := Int) (ki := (.int .i64)) y4 (Int.toNat (Go.IntKind.wrap .i64 ((((List.length y3.2.2.2.2.2.2.2.2) : Nat) : Int) - (1 : Int)))) ((ith (A := Int) (ki := (.int .i64)) y4 (Int.toNat (Go.IntKind.wrap .i64 ((((List.length y3.2.2.2.2.2.2.2.2) : Nat) : Int) - (1 : Int))))) ++ (x.2.2.1 :: ([] : List Int)))) (Int.toNat (Go.IntKind.wrap .i64 ((((List.length y3.2.2.2.2.2.2.2.2) : Nat) : Int) - (1 : Int))))), (Go.IntKind.wrap .i64 ((((List.length (ith (A := Int) (ki := (.int .i64)) (setIn (A := Int) (ki := (.int .i64)) y4 (Int.toNat (Go.IntKind.wrap .i64 ((((List.length y3.2.2.2.2.2.2.2.2) : Nat) : Int) - (1 : Int)))) ((ith (A := Int) (ki := (.int .i64)) y4 (Int.toNat (Go.IntKind.wrap .i64 ((((List.length y3.2.2.2.2.2.2.2.2) : Nat) : Int) - (1 : Int))))) ++ (x.2.2.1 :: ([] : List Int)))) (Int.toNat (Go.IntKind.wrap .i64 ((((List.length y3.2.2.2.2.2.2.2.2) : Nat) : Int) - (1 : Int)))))) : Nat) : Int) - (1 : Int)))), ((0 : Int), ())))))))))))))))))))
 else
 (some (((0 : Int), ((0 : Int), ((0 : Int), (([] : List Int), (([] : List Bool), (((0 : Int), ((0 : Int), (0 : Int))), ([] : List (Int × (List Int))))))))), (((0 : Int), (0 : Int)), ((51 : Int), ())))))
 else
 (some (((0 : Int), ((0 : Int), ((0 : Int), (([] : List Int), (([] : List Bool), (((0 : Int), ((0 : Int), (0 : Int))), ([] : List (Int × (List Int))))))))), (((0 : Int), (0 : Int)), ((51 : Int), ())))))))))))))

noncomputable def i19_12 : ID := aInl Try.prog ({ envOf [] [] [] [] with deep := [79] }) ⟨[(10000, ⟨[.slot 4 (.d false (.int .i64) true), .cell 6 0 (.d false (.int .i64) true), .cell 6 1 (.d false (.int .i64) true), .cell 6 2 (.d false (.int .i64) true), .cell 6 3 (.v 3 (.int .i64) true), .cell 6 4 (.v 4 .bool true), .cell 6 5 (.d false (.int .i64) true), .cell 6 6 (.d false (.int .i64) true), .cell 6 7 (.d false (.int .i64) true), .cell 6 8 (.h 79 3 (.int .i64) (.int .i64))], [7, 8], [(some 0, [.cell 6 0 (.d false (.int .i64) true), .cell 6 1 (.d false (.int .i64) true), .cell 6 2 (.d false (.int .i64) true), .cell 6 3 (.v 3 (.int .i64) true), .cell 6 4 (.v 4 .bool true), .cell 6 5 (.d false (.int .i64) true), .cell 6 6 (.d false (.int .i64) true), .cell 6 7 (.d false (.int .i64) true), .cell 6 8 (.h 79 3 (.int .i64) (.int .i64))])], none⟩)], []⟩ Try.f12
noncomputable def i19_54 : ID := aInl Try.prog ({ envOf [] [] [] [] with deep := [79] }) ⟨[(15000, ⟨[.slot 7 (.d false (.int .i64) true), .dvec 11 79 3 (.int .i64) (.int .i64)], [], [(some 0, [.dvec 11 79 3 (.int .i64) (.int .i64)])], none⟩), (15002, ⟨[.slot 8 (.d false (.int .i64) true), .dvec 11 79 3 (.int .i64) (.int .i64)], [], [(some 2, [.dvec 11 79 3 (.int .i64) (.int .i64)])], none⟩)], []⟩ Try.f54
noncomputable def r19 : PDen [(true, kT), (true, (.pair (.int .i64) (.int .i64))), (false, (.int .i64))] → Option (PDen [(true, kT), (true, (.pair (.int .i64) (.int .i64))), (false, (.int .i64))]) := fun x => afun Try.prog ({ envOf [(43, ⟨[(true, kT)], [(false, (.int .i64))], false, m43⟩), (44, ⟨[(true, kT), (false, (.int .i64))], [(false, .bool)], false, m44⟩), (46, ⟨[(true, kT)], [(false, .bool)], false, m46⟩)] [] [] [(12, i19_12), (54, i19_54)] with deep := [79] }) ⟨[], []⟩ Try.f19 [(true, kT), (true, (.pair (.int .i64) (.int .i64))), (false, (.int .i64))] [(true, kT), (true, (.pair (.int .i64) (.int .i64))), (false, (.int .i64))] false x
theorem r19_eq : r19 = m19 := by kernel_rfl

theorem i19_12_sound : i19_12.Sound Try.prog 12 := aInl_sound' (Env.Sound.deepen (envOf_sound (CSs.nil) (HDs.nil) (IDs.nil)) [79]) Try.follows (f := 12) (fn := Try.f12) Try.func12 (by kernel_rfl) (by kernel_rfl)
theorem i19_54_sound : i19_54.Sound Try.prog 54 := aInl_sound' (Env.Sound.deepen (envOf_sound (CSs.nil) (HDs.nil) (IDs.nil)) [79]) Try.follows (f := 54) (fn := Try.f54) Try.func54 (by kernel_rfl) (by kernel_rfl)
theorem c19 : CS.Sound Try.prog 19 ⟨[(true, kT), (true, (.pair (.int .i64) (.int .i64))), (false, (.int .i64))], [(true, kT), (true, (.pair (.int .i64) (.int .i64))), (false, (.int .i64))], false, m19⟩ := afun_sound' (Env.Sound.deepen (envOf_sound (CSs.cons c43 (CSs.cons c44 (CSs.cons c46 (CSs.nil)))) (HDs.nil) (IDs.cons i19_12_sound (IDs.cons i19_54_sound (IDs.nil)))) [79]) rfl Try.follows (f := 19) (fn := Try.f19) Try.func19 (by kernel_rfl) (by kernel_rfl) r19_eq
end Go.Proofs.Ytecadglgkhfaaaa
end

section
open Go Go.Proofs.AM
namespace Go.Proofs.Ytecadglgkhfaaaa

noncomputable def m21 (x : tT × (Int × Int) × Unit) : Option (tT × (Int × Unit)) :=
 Option.bind (m43 (x.1, ())) fun (y1 : (Int × Unit)) =>
 bif (!(decide (y1.1 = (0 : Int)))) then
 (some (((0 : Int), ((0 : Int), ((0 : Int), (([] : List Int), (([] : List Bool), (((0 : Int), ((0 : Int), (0 : Int))), ([] : List (Int × (List Int))))))))), (y1.1, ())))
 else
 (bif (!(decide (x.2.1.1 = (2 : Int)))) then
 (some (((0 : Int), ((0 : Int), ((0 : Int), (([] : List Int), (([] : List Bool), (((0 : Int), ((0 : Int), (0 : Int))), ([] : List (Int × (List Int))))))))), ((51 : Int), ())))
 else
 (Option.bind (m46 (x.1, ())) fun (y2 : (Bool × Unit)) =>
 bif (!y2.1) then
 (some (((0 : Int), ((0 : Int), ((0 : Int), (([] : List Int), (([] : List Bool), (((0 : Int), ((0 : Int), (0 : Int))), ([] : List (Int × (List Int))))))))), ((51 : Int), ())))
 else
 (gd ((((List.length ([] : List Int)) + (List.length x.1.2.2.2.1)) * 8) ≤ 140737488355328) (gd (((List.length ([] : List Int)) + (List.length x.1.2.2.2.1)) ≤ 140737488355328) (gd ((((List.length ([] : List Bool)) + (List.length x.1.2.2.2.2.1)) * 1) ≤ 140737488355328) (gd (((List.length ([] : List Bool)) + (List.length x.1.2.2.2.2.1)) ≤ 140737488355328) (Option.bind (loopM (X := (Int × eT)) (E := eT) (fun (x3 : (Int × eT)) =>
 bif (decide (x3.1 < (((List.length x.1.2.2.2.2.2.2) : Nat) : Int))) then
 (gd ((0 : Int) ≤ x3.1) (gd (x3.1 < (((List.length x.1.2.2.2.2.2.2) : Nat) : Int)) (gd ((0 : Int) ≤ x3.1) (gd (x3.1 < (((List.length x.1.2.2.2.2.2.2) : Nat) : Int)) (gd ((((List.length ([] : List Int)) + (List.length (List.getD x.1.2.2.2.2.2.2 (Int.toNat x3.1) ((0 : Int), ([] : List Int))).2)) * 8) ≤ 140737488355328) (gd (((List.length ([] : List Int)) + (List.length (List.getD x.1.2.2.2.2.2.2 (Int.toNat x3.1) ((0 : Int), ([] : List Int))).2)) ≤ 140737488355328) (gd ((((List.length x3.2.2.2.2.2.2.2.2.2) + 1) * 32) ≤ 140737488355328) (gd (((List.length x3.2.2.2.2.2.2.2.2.2) + 1) ≤ 140737488355328) (some (Sum.inl ((Go.IntKind.wrap .i64 (x3.1 + (1 : Int))), (x3.2.1, (x3.2.2.1, (x3.2.2.2.1, (x3.2.2.2.2.1, (x3.2.2.2.2.2.1, (x3.2.2.2.2.2.2.1, (x3.2.2.2.2.2.2.2.1, (x3.2.2.2.2.2.2.2.2.1, (x3.2.2.2.2.2.2.2.2.2 ++ (((List.getD x.1.2.2.2.2.2.2 (Int.toNat x3.1) ((0 : Int), ([] : List Int))).1, (([] : List Int) ++ (List.getD x.1.2.2.2.2.2.2 (Int.toNat x3.1) ((0 : Int), ([] : List Int))).2)) :: ([] : List (Int × (List Int))))))))))))))))))))))))
 else
 (some (Sum.inr (x3.2.1, (x3.2.2.1, (x3.2.2.2.1, (x3.2.2.2.2.1, (x3.2.2.2.2.2.1, (x3.2.2.2.2.2.2.1, (x3.2.2.2.2.2.2.2.1, (x3.2.2.2.2.2.2.2.2.1, x3.2.2.2.2.2.2.2.2.2))))))))))) ((0 : Int), (x.1.1, (x.1.2.1, (x.1.2.2.1, ((([] : List Int) ++ x.1.2.2.2.1), ((([] : List Bool) ++ x.1.2.2.2.2.1), (x.1.2.2.2.2.2.1.1, (x.1.2.2.2.2.2.1.2.1, (x.1.2.2.2.2.2.1.2.2, ([] : List (Int × (List Int))))))))))))) fun (y3 : eT) =>
 gd ((0 : Int) ≤ (Go.IntKind.wrap .i64 ((((List.length y3.2.2.2.2.2.2.2.2) : Nat) : Int) - (1 : Int)))) (gd ((Go.IntKind.wrap .i64 ((((List.length y3.2.2.2.2.2.2.2.2) : Nat) : Int) - (1 : Int))) < (((List.length y3.2.2.2.2.2.2.2.2) : Nat) : Int)) (gd ((Int.toNat (Go.IntKind.wrap .i64 ((((List.length y3.2.2.2.2.2.2.2.2) : Nat) : Int) - (1 : Int)))) < (List.length y3.2.2.2.2.2.2.2.2)) (gd ((((List.length (ith (A := Int) (ki := (.int .i64)) y3.2.2.2.2.2.2.2.2 (Int.toNat (Go.IntKind.wrap .i64 ((((List.length y3.2.2.2.2.2.2.2.2) : Nat) : Int) - (1 : Int)))))) + (List.length ((-1 : Int) :: ([] : List Int)))) * 8) ≤ 140737488355328) (gd (((List.length (ith (A := Int) (ki := (.int .i64)) y3.2.2.2.2.2.2.2.2 (Int.toNat (Go.IntKind.wrap .i64 ((((List.length y3.2.2.2.2.2.2.2.2) : Nat) : Int) - (1 : Int)))))) + (List.length ((-1 : Int) :: ([] : List Int)))) ≤ 140737488355328) (gd ((0 : Int) ≤ (Go.IntKind.wrap .i64 ((((List.length y3.2.2.2.2.2.2.2.2) : Nat) : Int) - (1 : Int)))) (gd ((Go.IntKind.wrap .i64 ((((List.length y3.2.2.2.2.2.2.2.2) : Nat) : Int) - (1 : Int))) < (((List.length y3.2.2.2.2.2.2.2.2) : Nat) : Int)) (gd ((Int.toNat (Go.IntKind.wrap .i64 ((((List.length y3.2.2.2.2.2.2.2.2) : Nat) : Int) - (1 : Int)))) = (Int.toNat (Go.IntKind.wrap .i64 ((((List.length y3.2.2.2.2.2.2.2.2) : Nat) : Int) - (1 : Int))))) (gd ((Int.toNat (Go.IntKind.wrap .i64 ((((List.length y3.2.2.2.2.2.2.2.2) : Nat) : Int) - (1 : Int)))) = (Int.toNat (Go.IntKind.wrap .i64 ((((List.length y3.2.2.2.2.2.2.2.2) : Nat) : Int) - (1 : Int))))) (some ((y3.1, (y3.2.1, (y3.2.2.1, (y3.2.2.2.1, (y3.2.2.2.2.1, ((y3.2.2.2.2.2.1, (y3.2.2.2.2.2.2.1, y3.2.2.2.2.2.2.2.1)), (setIn (A := Int) (ki := (.int .i64)) y3.2.2.2.2.2.2.2.2 (Int.toNat (Go.IntKind.wrap .i64 ((((List.length y3.2.2.2.2.2.2.2.2) : Nat) : Int) - (1 : Int)))) ((ith (A := Int) (ki := (.int .i64)) y3.2.2.2.2.2.2.2.2 (Int.toNat (Go.IntKind.wrap .i64 ((((List.length y3.2.2.2.2.2.2.2.2) : Nat) : Int) - (1 : Int))))) ++ ((-1 : Int) :: ([] : List Int)))))))))), ((0 : Int), ()))))))))))))))))))

noncomputable def i21_12 : ID := aInl Try.prog ({ envOf [] [] [] [] with deep := [79] }) ⟨[(9000, ⟨[.slot 4 (.d false (.int .i64) true), .cell 5 0 (.d false (.int .i64) true), .cell 5 1 (.d false (.int .i64) true), .cell 5 2 (.d false (.int .i64) true), .cell 5 3 (.v 3 (.int .i64) true), .cell 5 4 (.v 4 .bool true), .cell 5 5 (.d false (.int .i64) true), .cell 5 6 (.d false (.int .i64) true), .cell 5 7 (.d false (.int .i64) true), .cell 5 8 (.h 79 3 (.int .i64) (.int .i64))], [6, 7], [(some 0, [.cell 5 0 (.d false (.int .i64) true), .cell 5 1 (.d false (.int .i64) true), .cell 5 2 (.d false (.int .i64) true), .cell 5 3 (.v 3 (.int .i64) true), .cell 5 4 (.v 4 .bool true), .cell 5 5 (.d false (.int .i64) true), .cell 5 6 (.d false (.int .i64) true), .cell 5 7 (.d false (.int .i64) true), .cell 5 8 (.h 79 3 (.int .i64) (.int .i64))])], none⟩)], []⟩ Try.f12
noncomputable def r21 : PDen [(true, kT), (true, (.pair (.int .i64) (.int .i64)))] → Option (PDen [(true, kT), (false, (.int .i64))]) := fun x => afun Try.prog ({ envOf [(43, ⟨[(true, kT)], [(false, (.int .i64))], false, m43⟩), (46, ⟨[(true, kT)], [(false, .bool)], false, m46⟩)] [] [] [(12, i21_12)] with deep := [79] }) ⟨[], []⟩ Try.f21 [(true, kT), (true, (.pair (.int .i64) (.int .i64)))] [(true, kT), (false, (.int .i64))] false x
theorem r21_eq : r21 = m21 := by kernel_rfl

theorem i21_12_sound : i21_12.Sound Try.prog 12 := aInl_sound' (Env.Sound.deepen (envOf_sound (CSs.nil) (HDs.nil) (IDs.nil)) [79]) Try.follows (f := 12) (fn := Try.f12) Try.func12 (by kernel_rfl) (by kernel_rfl)
theorem c21 : CS.Sound Try.prog 21 ⟨[(true, kT), (true, (.pair (.int .i64) (.int .i64)))], [(true, kT), (false, (.int .i64))], false, m21⟩ := afun_sound' (Env.Sound.deepen (envOf_sound (CSs.cons c43 (CSs.cons c46 (CSs.nil))) (HDs.nil) (IDs.cons i21_12_sound (IDs.nil))) [79]) rfl Try.follows (f := 21) (fn := Try.f21) Try.func21 (by kernel_rfl) (by kernel_rfl) r21_eq
end Go.Proofs.Ytecadglgkhfaaaa
end

section
open Go Go.Proofs.AM
namespace Go.Proofs.Ytecadglgkhfaaaa

noncomputable def m3 (x : tT × (Int × Int) × Int × Unit) : Option (Bool × Unit) :=
 Option.bind (m10 ()) fun (y1 : (Bool × Unit)) =>
 bif (!y1.1) then
 (some (false, ()))
 else
 (Option.bind (m11 (x.1, ())) fun (y2 : (Bool × Unit)) =>
 bif (!y2.1) then
 (some (true, ()))
 else
 (gd ((((List.length ([] : List Int)) + (List.length x.1.2.2.2.1)) * 8) ≤ 140737488355328) (gd (((List.length ([] : List Int)) + (List.length x.1.2.2.2.1)) ≤ 140737488355328) (gd ((((List.length ([] : List Bool)) + (List.length x.1.2.2.2.2.1)) * 1) ≤ 140737488355328) (gd (((List.length ([] : List Bool)) + (List.length x.1.2.2.2.2.1)) ≤ 140737488355328) (Option.bind (loopM (X := (Int × eT)) (E := eT) (fun (x3 : (Int × eT)) =>
 bif (decide (x3.1 < (((List.length x.1.2.2.2.2.2.2) : Nat) : Int))) then
 (gd ((0 : Int) ≤ x3.1) (gd (x3.1 < (((List.length x.1.2.2.2.2.2.2) : Nat) : Int)) (gd ((0 : Int) ≤ x3.1) (gd (x3.1 < (((List.length x.1.2.2.2.2.2.2) : Nat) : Int)) (gd ((((List.length ([] : List Int)) + (List.length (List.getD x.1.2.2.2.2.2.2 (Int.toNat x3.1) ((0 : Int), ([] : List Int))).2)) * 8) ≤ 140737488355328) (gd (((List.length ([] : List Int)) + (List.length (List.getD x.1.2.2.2.2.2.2 (Int.toNat x3.1) ((0 : Int), ([] : List Int))).2)) ≤ 140737488355328) (gd ((((List.length x3.2.2.2.2.2.2.2.2.2) + 1) * 32) ≤ 140737488355328) (gd (((List.length x3.2.2.2.2.2.2.2.2.2) + 1) ≤ 140737488355328) (some (Sum.inl ((Go.IntKind.wrap .i64 (x3.1 + (1 : Int))), (x3.2.1, (x3.2.2.1, (x3.2.2.2.1, (x3.2.2.2.2.1, (x3.2.2.2.2.2.1, (x3.2.2.2.2.2.2.1, (x3.2.2.2.2.2.2.2.1, (x3.2.2.2.2.2.2.2.2.1, (x3.2.2.2.2.2.2.2.2.2 ++ (((List.getD x.1.2.2.2.2.2.2 (Int.toNat x3.1) ((0 : Int), ([] : List Int))).1, (([] : List Int) ++ (List.getD x.1.2.2.2.2.2.2 (Int.toNat x3.1) ((0 : Int), ([] : List Int))).2)) :: ([] : List (Int × (List Int))))))))))))))))))))))))
 else
 (some (Sum.inr (x3.2.1, (x3.2.2.1, (x3.2.2.2.1, (x3.2.2.2.2.1, (x3.2.2.2.2.2.1, (x3.2.2.2.2.2.2.1, (x3.2.2.2.2.2.2.2.1, (x3.2.2.2.2.2.2.2.2.1, x3.2.2.2.2.2.2.2.2.2))))))))))) ((0 : Int), (x.1.1, (x.1.2.1, (x.1.2.2.1, ((([] : List Int) ++ x.1.2.2.2.1), ((([] : List Bool) ++ x.1.2.2.2.2.1), (x.1.2.2.2.2.2.1.1, (x.1.2.2.2.2.2.1.2.1, (x.1.2.2.2.2.2.1.2.2, ([] : List (Int × (List Int))))))))))))) fun (y3 : eT) =>
 Option.bind (m13 (x.1, (x.2.2.1, ()))) fun (y4 : ((Int × Int) × (Int × Unit))) =>
 Option.bind (m14 (x.1, (x.2.2.1, ()))) fun (y5 : ((Int × Int) × (Int × Unit))) =>
 bif (!((decide (y4.1.1 = y5.1.1)) && (decide (y4.1.2 = y5.1.2)))) then
 (some (false, ()))
 else
 (bif (!(decide (y4.2.1 = y5.2.1))) then
 (some (false, ()))
 else
 (Option.bind (m15 (x.1, (x.2.1, (x.2.2.1, ())))) fun (y6 : (tT × (Int × Unit))) =>
 Option.bind (m16 (x.1, (x.2.1, (x.2.2.1, ())))) fun (y7 : (tT × (Int × Unit))) =>
 Option.bind (m17 (y6.1, (y7.1, ()))) fun (y8 : (Bool × Unit)) =>
 bif (!y8.1) then
 (some (false, ()))
 else
 (bif (!(decide (y6.2.1 = y7.2.1))) then
 (some (false, ()))
 else
 (Option.bind (m18 (x.1, (x.2.1, (x.2.2.1, ())))) fun (y9 : (tT × ((Int × Int) × (Int × Unit)))) =>
 Option.bind (m19 (x.1, (x.2.1, (x.2.2.1, ())))) fun (y10 : (tT × ((Int × Int) × (Int × Unit)))) =>
 Option.bind (m17 (y9.1, (y10.1, ()))) fun (y11 : (Bool × Unit)) =>
 bif (!y11.1) then
 (some (false, ()))
 else
 (bif (!((decide (y9.2.1.1 = y10.2.1.1)) && (decide (y9.2.1.2 = y10.2.1.2)))) then
 (some (false, ()))
 else
 (bif (!(decide (y9.2.2.1 = y10.2.2.1))) then
 (some (false, ()))
 else
 (Option.bind (m20 (x.1, (x.2.1, ()))) fun (y12 : (tT × (Int × Unit))) =>
 Option.bind (m21 (x.1, (x.2.1, ()))) fun (y13 : (tT × (Int × Unit))) =>
 Option.bind (m17 (y12.1, (y13.1, ()))) fun (y14 : (Bool × Unit)) =>
 bif y14.1 then
 (bif (decide (y12.2.1 = y13.2.1)) then
 (Option.bind (m17 (x.1, ((y3.1, (y3.2.1, (y3.2.2.1, (y3.2.2.2.1, (y3.2.2.2.2.1, ((y3.2.2.2.2.2.1, (y3.2.2.2.2.2.2.1, y3.2.2.2.2.2.2.2.1)), y3.2.2.2.2.2.2.2.2)))))), ()))) fun (y15 : (Bool × Unit)) =>
 some (y15.1, ()))
 else
 (some (false, ())))
 else
 (some (false, ())))))))))))))))

noncomputable def i3_12 : ID := aInl Try.prog ({ envOf [] [] [] [] with deep := [79] }) ⟨[(8000, ⟨[.slot 4 (.d false (.int .i64) true), .cell 4 0 (.d false (.int .i64) true), .cell 4 1 (.d false (.int .i64) true), .cell 4 2 (.d false (.int .i64) true), .cell 4 3 (.v 3 (.int .i64) true), .cell 4 4 (.v 4 .bool true), .cell 4 5 (.d false (.int .i64) true), .cell 4 6 (.d false (.int .i64) true), .cell 4 7 (.d false (.int .i64) true), .cell 4 8 (.h 79 3 (.int .i64) (.int .i64))], [5, 6], [(some 0, [.cell 4 0 (.d false (.int .i64) true), .cell 4 1 (.d false (.int .i64) true), .cell 4 2 (.d false (.int .i64) true), .cell 4 3 (.v 3 (.int .i64) true), .cell 4 4 (.v 4 .bool true), .cell 4 5 (.d false (.int .i64) true), .cell 4 6 (.d false (.int .i64) true), .cell 4 7 (.d false (.int .i64) true), .cell 4 8 (.h 79 3 (.int .i64) (.int .i64))])], none⟩)], []⟩ Try.f12
noncomputable def r3 : PDen [(true, kT), (true, (.pair (.int .i64) (.int .i64))), (false, (.int .i64))] → Option (PDen [(false, .bool)]) := fun x => afun Try.prog ({ envOf [(10, ⟨[], [(false, .bool)], false, m10⟩), (11, ⟨[(true, kT)], [(false, .bool)], false, m11⟩), (13, ⟨[(true, kT), (false, (.int .i64))], [(true, (.pair (.int .i64) (.int .i64))), (false, (.int .i64))], false, m13⟩), (14, ⟨[(true, kT), (false, (.int .i64))], [(true, (.pair (.int .i64) (.int .i64))), (false, (.int .i64))], false, m14⟩), (15, ⟨[(true, kT), (true, (.pair (.int .i64) (.int .i64))), (false, (.int .i64))], [(true, kT), (false, (.int .i64))], false, m15⟩), (16, ⟨[(true, kT), (true, (.pair (.int .i64) (.int .i64))), (false, (.int .i64))], [(true, kT), (false, (.int .i64))], false, m16⟩), (17, ⟨[(true, kT), (true, kT)], [(false, .bool)], false, m17⟩), (18, ⟨[(true, kT), (true, (.pair (.int .i64) (.int .i64))), (false, (.int .i64))], [(true, kT), (true, (.pair (.int .i64) (.int .i64))), (false, (.int .i64))], false, m18⟩), (19, ⟨[(true, kT), (true, (.pair (.int .i64) (.int .i64))), (false, (.int .i64))], [(true, kT), (true, (.pair (.int .i64) (.int .i64))), (false, (.int .i64))], false, m19⟩), (20, ⟨[(true, kT), (true, (.pair (.int .i64) (.int .i64)))], [(true, kT), (false, (.int .i64))], false, m20⟩), (21, ⟨[(true, kT), (true, (.pair (.int .i64) (.int .i64)))], [(true, kT), (false, (.int .i64))], false, m21⟩)] [] [] [(12, i3_12)] with deep := [79] }) ⟨[], []⟩ Try.f3 [(true, kT), (true, (.pair (.int .i64) (.int .i64))), (false, (.int .i64))] [(false, .bool)] false x
theorem r3_eq : r3 = m3 := by kernel_rfl

theorem i3_12_sound : i3_12.Sound Try.prog 12 := aInl_sound' (Env.Sound.deepen (envOf_sound (CSs.nil) (HDs.nil) (IDs.nil)) [79]) Try.follows (f := 12) (fn := Try.f12) Try.func12 (by kernel_rfl) (by kernel_rfl)
theorem c3 : CS.Sound Try.prog 3 ⟨[(true, kT), (true, (.pair (.int .i64) (.int .i64))), (false, (.int .i64))], [(false, .bool)], false, m3⟩ := afun_sound' (Env.Sound.deepen (envOf_sound (CSs.cons c10 (CSs.cons c11 (CSs.cons c13 (CSs.cons c14 (CSs.cons c15 (CSs.cons c16 (CSs.cons c17 (CSs.cons c18 (CSs.cons c19 (CSs.cons c20 (CSs.cons c21 (CSs.nil)))))))))))) (HDs.nil) (IDs.cons i3_12_sound (IDs.nil))) [79]) rfl Try.follows (f := 3) (fn := Try.f3) Try.func3 (by kernel_rfl) (by kernel_rfl) r3_eq
end Go.Proofs.Ytecadglgkhfaaaa
end

section
namespace Go.Proofs.Ytecadglgkhfaaaa
open Go Go.Proofs.AM

noncomputable def clo (t : Tab) : Option eT :=
  (loopM (X := (Int × eT)) (E := eT) (fun (x3 : (Int × eT)) =>
                      bif (decide (x3.1 < (((List.length t.2.2.2.2.2.2) : Nat) : Int))) then
                        (gd ((0 : Int) ≤ x3.1) (gd (x3.1 < (((List.length t.2.2.2.2.2.2) : Nat) : Int)) (Option.bind (m78 ((List.getD t.2.2.2.2.2.2 (Int.toNat x3.1) ((0 : Int), ([] : List Int))).2, ())) fun (y4 : (List Int)) =>
                            gd ((((List.length x3.2.2.2.2.2.2.2.2.2) + 1) * 32) ≤ 140737488355328) (gd (((List.length x3.2.2.2.2.2.2.2.2.2) + 1) ≤ 140737488355328) (some (Sum.inl ((Go.IntKind.wrap .i64 (x3.1 + (1 : Int))), (x3.2.1, (x3.2.2.1, (x3.2.2.2.1, (x3.2.2.2.2.1, (x3.2.2.2.2.2.1, (x3.2.2.2.2.2.2.1, (x3.2.2.2.2.2.2.2.1, (x3.2.2.2.2.2.2.2.2.1, (x3.2.2.2.2.2.2.2.2.2 ++ (((List.getD t.2.2.2.2.2.2 (Int.toNat x3.1) ((0 : Int), ([] : List Int))).1, y4) :: ([] : List (Int × (List Int))))))))))))))))))))
                      else
                        (some (Sum.inr (x3.2.1, (x3.2.2.1, (x3.2.2.2.1, (x3.2.2.2.2.1, (x3.2.2.2.2.2.1, (x3.2.2.2.2.2.2.1, (x3.2.2.2.2.2.2.2.1, (x3.2.2.2.2.2.2.2.2.1, x3.2.2.2.2.2.2.2.2.2))))))))))) ((0 : Int), (t.1, (t.2.1, (t.2.2.1, (((List.take (List.length (List.replicate (Int.toNat (((List.length t.2.2.2.1) : Nat) : Int)) (0 : Int))) t.2.2.2.1) ++ (List.drop (List.length t.2.2.2.1) (List.replicate (Int.toNat (((List.length t.2.2.2.1) : Nat) : Int)) (0 : Int)))), (((List.take (List.length (List.replicate (Int.toNat (((List.length t.2.2.2.2.1) : Nat) : Int)) false)) t.2.2.2.2.1) ++ (List.drop (List.length t.2.2.2.2.1) (List.replicate (Int.toNat (((List.length t.2.2.2.2.1) : Nat) : Int)) false))), (t.2.2.2.2.2.1.1, (t.2.2.2.2.2.1.2.1, (t.2.2.2.2.2.1.2.2, ([] : List (Int × (List Int)))))))))))))

noncomputable def m15t (x : tT × (Int × Int) × Int × Unit) (y3 : eT) : Option (tT × (Int × Unit)) :=
 (bif (decide (x.2.1.1 = (4 : Int))) then
 (bif (decide ((((List.length y3.2.2.2.2.2.2.2.2) : Nat) : Int) < y3.2.2.1)) then
 (Option.bind (m49 ((y3.1, (y3.2.1, (y3.2.2.1, (y3.2.2.2.1, (y3.2.2.2.2.1, ((y3.2.2.2.2.2.1, (y3.2.2.2.2.2.2.1, y3.2.2.2.2.2.2.2.1)), y3.2.2.2.2.2.2.2.2)))))), ())) fun (y5 : (Bool × Unit)) =>
 bif (!y5.1) then
 (gd ((((List.length y3.2.2.2.2.2.2.2.2) + 1) * 32) ≤ 140737488355328) (gd (((List.length y3.2.2.2.2.2.2.2.2) + 1) ≤ 140737488355328) (some ((y3.1, (y3.2.1, (y3.2.2.1, (y3.2.2.2.1, (y3.2.2.2.2.1, ((y3.2.2.2.2.2.1, (y3.2.2.2.2.2.2.1, y3.2.2.2.2.2.2.2.1)), (y3.2.2.2.2.2.2.2.2 ++ ((x.2.2.1, ([] : List Int)) :: ([] : List (Int × (List Int))))))))))), ((0 : Int), ())))))
 else
 (some (((0 : Int), ((0 : Int), ((0 : Int), (([] : List Int), (([] : List Bool), (((0 : Int), ((0 : Int), (0 : Int))), ([] : List (Int × (List Int))))))))), ((51 : Int), ()))))
 else
 (some (((0 : Int), ((0 : Int), ((0 : Int), (([] : List Int), (([] : List Bool), (((0 : Int), ((0 : Int), (0 : Int))), ([] : List (Int × (List Int))))))))), ((51 : Int), ()))))
 else
 (some (((0 : Int), ((0 : Int), ((0 : Int), (([] : List Int), (([] : List Bool), (((0 : Int), ((0 : Int), (0 : Int))), ([] : List (Int × (List Int))))))))), ((51 : Int), ()))))

theorem m15_eq (x : tT × (Int × Int) × Int × Unit) : m15 x = Option.bind (m25 (x.1, ())) fun (y1 : (Int × Unit)) =>
  bif (!(decide (y1.1 = (0 : Int)))) then
    (some (((0 : Int), ((0 : Int), ((0 : Int), (([] : List Int), (([] : List Bool), (((0 : Int), ((0 : Int), (0 : Int))), ([] : List (Int × (List Int))))))))), (y1.1, ())))
  else
    (Option.bind (m47 (x.1, (x.2.2.1, ()))) fun (y2 : (Bool × Unit)) =>
    bif (!y2.1) then
      (some (((0 : Int), ((0 : Int), ((0 : Int), (([] : List Int), (([] : List Bool), (((0 : Int), ((0 : Int), (0 : Int))), ([] : List (Int × (List Int))))))))), ((1 : Int), ())))
    else
      (gd ((0 : Int) ≤ (((List.length x.1.2.2.2.1) : Nat) : Int)) (gd ((((List.length x.1.2.2.2.1) : Nat) : Int) ≤ (((List.length x.1.2.2.2.1) : Nat) : Int)) (gd (((((List.length x.1.2.2.2.1) : Nat) : Int) * (8 : Int)) ≤ (140737488355328 : Int)) (gd ((0 : Int) ≤ (((List.length x.1.2.2.2.2.1) : Nat) : Int)) (gd ((((List.length x.1.2.2.2.2.1) : Nat) : Int) ≤ (((List.length x.1.2.2.2.2.1) : Nat) : Int)) (gd (((((List.length x.1.2.2.2.2.1) : Nat) : Int) * (1 : Int)) ≤ (140737488355328 : Int)) (Option.bind (clo x.1) fun (y3 : eT) =>
                  bif (decide (x.2.1.1 = (3 : Int))) then
                    (bif (decide (y3.2.2.2.2.2.1 < (0 : Int))) then
                      (Option.bind (m40 (x.2.1.2, ((0 : Int), ((Go.IntKind.wrap .i64 (y3.2.1 - (1 : Int))), ())))) fun (y4 : (Bool × Unit)) =>
                      bif y4.1 then
                        (some ((y3.1, (y3.2.1, (y3.2.2.1, (y3.2.2.2.1, (y3.2.2.2.2.1, ((x.2.2.1, (x.2.1.2, (0 : Int))), y3.2.2.2.2.2.2.2.2)))))), ((0 : Int), ())))
                      else
                        (m15t x y3))
                    else
                      (m15t x y3))
                  else
                    (m15t x y3))))))))) := rfl

noncomputable def m18f (n : Int) (G : List (Int × (List Int))) : Option (List (Int × (List Int))) :=
 (loopM (X := (Int × (List (Int × (List Int))))) (E := (List (Int × (List Int)))) (fun (x4 : (Int × (List (Int × (List Int))))) =>
 bif (decide (x4.1 < (((List.length G) : Nat) : Int))) then
 (gd ((0 : Int) ≤ x4.1) (gd (x4.1 < (((List.length G) : Nat) : Int)) (gd ((Int.toNat x4.1) < (List.length x4.2)) (Option.bind (loopM (X := (Int × (List (Int × (List Int))))) (E := (List (Int × (List Int)))) (fun (x5 : (Int × (List (Int × (List Int))))) =>
 bif (decide (x5.1 < (((List.length (ith (A := Int) (ki := (.int .i64)) x4.2 (Int.toNat x4.1))) : Nat) : Int))) then
 (gd ((0 : Int) ≤ x5.1) (gd (x5.1 < (((List.length (ith (A := Int) (ki := (.int .i64)) x5.2 (Int.toNat x4.1))) : Nat) : Int)) (gd ((Int.toNat x5.1) < (List.length (ith (A := Int) (ki := (.int .i64)) x5.2 (Int.toNat x4.1)))) (bif (decide ((List.getD (ith (A := Int) (ki := (.int .i64)) x5.2 (Int.toNat x4.1)) (Int.toNat x5.1) (0 : Int)) ≥ (0 : Int))) then
 (bif (decide ((List.getD (ith (A := Int) (ki := (.int .i64)) x5.2 (Int.toNat x4.1)) (Int.toNat x5.1) (0 : Int)) = n)) then
 (gd ((0 : Int) ≤ x5.1) (gd (x5.1 < (((List.length (ith (A := Int) (ki := (.int .i64)) x5.2 (Int.toNat x4.1))) : Nat) : Int)) (gd ((Int.toNat x5.1) < (List.length (ith (A := Int) (ki := (.int .i64)) x5.2 (Int.toNat x4.1)))) (some (Sum.inl ((Go.IntKind.wrap .i64 (x5.1 + (1 : Int))), (setIn (A := Int) (ki := (.int .i64)) x5.2 (Int.toNat x4.1) (List.set (ith (A := Int) (ki := (.int .i64)) x5.2 (Int.toNat x4.1)) (Int.toNat x5.1) (-1 : Int)))))))))
 else
 (some (Sum.inl ((Go.IntKind.wrap .i64 (x5.1 + (1 : Int))), x5.2))))
 else
 (some (Sum.inl ((Go.IntKind.wrap .i64 (x5.1 + (1 : Int))), x5.2)))))))
 else
 (some (Sum.inr x5.2))) ((0 : Int), x4.2)) fun (y5 : (List (Int × (List Int)))) =>
 some (Sum.inl ((Go.IntKind.wrap .i64 (x4.1 + (1 : Int))), y5))))))
 else
 (some (Sum.inr x4.2))) ((0 : Int), G))

noncomputable def m18t (x : tT × (Int × Int) × Int × Unit) (y3 : eT) (y4 : List (Int × (List Int))) : Option (tT × ((Int × Int) × (Int × Unit))) :=
 (bif (decide (x.2.1.1 = (2 : Int))) then
 (Option.bind (m49 ((y3.1, (y3.2.1, (y3.2.2.1, (y3.2.2.2.1, (y3.2.2.2.2.1, ((y3.2.2.2.2.2.1, (y3.2.2.2.2.2.2.1, y3.2.2.2.2.2.2.2.1)), y4)))))), ())) fun (y5 : (Bool × Unit)) =>
 bif y5.1 then
 (gd ((0 : Int) ≤ (Go.IntKind.wrap .i64 ((((List.length y3.2.2.2.2.2.2.2.2) : Nat) : Int) - (1 : Int)))) (gd ((Go.IntKind.wrap .i64 ((((List.length y3.2.2.2.2.2.2.2.2) : Nat) : Int) - (1 : Int))) < (((List.length y3.2.2.2.2.2.2.2.2) : Nat) : Int)) (gd ((Int.toNat (Go.IntKind.wrap .i64 ((((List.length y3.2.2.2.2.2.2.2.2) : Nat) : Int) - (1 : Int)))) < (List.length y4)) (gd ((((List.length (ith (A := Int) (ki := (.int .i64)) y4 (Int.toNat (Go.IntKind.wrap .i64 ((((List.length y3.2.2.2.2.2.2.2.2) : Nat) : Int) - (1 : Int)))))) + (List.length (x.2.2.1 :: ([] : List Int)))) * 8) ≤ 140737488355328) (gd (((List.length (ith (A := Int) (ki := (.int .i64)) y4 (Int.toNat (Go.IntKind.wrap .i64 ((((List.length y3.2.2.2.2.2.2.2.2) : Nat) : Int) - (1 : Int)))))) + (List.length (x.2.2.1 :: ([] : List Int)))) ≤ 140737488355328) (gd ((0 : Int) ≤ (Go.IntKind.wrap .i64 ((((List.length y3.2.2.2.2.2.2.2.2) : Nat) : Int) - (1 : Int)))) (gd ((Go.IntKind.wrap .i64 ((((List.length y3.2.2.2.2.2.2.2.2) : Nat) : Int) - (1 : Int))) < (((List.length y3.2.2.2.2.2.2.2.2) : Nat) : Int)) (gd ((Int.toNat (Go.IntKind.wrap .i64 ((((List.length y3.2.2.2.2.2.2.2.2) : Nat) : Int) - (1 : Int)))) = (Int.toNat (Go.IntKind.wrap .i64 ((((List.length y3.2.2.2.2.2.2.2.2) : Nat) : Int) - (1 : Int))))) (gd ((Int.toNat (Go.IntKind.wrap .i64 ((((List.length y3.2.2.2.2.2.2.2.2) : Nat) : Int) - (1 : Int)))) = (Int.toNat (Go.IntKind.wrap .i64 ((((List.length y3.2.2.2.2.2.2.2.2) : Nat) : Int) - (1 : Int))))) (gd ((0 : Int) ≤ (Go.IntKind.wrap .i64 ((((List.length y3.2.2.2.2.2.2.2.2) : Nat) : Int) - (1 : Int)))) (gd ((Go.IntKind.wrap .i64 ((((List.length y3.2.2.2.2.2.2.2.2) : Nat) : Int) - (1 : Int))) < (((List.length y3.2.2.2.2.2.2.2.2) : Nat) : Int)) (gd ((Int.toNat (Go.IntKind.wrap .i64 ((((List.length y3.2.2.2.2.2.2.2.2) : Nat) : Int) - (1 : Int)))) < (List.length (setIn (A := Int) (ki := (.int .i64)) y4 (Int.toNat (Go.IntKind.wrap .i64 ((((List.length y3.2.2.2.2.2.2.2.2) : Nat) : Int) - (1 : Int)))) ((ith (A := Int) (ki := (.int .i64)) y4 (Int.toNat (Go.IntKind.wrap .i64 ((((List.length y3.2.2.2.2.2.2.2.2) : Nat) : Int) - (1 : Int))))) ++ (x.2.2.1 :: ([] : List Int)))))) (gd ((0 : Int) ≤ (Go.IntKind.wrap .i64 ((((List.length y3.2.2.2.2.2.2.2.2) : Nat) : Int) - (1 : Int)))) (gd ((Go.IntKind.wrap .i64 ((((List.length y3.2.2.2.2.2.2.2.2) : Nat) : Int) - (1 : Int))) < (((List.length y3.2.2.2.2.2.2.2.2) : Nat) : Int)) (gd ((Int.toNat (Go.IntKind.wrap .i64 ((((List.length y3.2.2.2.2.2.2.2.2) : Nat) : Int) - (1 : Int)))) < (List.length (setIn (A := Int) (ki := (.int .i64)) y4 (Int.toNat (Go.IntKind.wrap .i64 ((((List.length y3.2.2.2.2.2.2.2.2) : Nat) : Int) - (1 : Int)))) ((ith (A := Int) (ki := (.int .i64)) y4 (Int.toNat (Go.IntKind.wrap .i64 ((((List.length y3.2.2.2.2.2.2.2.2) : Nat) : Int) - (1 : Int))))) ++ (x.2.2.1 :: ([] : List Int)))))) (some ((y3.1, (y3.2.1, (y3.2.2.1, (y3.2.2.2.1, (y3.2.2.2.2.1, ((y3.2.2.2.2.2.1, (y3.2.2.2.2.2.2.1, y3.2.2.2.2.2.2.2.1)), (setIn (A := Int) (ki := (.int .i64)) y4 (Int.toNat (Go.IntKind.wrap .i64 ((((List.length y3.2.2.2.2.2.2.2.2) : Nat) : Int) - (1 : Int)))) ((ith (A := Int) (ki := (.int .i64)) y4 (Int.toNat (Go.IntKind.wrap .i64 ((((List.length y3.2.2.2.2.2.2.2.2) : Nat) : Int) - (1 : Int))))) ++ (x.2.2.1 :: ([] : List Int)))))))))), (((hth (kh := (.int .i64)) (ki := (.int .i64)) (setIn (A := Int) (ki := (.int .i64)) y4 (Int.toNat (Go.IntKind.wrap .i64 ((((List.length y3.2.2.2.2.2.2.2.2) : Nat) : Int) - (1 : Int)))) ((ith (A := Int) (ki := (.int .i64)) y4 (Int.toNat (Go.IntKind.wrap .i64 ((((List.length y3.2.2.2.2.2.2.2.2) : Nat) : Int) - (1 : Int))))) ++ (x.2.2.1 :: ([] : List Int)))) (Int.toNat (Go.IntKind.wrap .i64 ((((List.length y3.2.2.2.2.2.2.2.2) : Nat) : Int) - (1 : Int))))), (Go.IntKind.wrap .i64 ((((List.length (ith (A := Int) (ki := (.int .i64)) (setIn (A := Int) (ki := (.int .i64)) y4 (Int.toNat (Go.IntKind.wrap .i64 ((((List.length y3.2.2.2.2.2.2.2.2) : Nat) : Int) - (1 : Int)))) ((ith (A := Int) (ki := (.int .i64)) y4 (Int.toNat (Go.IntKind.wrap .i64 ((((List.length y3.2.2.2.2.2.2.2.2) : Nat) : Int) - (1 : Int))))) ++ (x.2.2.1 :: ([] : List Int)))) (Int.toNat (Go.IntKind.wrap .i64 ((((List.length y3.2.2.2.2.2.2.2.2) : Nat) : Int) - (1 : Int)))))) : Nat) : Int) - (1 : Int)))), ((0 : Int), ())))))))))))))))))))
 else
 (some (((0 : Int), ((0 : Int), ((0 : Int), (([] : List Int), (([] : List Bool), (((0 : Int), ((0 : Int), (0 : Int))), ([] : List (Int × (List Int))))))))), (((0 : Int), (0 : Int)), ((51 : Int), ())))))
 else
 (some (((0 : Int), ((0 : Int), ((0 : Int), (([] : List Int), (([] : List Bool), (((0 : Int), ((0 : Int), (0 : Int))), ([] : List (Int × (List Int))))))))), (((0 : Int), (0 : Int)), ((51 : Int), ())))))

theorem m18_eq (x : tT × (Int × Int) × Int × Unit) : m18 x = Option.bind (m25 (x.1, ())) fun (y1 : (Int × Unit)) =>
  bif (!(decide (y1.1 = (0 : Int)))) then
    (some (((0 : Int), ((0 : Int), ((0 : Int), (([] : List Int), (([] : List Bool), (((0 : Int), ((0 : Int), (0 : Int))), ([] : List (Int × (List Int))))))))), (((0 : Int), (0 : Int)), (y1.1, ()))))
  else
    (Option.bind (m40 (x.2.2.1, ((0 : Int), ((Go.IntKind.wrap .i64 ((((List.length x.1.2.2.2.2.1) : Nat) : Int) - (1 : Int))), ())))) fun (y2 : (Bool × Unit)) =>
    bif (!y2.1) then
      (some (((0 : Int), ((0 : Int), ((0 : Int), (([] : List Int), (([] : List Bool), (((0 : Int), ((0 : Int), (0 : Int))), ([] : List (Int × (List Int))))))))), (((0 : Int), (0 : Int)), ((1 : Int), ()))))
    else
      (gd ((0 : Int) ≤ (((List.length x.1.2.2.2.1) : Nat) : Int)) (gd ((((List.length x.1.2.2.2.1) : Nat) : Int) ≤ (((List.length x.1.2.2.2.1) : Nat) : Int)) (gd (((((List.length x.1.2.2.2.1) : Nat) : Int) * (8 : Int)) ≤ (140737488355328 : Int)) (gd ((0 : Int) ≤ (((List.length x.1.2.2.2.2.1) : Nat) : Int)) (gd ((((List.length x.1.2.2.2.2.1) : Nat) : Int) ≤ (((List.length x.1.2.2.2.2.1) : Nat) : Int)) (gd (((((List.length x.1.2.2.2.2.1) : Nat) : Int) * (1 : Int)) ≤ (140737488355328 : Int)) (Option.bind (clo x.1) fun (y3 : eT) =>
                  Option.bind (m18f x.2.2.1 y3.2.2.2.2.2.2.2.2) fun (y4 : (List (Int × (List Int)))) =>
                  bif (decide (x.2.1.1 = (1 : Int))) then
                    (bif (decide (y3.2.2.2.2.2.1 ≥ (0 : Int))) then
                      (if y3.1 = (0 : Int) then
                        (none)
                      else
                        (bif (decide (y3.2.2.2.2.2.2.1 = (Go.IntKind.wrap .i64 (Int.tdiv x.2.2.1 y3.1)))) then
                          (if y3.1 = (0 : Int) then
                            (none)
                          else
                            (bif (decide (y3.2.2.2.2.2.2.2.1 = (Int.tmod x.2.2.1 y3.1))) then
                              (some ((y3.1, (y3.2.1, (y3.2.2.1, (y3.2.2.2.1, (y3.2.2.2.2.1, ((y3.2.2.2.2.2.1, (y3.2.2.2.2.2.2.1, (Go.IntKind.wrap .i64 (y3.2.2.2.2.2.2.2.1 + (1 : Int))))), y4)))))), ((y3.2.2.2.2.2.1, (Go.IntKind.wrap .i64 ((Go.IntKind.wrap .i64 (y3.2.2.2.2.2.2.2.1 + (1 : Int))) - (1 : Int)))), ((0 : Int), ()))))
                            else
                              (m18t x y3 y4)))
                        else
                          (m18t x y3 y4)))
                    else
                      (m18t x y3 y4))
                  else
                    (m18t x y3 y4))))))))) := rfl

theorem m20_eq (x : tT × (Int × Int) × Unit) : m20 x = Option.bind (m25 (x.1, ())) fun (y1 : (Int × Unit)) =>
  bif (!(decide (y1.1 = (0 : Int)))) then
    (some (((0 : Int), ((0 : Int), ((0 : Int), (([] : List Int), (([] : List Bool), (((0 : Int), ((0 : Int), (0 : Int))), ([] : List (Int × (List Int))))))))), (y1.1, ())))
  else
    (bif (!(decide (x.2.1.1 = (2 : Int)))) then
      (some (((0 : Int), ((0 : Int), ((0 : Int), (([] : List Int), (([] : List Bool), (((0 : Int), ((0 : Int), (0 : Int))), ([] : List (Int × (List Int))))))))), ((51 : Int), ())))
    else
      (Option.bind (m49 (x.1, ())) fun (y2 : (Bool × Unit)) =>
      bif (!y2.1) then
        (some (((0 : Int), ((0 : Int), ((0 : Int), (([] : List Int), (([] : List Bool), (((0 : Int), ((0 : Int), (0 : Int))), ([] : List (Int × (List Int))))))))), ((51 : Int), ())))
      else
        (gd ((0 : Int) ≤ (((List.length x.1.2.2.2.1) : Nat) : Int)) (gd ((((List.length x.1.2.2.2.1) : Nat) : Int) ≤ (((List.length x.1.2.2.2.1) : Nat) : Int)) (gd (((((List.length x.1.2.2.2.1) : Nat) : Int) * (8 : Int)) ≤ (140737488355328 : Int)) (gd ((0 : Int) ≤ (((List.length x.1.2.2.2.2.1) : Nat) : Int)) (gd ((((List.length x.1.2.2.2.2.1) : Nat) : Int) ≤ (((List.length x.1.2.2.2.2.1) : Nat) : Int)) (gd (((((List.length x.1.2.2.2.2.1) : Nat) : Int) * (1 : Int)) ≤ (140737488355328 : Int)) (Option.bind (clo x.1) fun (y3 : eT) =>
                    gd ((0 : Int) ≤ (Go.IntKind.wrap .i64 ((((List.length y3.2.2.2.2.2.2.2.2) : Nat) : Int) - (1 : Int)))) (gd ((Go.IntKind.wrap .i64 ((((List.length y3.2.2.2.2.2.2.2.2) : Nat) : Int) - (1 : Int))) < (((List.length y3.2.2.2.2.2.2.2.2) : Nat) : Int)) (gd ((Int.toNat (Go.IntKind.wrap .i64 ((((List.length y3.2.2.2.2.2.2.2.2) : Nat) : Int) - (1 : Int)))) < (List.length y3.2.2.2.2.2.2.2.2)) (gd ((((List.length (ith (A := Int) (ki := (.int .i64)) y3.2.2.2.2.2.2.2.2 (Int.toNat (Go.IntKind.wrap .i64 ((((List.length y3.2.2.2.2.2.2.2.2) : Nat) : Int) - (1 : Int)))))) + (List.length ((-1 : Int) :: ([] : List Int)))) * 8) ≤ 140737488355328) (gd (((List.length (ith (A := Int) (ki := (.int .i64)) y3.2.2.2.2.2.2.2.2 (Int.toNat (Go.IntKind.wrap .i64 ((((List.length y3.2.2.2.2.2.2.2.2) : Nat) : Int) - (1 : Int)))))) + (List.length ((-1 : Int) :: ([] : List Int)))) ≤ 140737488355328) (gd ((0 : Int) ≤ (Go.IntKind.wrap .i64 ((((List.length y3.2.2.2.2.2.2.2.2) : Nat) : Int) - (1 : Int)))) (gd ((Go.IntKind.wrap .i64 ((((List.length y3.2.2.2.2.2.2.2.2) : Nat) : Int) - (1 : Int))) < (((List.length y3.2.2.2.2.2.2.2.2) : Nat) : Int)) (gd ((Int.toNat (Go.IntKind.wrap .i64 ((((List.length y3.2.2.2.2.2.2.2.2) : Nat) : Int) - (1 : Int)))) = (Int.toNat (Go.IntKind.wrap .i64 ((((List.length y3.2.2.2.2.2.2.2.2) : Nat) : Int) - (1 : Int))))) (gd ((Int.toNat (Go.IntKind.wrap .i64 ((((List.length y3.2.2.2.2.2.2.2.2) : Nat) : Int) - (1 : Int)))) = (Int.toNat (Go.IntKind.wrap .i64 ((((List.length y3.2.2.2.2.2.2.2.2) : Nat) : Int) - (1 : Int))))) (some ((y3.1, (y3.2.1, (y3.2.2.1, (y3.2.2.2.1, (y3.2.2.2.2.1, ((y3.2.2.2.2.2.1, (y3.2.2.2.2.2.2.1, y3.2.2.2.2.2.2.2.1)), (setIn (A := Int) (ki := (.int .i64)) y3.2.2.2.2.2.2.2.2 (Int.toNat (Go.IntKind.wrap .i64 ((((List.length y3.2.2.2.2.2.2.2.2) : Nat) : Int) - (1 : Int)))) ((ith (A := Int) (ki := (.int .i64)) y3.2.2.2.2.2.2.2.2 (Int.toNat (Go.IntKind.wrap .i64 ((((List.length y3.2.2.2.2.2.2.2.2) : Nat) : Int) - (1 : Int))))) ++ ((-1 : Int) :: ([] : List Int)))))))))), ((0 : Int), ())))))))))))))))))))) := rfl

theorem m24_eq (x : tT × Unit) : m24 x = Option.bind (m25 (x.1, ())) fun (y1 : (Int × Unit)) =>
  bif (!(decide (y1.1 = (0 : Int)))) then
    (some (((0 : Int), ((0 : Int), ((0 : Int), (([] : List Int), (([] : List Bool), (((0 : Int), ((0 : Int), (0 : Int))), ([] : List (Int × (List Int))))))))), ((0 : Int), (y1.1, ()))))
  else
    (bif (decide ((((List.length x.1.2.2.2.2.2.2) : Nat) : Int) = (0 : Int))) then
      (some (((0 : Int), ((0 : Int), ((0 : Int), (([] : List Int), (([] : List Bool), (((0 : Int), ((0 : Int), (0 : Int))), ([] : List (Int × (List Int))))))))), ((0 : Int), ((51 : Int), ()))))
    else
      (gd ((0 : Int) < (((List.length x.1.2.2.2.2.2.2) : Nat) : Int)) (Option.bind (loopM (X := Int) (E := (Unit ⊕ Int)) (fun (x2 : Int) =>
            bif (decide (x2 < (((List.length (List.getD x.1.2.2.2.2.2.2 (Int.toNat (0 : Int)) ((0 : Int), ([] : List Int))).2) : Nat) : Int))) then
              (gd ((0 : Int) ≤ x2) (gd (x2 < (((List.length (List.getD x.1.2.2.2.2.2.2 (Int.toNat (0 : Int)) ((0 : Int), ([] : List Int))).2) : Nat) : Int)) (bif (decide ((List.getD (List.getD x.1.2.2.2.2.2.2 (Int.toNat (0 : Int)) ((0 : Int), ([] : List Int))).2 (Int.toNat x2) (0 : Int)) ≥ (0 : Int))) then
                    (some (Sum.inr (Sum.inr x2)))
                  else
                    (some (Sum.inl (Go.IntKind.wrap .i64 (x2 + (1 : Int))))))))
            else
              (some (Sum.inr (Sum.inl ())))) (0 : Int)) fun (y2 : (Unit ⊕ Int)) =>
        Sum.elim (fun y3 =>
          bif (decide ((-1 : Int) ≥ (0 : Int))) then
            (some (((0 : Int), ((0 : Int), ((0 : Int), (([] : List Int), (([] : List Bool), (((0 : Int), ((0 : Int), (0 : Int))), ([] : List (Int × (List Int))))))))), ((0 : Int), ((51 : Int), ()))))
          else
            (gd ((0 : Int) ≤ (((List.length x.1.2.2.2.1) : Nat) : Int)) (gd ((((List.length x.1.2.2.2.1) : Nat) : Int) ≤ (((List.length x.1.2.2.2.1) : Nat) : Int)) (gd (((((List.length x.1.2.2.2.1) : Nat) : Int) * (8 : Int)) ≤ (140737488355328 : Int)) (gd ((0 : Int) ≤ (((List.length x.1.2.2.2.2.1) : Nat) : Int)) (gd ((((List.length x.1.2.2.2.2.1) : Nat) : Int) ≤ (((List.length x.1.2.2.2.2.1) : Nat) : Int)) (gd (((((List.length x.1.2.2.2.2.1) : Nat) : Int) * (1 : Int)) ≤ (140737488355328 : Int)) (Option.bind (clo x.1) fun (y4 : eT) =>
                        gd ((0 : Int) < (((List.length y4.2.2.2.2.2.2.2.2) : Nat) : Int)) (gd ((Int.toNat (0 : Int)) < (List.length y4.2.2.2.2.2.2.2.2)) (gd ((1 : Int) ≤ (((List.length y4.2.2.2.2.2.2.2.2) : Nat) : Int)) (gd ((((List.length y4.2.2.2.2.2.2.2.2) : Nat) : Int) ≤ (((List.length y4.2.2.2.2.2.2.2.2) : Nat) : Int)) (some ((y4.1, (y4.2.1, (y4.2.2.1, (y4.2.2.2.1, (y4.2.2.2.2.1, ((y4.2.2.2.2.2.1, (y4.2.2.2.2.2.2.1, y4.2.2.2.2.2.2.2.1)), (List.take ((Int.toNat (((List.length y4.2.2.2.2.2.2.2.2) : Nat) : Int)) - (Int.toNat (1 : Int))) (List.drop (Int.toNat (1 : Int)) y4.2.2.2.2.2.2.2.2)))))))), ((hth (kh := (.int .i64)) (ki := (.int .i64)) y4.2.2.2.2.2.2.2.2 (Int.toNat (0 : Int))), ((0 : Int), ()))))))))))))))) (fun y3 =>
          bif (decide (y3 ≥ (0 : Int))) then
            (some (((0 : Int), ((0 : Int), ((0 : Int), (([] : List Int), (([] : List Bool), (((0 : Int), ((0 : Int), (0 : Int))), ([] : List (Int × (List Int))))))))), ((0 : Int), ((51 : Int), ()))))
          else
            (gd ((0 : Int) ≤ (((List.length x.1.2.2.2.1) : Nat) : Int)) (gd ((((List.length x.1.2.2.2.1) : Nat) : Int) ≤ (((List.length x.1.2.2.2.1) : Nat) : Int)) (gd (((((List.length x.1.2.2.2.1) : Nat) : Int) * (8 : Int)) ≤ (140737488355328 : Int)) (gd ((0 : Int) ≤ (((List.length x.1.2.2.2.2.1) : Nat) : Int)) (gd ((((List.length x.1.2.2.2.2.1) : Nat) : Int) ≤ (((List.length x.1.2.2.2.2.1) : Nat) : Int)) (gd (((((List.length x.1.2.2.2.2.1) : Nat) : Int) * (1 : Int)) ≤ (140737488355328 : Int)) (Option.bind (clo x.1) fun (y4 : eT) =>
                        gd ((0 : Int) < (((List.length y4.2.2.2.2.2.2.2.2) : Nat) : Int)) (gd ((Int.toNat (0 : Int)) < (List.length y4.2.2.2.2.2.2.2.2)) (gd ((1 : Int) ≤ (((List.length y4.2.2.2.2.2.2.2.2) : Nat) : Int)) (gd ((((List.length y4.2.2.2.2.2.2.2.2) : Nat) : Int) ≤ (((List.length y4.2.2.2.2.2.2.2.2) : Nat) : Int)) (some ((y4.1, (y4.2.1, (y4.2.2.1, (y4.2.2.2.1, (y4.2.2.2.2.1, ((y4.2.2.2.2.2.1, (y4.2.2.2.2.2.2.1, y4.2.2.2.2.2.2.2.1)), (List.take ((Int.toNat (((List.length y4.2.2.2.2.2.2.2.2) : Nat) : Int)) - (Int.toNat (1 : Int))) (List.drop (Int.toNat (1 : Int)) y4.2.2.2.2.2.2.2.2)))))))), ((hth (kh := (.int .i64)) (ki := (.int .i64)) y4.2.2.2.2.2.2.2.2 (Int.toNat (0 : Int))), ((0 : Int), ()))))))))))))))) y2))) := rfl

end Go.Proofs.Ytecadglgkhfaaaa
end

section
namespace Go.Proofs.Ytecadglgkhfaaaa
open Go Go.Proofs.AM

theorem m78_eq (l : List Int) (h : l.length * 8 ≤ 140737488355328) : m78 (l, ()) = some l := by
  unfold m78
  simp only [List.length_nil, List.nil_append, Nat.zero_add]
  rw [gd_pos h, gd_pos (by omega)]
  cases l with
  | nil => simp [both]
  | cons a l =>
    have : ¬ ((((a :: l).length : Nat) : Int) = 0) := by simp; omega
    rw [decide_eq_false this]; simp [both]

theorem clo_eq (P L K : Int) (D : List Int) (H : List Bool) (S : Int × (Int × Int)) (G : List Log) (hG : G.length ≤ 100) (hg : ∀ i, i < G.length → (G.getD i (0, [])).2.length * 8 ≤ 140737488355328) :
    clo (P, (L, (K, (D, (H, (S, G)))))) = some (P, (L, (K, (D, (H, (S.1, (S.2.1, (S.2.2, G)))))))) := by
  unfold clo
  have eD : List.take (List.length (List.replicate (Int.toNat ((D.length : Nat) : Int)) (0 : Int))) D ++ List.drop D.length (List.replicate (Int.toNat ((D.length : Nat) : Int)) (0 : Int)) = D := by simp
  have eH : List.take (List.length (List.replicate (Int.toNat ((H.length : Nat) : Int)) false)) H ++ List.drop H.length (List.replicate (Int.toNat ((H.length : Nat) : Int)) false) = H := by simp
  simp only [eD, eH]
  refine loop_idx' G.length (fun i => ((i : Int), (P, (L, (K, (D, (H, (S.1, (S.2.1, (S.2.2, G.take i)))))))))) (by simp) (fun i hi => ?_) ?_
  · simp only [Int.toNat_natCast]
    rw [Bool.cond_eq_ite, if_pos (by simp; omega), gd_pos (by omega), gd_pos (by omega), m78_eq _ (hg i hi)]
    simp only [Option.bind_some]
    rw [gd_pos (by simp; omega), gd_pos (by simp; omega), wrap64 (by omega) (by omega), take_snoc G i hi (0, [])]
    rfl
  · simp only
    rw [Bool.cond_eq_ite, if_neg (by simp), List.take_of_length_le (by omega)]

def room (P : Int) (G : List Log) : Bool := decide (0 < G.length ∧ (((G.getD (G.length - 1) (0, [])).2.length : Nat) : Int) < P)

theorem m49_eq (P L K : Int) (D : List Int) (H : List Bool) (S : Int × (Int × Int)) (G : List Log) (hG : G.length ≤ 100) : m49 ((P, (L, (K, (D, (H, (S, G)))))), ()) = some (room P G, ()) := by
  unfold m49 room
  simp only [Bool.cond_eq_ite, decide_eq_true_eq]
  by_cases h : 0 < G.length
  · rw [if_pos (by omega), wrap64 (by omega) (by omega), gd_pos (by omega), gd_pos (by omega)]
    have e : ((G.length : Int) - 1).toNat = G.length - 1 := by omega
    simp [e, h]
  · rw [if_neg (by omega)]; simp [h]

def pos (n : Int) : List Int → Option Nat
  | [] => none
  | x :: l => if x = n then some 0 else (pos n l).map (· + 1)

theorem pos_some {n : Int} : ∀ {l : List Int} {k : Nat}, k < l.length → l.getD k 0 = n → (∀ j, j < k → l.getD j 0 ≠ n) → pos n l = some k
  | x :: l, 0, _, h, _ => by
    have : x = n := h
    rw [pos, if_pos this]
  | x :: l, k + 1, h1, h2, h3 => by
    have h0 : ¬ x = n := h3 0 (by omega)
    rw [pos, if_neg h0, pos_some (k := k) (by simpa using h1) h2 (fun j hj => h3 (j + 1) (by omega))]; rfl

theorem pos_none {n : Int} : ∀ {l : List Int}, pos n l = none ↔ n ∉ l
  | [] => by simp [pos]
  | x :: l => by
    rw [pos]
    by_cases h : x = n
    · simp [h]
    · rw [if_neg h, Option.map_eq_none_iff, pos_none, List.mem_cons, not_or]
      exact ⟨fun g => ⟨fun e => h e.symm, g⟩, fun g => g.2⟩

theorem not_mem_getD {n : Int} {l : List Int} (h : ∀ j, j < l.length → l.getD j 0 ≠ n) : n ∉ l := fun hm => by
  obtain ⟨i, hi, e⟩ := List.getElem_of_mem hm
  have := h i hi
  rw [List.getD_eq_getElem?_getD, List.getElem?_eq_getElem hi] at this
  exact this e

theorem m80_eq (l : List Int) (n : Int) (hl : l.length ≤ 4000000000000000000) : m80 (l, (n, ())) = some ((match pos n l with | some k => (k : Int) | none => -1), ()) := by
  suffices h : Ok (m80 (l, (n, ()))) (fun r => r = ((match pos n l with | some k => (k : Int) | none => -1), ())) by
    obtain ⟨r, e, h⟩ := h; rw [e, h]
  unfold m80
  refine Ok.bind (S := fun e => match e with | .inl _ => pos n l = none | .inr v => ∃ k : Nat, v = k ∧ pos n l = some k) (Ok.loop l.length (fun i x => x = (i : Int) ∧ ∀ j, j < i → l.getD j 0 ≠ n) ⟨rfl, fun j hj => by omega⟩ ?_) fun y hy => ?_
  · rintro i x hi ⟨rfl, hq⟩
    refine Ok.cond (fun hc => ?_) (fun hc => Ok.inr (by simp only at hc; exact pos_none.2 (not_mem_getD fun j hj => hq j (by omega))))
    simp only [Int.toNat_natCast] at hc ⊢
    rw [wrap64 (n := (i : Int) + 1) (by omega) (by omega)]
    refine Ok.gd (by omega) (Ok.gd (by omega) ?_)
    refine Ok.cond (fun h => Ok.inr ⟨i, rfl, pos_some (by omega) h.symm hq⟩) (fun h => Ok.inl ⟨by omega, by omega, fun j hj => ?_⟩)
    by_cases e : j = i
    · subst e; exact fun g => h g.symm
    · exact hq j (by omega)
  · refine Ok.elim (fun v e => ?_) (fun v e => ?_)
    · subst e
      have hy : pos n l = none := hy
      exact Ok.some (by rw [hy])
    · subst e
      obtain ⟨k, e, hk⟩ := hy
      exact Ok.some (by rw [hk, e])

theorem m76_eq (l : List Int) (n : Int) (hl : l.length ≤ 4000000000000000000) : m76 (l, (n, ())) = some (decide (n ∈ l), ()) := by
  unfold m76
  rw [m80_eq l n hl]
  simp only [Option.bind_some]
  cases h : pos n l with
  | none => simp [pos_none.1 h]
  | some k =>
    have : n ∈ l := Classical.not_not.1 fun g => by rw [pos_none.2 g] at h; simp at h
    simp [this]

def loc (n : Int) : List Log → Option (Int × Int)
  | [] => none
  | g :: G => match pos n g.2 with
    | some k => some (g.1, (k : Int))
    | none => loc n G

theorem loc_app (n : Int) : ∀ (A B : List Log), loc n (A ++ B) = (loc n A).or (loc n B)
  | [], B => by simp [loc]
  | g :: A, B => by
    rw [List.cons_append, loc, loc]
    cases pos n g.2 with
    | none => exact loc_app n A B
    | some k => rfl

theorem posi_rep (n : Nat) : posi (List.replicate n (-1)) = [] := by
  unfold posi; rw [List.filter_eq_nil_iff]; intro a ha; rw [(List.mem_replicate.1 ha).2]; simp

theorem newT_good {P L K : Int} (h : shape P L K) : Good P L K (List.replicate L.toNat (-1 : Int)) (List.replicate (L * P).toNat false) (-1, (0, 0)) [] := by
  have hm := shape_mul h
  have h' := h
  obtain ⟨h1, h2, h3, h4, h5, h6⟩ := h'
  refine ⟨⟨h, by simp; omega, by rw [List.length_replicate]; omega, by simp; omega, fun i hi => by simp at hi, .inl rfl⟩, fun i hi => ?_, fun p hp hv => ?_, ?_, by simp [posi]⟩
  · have : (List.replicate L.toNat (-1 : Int)).getD i 0 = -1 := by
      rw [List.getD_eq_getElem?_getD, List.getElem?_replicate, if_pos (by simpa using hi)]; rfl
    rw [this]; omega
  · rw [getD_rep] at hv; simp at hv
  · rw [List.map_nil, List.append_nil, posi_cons, if_neg (by simp), posi_rep]; exact List.nodup_nil

section
variable {P L K : Int} {D : List Int} {H : List Bool} {S : Int × (Int × Int)} {G : List Log}

theorem m25_good (h : Good P L K D H S G) : m25 ((P, (L, (K, (D, (H, (S, G)))))), ()) = some (0, ()) := by
  obtain ⟨⟨r, ⟨⟩⟩, e, h'⟩ := m25_ok P L K D H S G
  rcases h' with ⟨h1, _⟩ | ⟨_, h1⟩
  · rw [e]; simp only at h1; rw [h1]
  · exact absurd h h1

theorem m25_bad (h : ¬ Good P L K D H S G) : m25 ((P, (L, (K, (D, (H, (S, G)))))), ()) = some (50, ()) := by
  obtain ⟨⟨r, ⟨⟩⟩, e, h'⟩ := m25_ok P L K D H S G
  rcases h' with ⟨_, h1⟩ | ⟨h1, _⟩
  · exact absurd h1 h
  · rw [e]; simp only at h1; rw [h1]

theorem m55_good (h : Good P L K D H S G) : m55 ((P, (L, (K, (D, (H, (S, G)))))), ()) = some ((P, (L, (K, (D, (H, (S, G)))))), ()) := by
  unfold m55; rw [m25_good h]; rfl

theorem Good.sz (h : Good P L K D H S G) : D.length ≤ 256 ∧ H.length ≤ 8192 ∧ G.length ≤ 8 ∧ ∀ i, i < G.length → (G.getD i (0, [])).2.length ≤ 32 := by
  have hm := shape_mul h.li.sh
  obtain ⟨h1, h2, h3, h4, h5, h6⟩ := h.li.sh
  have a := h.li.dl
  have b := h.li.hl
  have c := h.li.gl
  refine ⟨by omega, by omega, by omega, fun i hi => ?_⟩
  have := (h.li.lg i hi).le
  omega

def blocks (D : List Int) (S : Int × (Int × Int)) (G : List Log) : List Int := posi (S.1 :: D ++ G.map (·.1))

theorem m77_ok (h : Good P L K D H S G) : Ok (m77 ((P, (L, (K, (D, (H, (S, G)))))), ())) (fun r => r.1 = sortI (blocks D S G)) := by
  unfold m77
  rw [m55_good h]
  obtain ⟨s1, s2, s3, s4⟩ := h.sz
  simp only [Option.bind_some]
  have e0 : (S.1 :: ([] : List Int)) ++ D = S.1 :: D := rfl
  rw [e0]
  obtain ⟨E, hE⟩ : ∃ E : List Int, E = S.1 :: D := ⟨_, rfl⟩
  have hEl : E.length = D.length + 1 := by rw [hE]; rfl
  rw [← hE]
  refine Ok.gd (by simp; omega) (Ok.gd (by simp; omega) ?_)
  refine Ok.bind (S := fun y => y = posi E) (Ok.loop E.length (fun i x => x.2 = (i : Int) ∧ x.1 = posi (E.take i)) ⟨rfl, rfl⟩ ?_) fun y hy => ?_
  · rintro i ⟨x1, x2⟩ hi ⟨hx, hl⟩
    simp only at hx hl
    subst hx hl
    refine Ok.cond (fun hc => ?_) (fun hc => Ok.inr ?_)
    · simp only [Int.toNat_natCast] at hc ⊢
      have hlen := posi_len (E.take i)
      simp only [List.length_take] at hlen
      rw [wrap64 (n := (i : Int) + 1) (by omega) (by omega), take_snoc E i (by omega) 0, posi_snoc]
      refine Ok.gd (by omega) (Ok.gd (by omega) (Ok.gd (by omega) ?_))
      refine Ok.cond (fun q => ?_) (fun q => Ok.inl ⟨by omega, by simp, by simp only; rw [if_neg (by omega)]⟩)
      refine Ok.gd (by simp; omega) (Ok.gd (by simp; omega) (Ok.inl ⟨by omega, by simp, by simp only; rw [if_pos (by omega)]⟩))
    · simp only at hc
      rw [List.take_of_length_le (by omega)]
  · subst hy
    have hlen := posi_len E
    have hg : ∀ x ∈ G.map (·.1), (0 : Int) ≤ x := fun x hx => by
      obtain ⟨g, hg, rfl⟩ := List.mem_map.1 hx
      obtain ⟨i, hi, e⟩ := List.getElem_of_mem hg
      have := (h.li.lg i hi).p0
      rw [List.getD_eq_getElem?_getD, List.getElem?_eq_getElem hi] at this
      simp only [Option.getD_some] at this
      rw [e] at this; exact this
    have fin : blocks D S G = posi E ++ G.map (·.1) := by rw [blocks, posi_app, posi_all hg, hE]
    have hfl : (blocks D S G).length ≤ 300 := by rw [fin]; simp; omega
    rw [fin] at hfl
    refine Ok.bind (S := fun z => z = posi E ++ G.map (·.1)) (Ok.loop G.length (fun i x => x.2 = (i : Int) ∧ x.1 = posi E ++ (G.take i).map (·.1)) ⟨rfl, by simp⟩ ?_) fun z hz => ?_
    · rintro i ⟨x1, x2⟩ hi ⟨hx, h1⟩
      simp only at hx h1
      subst hx h1
      refine Ok.cond (fun hc => ?_) (fun hc => Ok.inr (by simp only at hc; rw [List.take_of_length_le (by omega)]))
      simp only [Int.toNat_natCast] at hc ⊢
      rw [wrap64 (n := (i : Int) + 1) (by omega) (by omega), take_snoc G i (by omega) (0, [])]
      refine Ok.gd (by omega) (Ok.gd (by omega) (Ok.gd (by simp; omega) (Ok.gd (by simp; omega) (Ok.inl ⟨by omega, by simp, by simp⟩))))
    · subst hz
      rw [gd_pos (by omega)]
      simp only [Option.bind_some]
      exact Ok.some (by rw [fin])

def fresh (D : List Int) (S : Int × (Int × Int)) (G : List Log) (n : Int) : Prop := 0 ≤ n ∧ n ≤ 255 ∧ n ∉ blocks D S G

theorem blocks_len (h : Good P L K D H S G) : (blocks D S G).length ≤ 300 := by
  obtain ⟨s1, s2, s3, s4⟩ := h.sz
  refine Nat.le_trans (posi_len _) ?_
  simp; omega

theorem m47_ok (h : Good P L K D H S G) (n : Int) : Ok (m47 ((P, (L, (K, (D, (H, (S, G)))))), (n, ()))) (fun r => r.1 = true ↔ fresh D S G n) := by
  unfold m47
  rw [m40_eq]
  simp only [Option.bind_some]
  refine Ok.cond (fun h1 => ?_) (fun h1 => Ok.some ⟨fun g => by simp at g, fun g => absurd ⟨g.1, g.2.1⟩ h1⟩)
  refine Ok.bind (m77_ok h) fun y hy => ?_
  have hl := blocks_len h
  have hp : y.1.Perm (blocks D S G) := by rw [hy]; exact sortI_perm _
  rw [m76_eq _ _ (by have := hp.length_eq; omega)]
  simp only [Option.bind_some]
  refine Ok.some ?_
  simp only [Bool.not_eq_true', decide_eq_false_iff_not, fresh, hp.mem_iff]
  exact ⟨fun g => ⟨h1.1, h1.2, g⟩, fun g => g.2.2⟩

end

def wh (Q : Nat) (D : List Int) (H : List Bool) (S : Int × (Int × Int)) (G : List Log) (n : Nat) : (Int × Int) × (Bool × Unit) :=
  match loc n G with
  | some p => (p, (true, ()))
  | none =>
    if 0 ≤ S.1 ∧ S.2.1 = ((n / Q : Nat) : Int) ∧ ((n % Q : Nat) : Int) < S.2.2 then ((S.1, ((n % Q : Nat) : Int)), (true, ()))
    else if H.getD n false = true then ((D.getD (n / Q) 0, ((n % Q : Nat) : Int)), (true, ()))
    else ((0, 0), (false, ()))

theorem div_mod {Q n : Nat} : Int.tdiv (n : Int) (Q : Int) = ((n / Q : Nat) : Int) ∧ Int.tmod (n : Int) (Q : Int) = ((n % Q : Nat) : Int) :=
  ⟨by rw [Int.tdiv_eq_ediv_of_nonneg (by omega)]; rfl, by rw [Int.tmod_eq_emod_of_nonneg (by omega)]; rfl⟩

section
variable {Q : Nat} {L K : Int} {D : List Int} {H : List Bool} {S : Int × (Int × Int)} {G : List Log}

theorem m56_eq (h : Good Q L K D H S G) (n : Nat) (hn : n < H.length) : m56 (((Q : Int), (L, (K, (D, (H, (S, G)))))), ((n : Int), ())) = some (wh Q D H S G n) := by
  suffices h : Ok (m56 (((Q : Int), (L, (K, (D, (H, (S, G)))))), ((n : Int), ()))) (fun r => r = wh Q D H S G n) by
    obtain ⟨r, e, h⟩ := h; rw [e, h]
  obtain ⟨s1, s2, s3, s4⟩ := h.sz
  have hm := shape_mul h.li.sh
  have hdv := blk_lt (L := L) (D := D) (H := H) ⟨h.li.sh.1, h.li.sh.2.1, h.li.sh.2.2.1, h.li.sh.2.2.2.1, by omega, by omega⟩ h.li.dl h.li.hl n hn
  simp only [Int.toNat_natCast] at hdv
  have hQ := h.li.sh.1
  obtain ⟨b, hb⟩ : ∃ b, n / Q = b := ⟨_, rfl⟩
  obtain ⟨o, ho⟩ : ∃ o, n % Q = o := ⟨_, rfl⟩
  have hoQ : o < Q := ho ▸ Nat.mod_lt _ (by omega)
  unfold m56 wh
  rw [hb] at hdv
  simp only [div_mod.1, div_mod.2, hb, ho]
  rw [wrap64 (n := (b : Int)) (by omega) (by omega)]
  refine Ok.bind (S := fun e => match e with | .inl _ => loc n G = none | .inr v => v.1 = true ∧ loc n G = some v.2) (Ok.loop G.length (fun i x => x.1 = (i : Int) ∧ loc n G = loc n (G.drop i)) ⟨rfl, by simp⟩ ?_) fun y hy => ?_
  · rintro i ⟨x1, x2⟩ hi ⟨hx, hq⟩
    simp only at hx hq
    subst hx
    refine Ok.cond (fun hc => ?_) (fun hc => Ok.inr (by simp only at hc; rw [hq, List.drop_of_length_le (by omega)]; rfl))
    simp only [Int.toNat_natCast] at hc ⊢
    have hi' : i < G.length := by omega
    have hs := s4 i hi'
    rw [wrap64 (n := (i : Int) + 1) (by omega) (by omega)]
    have e1 : G.drop i = G.getD i (0, []) :: G.drop (i + 1) := by
      rw [List.getD_eq_getElem?_getD, List.getElem?_eq_getElem hi', Option.getD_some, List.drop_eq_getElem_cons hi']
    rw [e1, loc] at hq
    refine Ok.gd (by omega) (Ok.gd (by omega) ?_)
    rw [m80_eq _ _ (by omega)]
    simp only [Option.bind_some]
    cases hp : pos n (G.getD i (0, [])).2 with
    | none =>
      rw [hp] at hq
      exact Ok.cond (fun h => absurd h (by simp)) (fun _ => Ok.inl ⟨hi', by simp, hq⟩)
    | some k =>
      rw [hp] at hq
      exact Ok.cond (fun _ => Ok.inr ⟨rfl, hq⟩) (fun h => by simp only at h; omega)
  · refine Ok.elim (fun v e => ?_) (fun v e => ?_)
    rotate_left
    · subst e
      obtain ⟨e1, e2⟩ := hy
      rw [e2]; exact Ok.some (by rw [e1])
    subst e
    have hy : loc n G = none := hy
    rw [hy]
    simp only
    refine Ok.ite (fun h => by omega) (fun _ => Ok.ite (fun h => by omega) (fun _ => ?_))
    have rest : ¬ (0 ≤ S.1 ∧ S.2.1 = (b : Int) ∧ (o : Int) < S.2.2) → Ok (gd ((0 : Int) ≤ (n : Int)) (gd ((n : Int) < (((List.length H) : Nat) : Int)) (bif (List.getD H (Int.toNat (n : Int)) false) then
        (gd ((0 : Int) ≤ (b : Int)) (gd ((b : Int) < (((List.length D) : Nat) : Int)) (some (((List.getD D (Int.toNat (b : Int)) (0 : Int)), (o : Int)), (true, ())))))
       else
        (some (((0 : Int), (0 : Int)), (false, ())))))) (fun r => r = if 0 ≤ S.1 ∧ S.2.1 = (b : Int) ∧ (o : Int) < S.2.2 then ((S.1, (o : Int)), (true, ()))
          else if H.getD n false = true then ((D.getD b 0, (o : Int)), (true, ())) else ((0, 0), (false, ()))) := by
      intro hc
      rw [if_neg hc]
      simp only [Int.toNat_natCast]
      refine Ok.gd (by omega) (Ok.gd (by omega) ?_)
      refine Ok.condb (fun h => Ok.gd (by omega) (Ok.gd (by omega) (Ok.some ?_))) (fun h => Ok.some ?_)
      · rw [if_pos h]
      · rw [h]; rfl
    refine Ok.cond (fun h1 => Ok.cond (fun h2 => Ok.cond (fun h3 => Ok.some ?_) (fun h3 => rest fun g => ?_)) (fun h2 => rest fun g => ?_)) (fun h1 => rest fun g => ?_)
    · rw [if_pos ⟨h1, h2, by omega⟩]
    · exact h3 g.2.2
    · exact h2 g.2.1
    · exact h1 g.1

theorem m22_good (h : Good Q L K D H S G) (n : Nat) (hn : n < H.length) : m22 (((Q : Int), (L, (K, (D, (H, (S, G)))))), ((n : Int), ())) = some (wh Q D H S G n) := by
  obtain ⟨s1, s2, s3, s4⟩ := h.sz
  unfold m22
  rw [m55_good h]
  simp only [Option.bind_some]
  rw [wrap64 (n := ((H.length : Nat) : Int) - 1) (by omega) (by omega), m40_eq]
  simp only [Option.bind_some]
  rw [decide_eq_true (by omega), m56_eq h n hn]
  rfl
end
end Go.Proofs.Ytecadglgkhfaaaa
end

section
namespace Go.Proofs.Ytecadglgkhfaaaa
open Go Go.Proofs.AM

def fgc (c : Int → Bool) (g : Log) : Log := (g.1, g.2.map fun p => if c p = true then -1 else p)

theorem ith_mid (A B : List Log) (g : Log) : ith (A := Int) (ki := .int .i64) (A ++ g :: B) A.length = g.2 := by
  unfold ith; simp
theorem setIn_mid (A B : List Log) (g : Log) (ys : List Int) : setIn (A := Int) (ki := .int .i64) (A ++ g :: B) A.length ys = A ++ (g.1, ys) :: B := by
  unfold setIn
  induction A with
  | nil => rfl
  | cons a A ih => rw [List.length_cons, List.cons_append, List.modify_succ_cons, ih]; rfl
theorem hth_mid (A B : List Log) (g : Log) : hth (kh := .int .i64) (ki := .int .i64) (A ++ g :: B) A.length = g.1 := by
  unfold hth; simp

theorem getD_mid (A B : List Int) (x : Int) : (A ++ x :: B).getD A.length 0 = x := by simp
theorem set_mid (A B : List Int) (x y : Int) : (A ++ x :: B).set A.length y = A ++ y :: B := by simp

theorem inner_gen (c : Int → Bool) (A B : List Log) (g : Log) (f : Int × List Log → Option ((Int × List Log) ⊕ List Log))
    (hin : ∀ j row, j < g.2.length → row.length = g.2.length → f ((j : Int), A ++ (g.1, row) :: B) = some (.inl ((j : Int) + 1, A ++ (g.1, if c (row.getD j 0) = true then row.set j (-1) else row) :: B)))
    (hend : ∀ row, row.length = g.2.length → f ((g.2.length : Int), A ++ (g.1, row) :: B) = some (.inr (A ++ (g.1, row) :: B))) :
    loopM f (0, A ++ g :: B) = some (A ++ fgc c g :: B) := by
  refine loop_idx' g.2.length (fun j => ((j : Int), A ++ (g.1, (g.2.take j).map (fun p => if c p = true then -1 else p) ++ g.2.drop j) :: B)) (by simp) (fun j hj => ?_) ?_
  · have hl : ((g.2.take j).map (fun p => if c p = true then -1 else p) ++ g.2.drop j).length = g.2.length := by simp; omega
    rw [hin j _ hj hl]
    have e1 : g.2.drop j = g.2.getD j 0 :: g.2.drop (j + 1) := by
      rw [List.getD_eq_getElem?_getD, List.getElem?_eq_getElem hj, Option.getD_some, List.drop_eq_getElem_cons hj]
    have e2 : ((g.2.take j).map (fun p => if c p = true then -1 else p)).length = j := by simp; omega
    have e3 : (g.2.take (j + 1)).map (fun p => if c p = true then -1 else p) = (g.2.take j).map (fun p => if c p = true then -1 else p) ++ [if c (g.2.getD j 0) = true then -1 else g.2.getD j 0] := by
      rw [take_snoc g.2 j hj 0, List.map_append]; rfl
    rw [e1, e3]
    obtain ⟨T, hT⟩ : ∃ T, T = (g.2.take j).map (fun p => if c p = true then -1 else p) := ⟨_, rfl⟩
    rw [← hT] at e2 ⊢
    subst e2
    rw [getD_mid, set_mid]
    by_cases h : c (g.2.getD T.length 0) = true
    · rw [if_pos h, if_pos h]; simp
    · rw [if_neg h, if_neg h]; simp
  · rw [hend _ (by simp)]
    simp [fgc]

theorem outer_gen (c : Int → Bool) (G : List Log) (F : Int × List Log → Option ((Int × List Log) ⊕ List Log))
    (hout : ∀ (A : List Log) g B, A.length + 1 + B.length = G.length → g ∈ G → F ((A.length : Int), A ++ g :: B) = some (.inl ((A.length : Int) + 1, A ++ fgc c g :: B)))
    (hend : ∀ X, F ((G.length : Int), X) = some (.inr X)) : loopM F (0, G) = some (G.map (fgc c)) := by
  refine loop_idx' G.length (fun i => ((i : Int), (G.take i).map (fgc c) ++ G.drop i)) (by simp) (fun i hi => ?_) ?_
  · have e1 : G.drop i = G[i] :: G.drop (i + 1) := List.drop_eq_getElem_cons hi
    have e2 : ((G.take i).map (fgc c)).length = i := by simp; omega
    have e3 : (G.take (i + 1)).map (fgc c) = (G.take i).map (fgc c) ++ [fgc c G[i]] := by
      rw [List.take_add_one, List.getElem?_eq_getElem hi, List.map_append]; rfl
    rw [e1]
    have := hout ((G.take i).map (fgc c)) G[i] (G.drop (i + 1)) (by rw [e2]; simp; omega) (List.getElem_mem hi)
    rw [e2] at this
    rw [this, e3]
    simp
  · rw [hend]
    simp

def isn (n : Int) (p : Int) : Bool := decide (p = n)

theorem m18f_eq (n : Int) (hn : 0 ≤ n) (G : List Log) (hG : G.length ≤ 100) (hg : ∀ g ∈ G, g.2.length ≤ 32) : m18f n G = some (G.map (fgc (isn n))) := by
  unfold m18f
  refine outer_gen (isn n) G _ (fun A g B hl hm => ?_) (fun X => ?_)
  rotate_left
  · simp only; rw [decide_eq_false (by omega)]; rfl
  have hgl := hg g hm
  simp only [Int.toNat_natCast]
  rw [decide_eq_true (show (A.length : Int) < (G.length : Int) by omega)]
  simp only [cond_true]
  rw [gd_pos (by omega), gd_pos (by omega), gd_pos (by simp)]
  rw [inner_gen (isn n) A B g _ (fun j row hj hr => ?_) (fun row hr => ?_)]
  · simp only [Option.bind_some]; rw [wrap64 (by omega) (by omega)]
  · simp only [Int.toNat_natCast, ith_mid, setIn_mid]
    rw [decide_eq_true (show (j : Int) < (g.2.length : Int) by omega)]
    simp only [cond_true]
    rw [gd_pos (by omega), gd_pos (by omega), gd_pos (by omega), wrap64 (by omega) (by omega)]
    unfold isn
    simp only [Bool.cond_eq_ite, decide_eq_true_eq]
    have aux : ∀ v : Int, (if v ≥ 0 then (if v = n then gd ((0 : Int) ≤ (j : Int)) (gd ((j : Int) < (row.length : Int)) (gd (j < row.length) (some (Sum.inl ((j : Int) + 1, A ++ (g.1, row.set j (-1)) :: B))))) else some (Sum.inl ((j : Int) + 1, A ++ (g.1, row) :: B))) else some (Sum.inl ((j : Int) + 1, A ++ (g.1, row) :: B))) = (some (Sum.inl ((j : Int) + 1, A ++ (g.1, if v = n then row.set j (-1) else row) :: B)) : Option ((Int × List Log) ⊕ List Log)) := by
      intro v
      by_cases h1 : v = n
      · rw [if_pos (by omega), if_pos h1, if_pos h1, gd_pos (by omega), gd_pos (by omega), gd_pos (by omega)]
      · by_cases h2 : v ≥ 0
        · rw [if_pos h2, if_neg h1, if_neg h1]
        · rw [if_neg h2, if_neg h1]
    exact aux (row.getD j 0)
  · simp only [Int.toNat_natCast, ith_mid]
    rw [decide_eq_false (by omega)]; rfl

theorem room_fgc (P : Int) (c : Int → Bool) (G : List Log) : room P (G.map (fgc c)) = room P G := by
  unfold room
  have : (((G.map (fgc c)).getD ((G.map (fgc c)).length - 1) (0, [])).2.length) = (G.getD (G.length - 1) (0, [])).2.length := by
    simp only [List.length_map, List.getD_eq_getElem?_getD, List.getElem?_map]
    cases G[G.length - 1]? <;> simp [fgc]
  rw [this, List.length_map]

def addLast (G : List Log) (v : Int) : List Log := setIn (A := Int) (ki := .int .i64) G (G.length - 1) (ith (A := Int) (ki := .int .i64) G (G.length - 1) ++ [v])

theorem addLast_snoc (A : List Log) (g : Log) (v : Int) : addLast (A ++ [g]) v = A ++ [(g.1, g.2 ++ [v])] := by
  unfold addLast
  have e : (A ++ [g]).length - 1 = A.length := by simp
  rw [e, ith_mid, setIn_mid]

section
open Classical
variable (P L K : Int) (D : List Int) (H : List Bool) (S : Int × (Int × Int)) (G : List Log)

noncomputable def openS (s : Int × Int) (ph : Int) : Tab × (Int × Unit) :=
  if ¬ Good P L K D H S G then (zeroT, (50, ()))
  else if ¬ fresh D S G ph then (zeroT, (1, ()))
  else if s.1 = 3 ∧ S.1 < 0 ∧ 0 ≤ s.2 ∧ s.2 < L then ((P, (L, (K, (D, (H, ((ph, (s.2, 0)), G)))))), (0, ()))
  else if s.1 = 4 ∧ (G.length : Int) < K ∧ room P G = false then ((P, (L, (K, (D, (H, (S, G ++ [(ph, [])])))))), (0, ()))
  else (zeroT, (51, ()))

noncomputable def putS (s : Int × Int) (n : Int) : Tab × ((Int × Int) × (Int × Unit)) :=
  if ¬ Good P L K D H S G then (zeroT, ((0, 0), (50, ())))
  else if ¬ (0 ≤ n ∧ n < H.length) then (zeroT, ((0, 0), (1, ())))
  else if s.1 = 1 ∧ 0 ≤ S.1 ∧ S.2.1 = Int.tdiv n P ∧ S.2.2 = Int.tmod n P then ((P, (L, (K, (D, (H, ((S.1, (S.2.1, S.2.2 + 1)), G.map (fgc (isn n)))))))), ((S.1, S.2.2), (0, ())))
  else if s.1 = 2 ∧ room P G = true then
    ((P, (L, (K, (D, (H, (S, addLast (G.map (fgc (isn n))) n)))))), ((hth (kh := .int .i64) (ki := .int .i64) (addLast (G.map (fgc (isn n))) n) (G.length - 1), (((ith (A := Int) (ki := .int .i64) (addLast (G.map (fgc (isn n))) n) (G.length - 1)).length : Nat) : Int) - 1), (0, ())))
  else (zeroT, ((0, 0), (51, ())))

noncomputable def skipS (s : Int × Int) : Tab × (Int × Unit) :=
  if ¬ Good P L K D H S G then (zeroT, (50, ()))
  else if s.1 = 2 ∧ room P G = true then ((P, (L, (K, (D, (H, (S, addLast G (-1))))))), (0, ()))
  else (zeroT, (51, ()))
end

section
variable {P L K : Int} {D : List Int} {H : List Bool} {S : Int × (Int × Int)} {G : List Log}

theorem ok_eq {A : Type} {o : Option A} {r : A} (h : Ok o (fun x => x = r)) : o = some r := by
  obtain ⟨x, e, h⟩ := h; rw [e, h]

theorem Good.el (h : Good P L K D H S G) : ∀ g ∈ G, g.2.length ≤ 32 := fun g hg => by
  obtain ⟨i, hi, e⟩ := List.getElem_of_mem hg
  have := h.sz.2.2.2 i hi
  rw [List.getD_eq_getElem?_getD, List.getElem?_eq_getElem hi] at this
  simp only [Option.getD_some] at this
  rw [e] at this; exact this

theorem m15_spec (s : Int × Int) (ph : Int) : m15 ((P, (L, (K, (D, (H, (S, G)))))), (s, (ph, ()))) = some (openS P L K D H S G s ph) := by
  apply ok_eq
  rw [m15_eq]
  unfold openS
  by_cases h : Good P L K D H S G
  rotate_left
  · rw [m25_bad h]
    simp only [Option.bind_some]
    refine Ok.ncond (fun _ => Ok.some ?_) (fun h1 => by simp at h1)
    rw [if_pos h]; rfl
  rw [m25_good h, if_neg (Classical.not_not.2 h)]
  simp only [Option.bind_some]
  obtain ⟨s1, s2, s3, s4⟩ := h.sz
  have hs := h.li.sh
  obtain ⟨p1, p2, p3, p4, p5, p6⟩ := hs
  refine Ok.ncond (fun h1 => absurd trivial h1) (fun _ => ?_)
  refine Ok.bind (m47_ok h ph) fun y hy => ?_
  refine Ok.condb (fun h1 => ?_) (fun h1 => ?_)
  · have : ¬ fresh D S G ph := fun g => by rw [hy.2 g] at h1; simp at h1
    rw [if_pos this]; exact Ok.some rfl
  have hf : fresh D S G ph := hy.1 (by simpa using h1)
  rw [if_neg (Classical.not_not.2 hf)]
  rw [clo_eq P L K D H S G (by omega) (fun i hi => by have := s4 i hi; omega)]
  simp only [Option.bind_some]
  refine Ok.gd (by omega) (Ok.gd (by omega) (Ok.gd (by omega) (Ok.gd (by omega) (Ok.gd (by omega) (Ok.gd (by omega) ?_)))))
  have tail : ¬ (s.1 = 3 ∧ S.1 < 0 ∧ 0 ≤ s.2 ∧ s.2 < L) → Ok (m15t ((P, (L, (K, (D, (H, (S, G)))))), (s, (ph, ()))) (P, (L, (K, (D, (H, (S.1, (S.2.1, (S.2.2, G))))))))) (fun r => r = if s.1 = 3 ∧ S.1 < 0 ∧ 0 ≤ s.2 ∧ s.2 < L then ((P, (L, (K, (D, (H, ((ph, (s.2, 0)), G)))))), (0, ()))
      else if s.1 = 4 ∧ (G.length : Int) < K ∧ room P G = false then ((P, (L, (K, (D, (H, (S, G ++ [(ph, [])])))))), (0, ()))
      else (zeroT, (51, ()))) := by
    intro hn
    rw [if_neg hn]
    unfold m15t
    refine Ok.cond (fun a => Ok.cond (fun b => ?_) (fun b => Ok.some ?_)) (fun a => Ok.some ?_)
    · rw [m49_eq P L K D H S G (by omega)]
      simp only [Option.bind_some] at a b ⊢
      refine Ok.condb (fun c => Ok.gd (by omega) (Ok.gd (by omega) (Ok.some ?_))) (fun c => Ok.some ?_)
      · simp only [Bool.not_eq_true'] at c
        rw [if_pos ⟨a, b, c⟩]
      · simp only [Bool.not_eq_false'] at c
        rw [if_neg (fun g => by rw [g.2.2] at c; simp at c)]; rfl
    · rw [if_neg (fun g => b g.2.1)]; rfl
    · rw [if_neg (fun g => a g.1)]; rfl
  rw [wrap64 (n := L - 1) (by omega) (by omega), m40_eq]
  simp only [Option.bind_some]
  refine Ok.cond (fun a => Ok.cond (fun b => Ok.cond (fun c => Ok.some ?_) (fun c => tail fun g => c ⟨g.2.2.1, by have := g.2.2.2; omega⟩)) (fun b => tail fun g => b g.2.1)) (fun a => tail fun g => a g.1)
  rw [if_pos ⟨a, b, c.1, by omega⟩]

theorem m18_spec (s : Int × Int) (n : Int) : m18 ((P, (L, (K, (D, (H, (S, G)))))), (s, (n, ()))) = some (putS P L K D H S G s n) := by
  apply ok_eq
  rw [m18_eq]
  unfold putS
  by_cases h : Good P L K D H S G
  rotate_left
  · rw [m25_bad h]
    simp only [Option.bind_some]
    refine Ok.ncond (fun _ => Ok.some ?_) (fun h1 => by simp at h1)
    rw [if_pos h]; rfl
  rw [m25_good h, if_neg (Classical.not_not.2 h)]
  simp only [Option.bind_some]
  obtain ⟨s1, s2, s3, s4⟩ := h.sz
  have hs := h.li.sh
  have hm := shape_mul hs
  have hHl := h.li.hl
  have hsq := h.li.sq
  obtain ⟨p1, p2, p3, p4, p5, p6⟩ := hs
  refine Ok.ncond (fun h1 => absurd trivial h1) (fun _ => ?_)
  rw [wrap64 (n := ((H.length : Nat) : Int) - 1) (by omega) (by omega), m40_eq]
  simp only [Option.bind_some]
  refine Ok.ncond (fun h1 => Ok.some ?_) (fun h1 => ?_)
  · rw [if_pos (fun g => h1 (by omega))]; rfl
  rw [if_neg (Classical.not_not.2 ⟨h1.1, by omega⟩)]
  rw [clo_eq P L K D H S G (by omega) (fun i hi => by have := s4 i hi; omega)]
  simp only [Option.bind_some]
  refine Ok.gd (by omega) (Ok.gd (by omega) (Ok.gd (by omega) (Ok.gd (by omega) (Ok.gd (by omega) (Ok.gd (by omega) ?_)))))
  rw [m18f_eq n h1.1 G (by omega) h.el]
  simp only [Option.bind_some]
  obtain ⟨N, rfl⟩ : ∃ N : Nat, n = N := ⟨n.toNat, by omega⟩
  obtain ⟨Q, rfl⟩ : ∃ Q : Nat, P = Q := ⟨P.toNat, by omega⟩
  have hdv : N / Q < 10000 := Nat.lt_of_le_of_lt (Nat.div_le_self _ _) (by omega)
  obtain ⟨G', hG'⟩ : ∃ G', G' = G.map (fgc (isn (N : Int))) := ⟨_, rfl⟩
  have hl' : G'.length = G.length := by rw [hG', List.length_map]
  have hrm : room Q G' = room Q G := by rw [hG', room_fgc]
  have hel : ∀ g ∈ G', g.2.length ≤ 32 := fun g hg => by
    rw [hG'] at hg
    obtain ⟨g', hg', rfl⟩ := List.mem_map.1 hg
    have := h.el g' hg'
    simpa [fgc] using this
  rw [← hG']
  have tail : ¬ (s.1 = 1 ∧ 0 ≤ S.1 ∧ S.2.1 = Int.tdiv (N : Int) Q ∧ S.2.2 = Int.tmod (N : Int) Q) → Ok (m18t (((Q : Int), (L, (K, (D, (H, (S, G)))))), (s, ((N : Int), ()))) ((Q : Int), (L, (K, (D, (H, (S.1, (S.2.1, (S.2.2, G)))))))) G') (fun r => r = if s.1 = 1 ∧ 0 ≤ S.1 ∧ S.2.1 = Int.tdiv (N : Int) Q ∧ S.2.2 = Int.tmod (N : Int) Q then (((Q : Int), (L, (K, (D, (H, ((S.1, (S.2.1, S.2.2 + 1)), G')))))), ((S.1, S.2.2), (0, ())))
      else if s.1 = 2 ∧ room Q G = true then
        (((Q : Int), (L, (K, (D, (H, (S, addLast G' N)))))), ((hth (kh := .int .i64) (ki := .int .i64) (addLast G' N) (G.length - 1), (((ith (A := Int) (ki := .int .i64) (addLast G' N) (G.length - 1)).length : Nat) : Int) - 1), (0, ())))
      else (zeroT, ((0, 0), (51, ())))) := by
    intro hn
    rw [if_neg hn]
    unfold m18t
    refine Ok.cond (fun a => ?_) (fun a => Ok.some ?_)
    · rw [m49_eq _ _ _ _ _ _ _ (by omega), hrm]
      simp only [Option.bind_some] at a ⊢
      refine Ok.condb (fun c => ?_) (fun c => Ok.some ?_)
      · rw [if_pos ⟨a, c⟩]
        have hpos : 0 < G.length := by
          unfold room at c; simp only [decide_eq_true_eq] at c; exact c.1
        rw [wrap64 (n := ((G.length : Nat) : Int) - 1) (by omega) (by omega)]
        have e1 : ((((G.length : Nat) : Int) - 1).toNat) = G.length - 1 := by omega
        obtain ⟨A, g, hAg⟩ : ∃ A g, G' = A ++ [g] := ⟨G'.dropLast, G'.getLast (by intro e; rw [e] at hl'; simp at hl'; omega), (List.dropLast_concat_getLast _).symm⟩
        have hAl : G.length - 1 = A.length := by rw [← hl', hAg]; simp
        have hgl : g.2.length ≤ 32 := hel g (by rw [hAg]; simp)
        have e2 : setIn (A := Int) (ki := .int .i64) (A ++ [g]) A.length (g.2 ++ [(N : Int)]) = A ++ [(g.1, g.2 ++ [(N : Int)])] := setIn_mid A [] g _
        have e3 : ith (A := Int) (ki := .int .i64) (A ++ [g]) A.length = g.2 := ith_mid A [] g
        have e4 : ith (A := Int) (ki := .int .i64) (A ++ [(g.1, g.2 ++ [(N : Int)])]) A.length = g.2 ++ [(N : Int)] := ith_mid A [] _
        have e5 : hth (kh := .int .i64) (ki := .int .i64) (A ++ [(g.1, g.2 ++ [(N : Int)])]) A.length = g.1 := hth_mid A [] _
        subst hAg
        simp only [e1, hAl, e3, e2, e4, e5, addLast_snoc]
        have hx : (A ++ [g]).length = A.length + 1 := by simp
        have hx2 : (A ++ [(g.1, g.2 ++ [(N : Int)])]).length = A.length + 1 := by simp
        have hx3 : (g.2 ++ [(N : Int)]).length = g.2.length + 1 := by simp
        rw [hx2, hx3, hx, wrap64 (n := ((g.2.length + 1 : Nat) : Int) - 1) (by omega) (by omega)]
        refine Ok.gd (by omega) (Ok.gd (by omega) (Ok.gd (by omega) (Ok.gd (by simp; omega) (Ok.gd (by simp; omega) (Ok.gd (by omega) (Ok.gd (by omega) (Ok.gd trivial (Ok.gd trivial (Ok.gd (by omega) (Ok.gd (by omega) (Ok.gd (by omega) (Ok.gd (by omega) (Ok.gd (by omega) (Ok.gd (by omega) (Ok.some rfl)))))))))))))))
      · rw [if_neg (fun g => by rw [g.2] at c; simp at c)]; rfl
    · rw [if_neg (fun g => a g.1)]; rfl
  refine Ok.cond (fun a => Ok.cond (fun b => ?_) (fun b => tail fun g => b g.2.1)) (fun a => tail fun g => a g.1)
  obtain ⟨bb, hb⟩ : ∃ b, N / Q = b := ⟨_, rfl⟩
  rw [hb] at hdv
  simp only [div_mod.1, div_mod.2, hb] at tail ⊢
  rw [wrap64 (n := (bb : Int)) (by omega) (by omega)]
  refine Ok.ite (fun e => by omega) (fun _ => ?_)
  refine Ok.cond (fun c => ?_) (fun c => tail fun g => c g.2.2.1)
  refine Ok.ite (fun e => by omega) (fun _ => ?_)
  refine Ok.cond (fun d => Ok.some ?_) (fun d => tail fun g => d g.2.2.2)
  have hu : 0 ≤ S.2.2 ∧ S.2.2 ≤ 100 := by
    rcases hsq with e | e
    · rw [e]; simp
    · omega
  rw [if_pos ⟨a, b, c, d⟩, wrap64 (n := S.2.2 + 1) (by omega) (by omega), wrap64 (n := S.2.2 + 1 - 1) (by omega) (by omega), show S.2.2 + 1 - 1 = S.2.2 by omega]

theorem m20_spec (s : Int × Int) : m20 ((P, (L, (K, (D, (H, (S, G)))))), (s, ())) = some (skipS P L K D H S G s) := by
  apply ok_eq
  rw [m20_eq]
  unfold skipS
  by_cases h : Good P L K D H S G
  rotate_left
  · rw [m25_bad h]
    simp only [Option.bind_some]
    refine Ok.ncond (fun _ => Ok.some ?_) (fun h1 => by simp at h1)
    rw [if_pos h]; rfl
  rw [m25_good h, if_neg (Classical.not_not.2 h)]
  simp only [Option.bind_some]
  obtain ⟨s1, s2, s3, s4⟩ := h.sz
  refine Ok.ncond (fun h1 => absurd trivial h1) (fun _ => ?_)
  refine Ok.ncond (fun a => Ok.some ?_) (fun a => ?_)
  · rw [if_neg (fun g => a g.1)]; rfl
  rw [m49_eq _ _ _ _ _ _ _ (by omega)]
  simp only [Option.bind_some] at a ⊢
  refine Ok.condb (fun c => Ok.some ?_) (fun c => ?_)
  · rw [if_neg (fun g => by rw [g.2] at c; simp at c)]; rfl
  have c : room P G = true := by simpa using c
  rw [if_pos ⟨a, c⟩]
  rw [clo_eq P L K D H S G (by omega) (fun i hi => by have := s4 i hi; omega)]
  simp only [Option.bind_some]
  refine Ok.gd (by omega) (Ok.gd (by omega) (Ok.gd (by omega) (Ok.gd (by omega) (Ok.gd (by omega) (Ok.gd (by omega) ?_)))))
  have hpos : 0 < G.length := by
    unfold room at c; simp only [decide_eq_true_eq] at c; exact c.1
  rw [wrap64 (n := ((G.length : Nat) : Int) - 1) (by omega) (by omega)]
  have e1 : ((((G.length : Nat) : Int) - 1).toNat) = G.length - 1 := by omega
  have hel := h.el
  obtain ⟨A, g, hAg⟩ : ∃ A g, G = A ++ [g] := ⟨G.dropLast, G.getLast (by intro e; rw [e] at hpos; simp at hpos), (List.dropLast_concat_getLast _).symm⟩
  have hAl : G.length - 1 = A.length := by rw [hAg]; simp
  have hgl : g.2.length ≤ 32 := hel g (by rw [hAg]; simp)
  have e2 : setIn (A := Int) (ki := .int .i64) (A ++ [g]) A.length (g.2 ++ [(-1 : Int)]) = A ++ [(g.1, g.2 ++ [(-1 : Int)])] := setIn_mid A [] g _
  have e3 : ith (A := Int) (ki := .int .i64) (A ++ [g]) A.length = g.2 := ith_mid A [] g
  rw [e1, hAl]
  subst hAg
  simp only [e3, e2, addLast_snoc]
  have hx : (A ++ [g]).length = A.length + 1 := by simp
  rw [hx]
  exact Ok.gd (by omega) (Ok.gd (by omega) (Ok.gd (by omega) (Ok.gd (by simp; omega) (Ok.gd (by simp; omega) (Ok.gd (by omega) (Ok.gd (by omega) (Ok.gd trivial (Ok.gd trivial (Ok.some rfl)))))))))

end
end Go.Proofs.Ytecadglgkhfaaaa
end

section
namespace Go.Proofs.Ytecadglgkhfaaaa
open Go Go.Proofs.AM

def ovr (P : Int) (S : Int × (Int × Int)) (G : List Log) : Prop := ∃ g ∈ G, ∃ p ∈ g.2, 0 ≤ p ∧ Int.tdiv p P = S.2.1 ∧ Int.tmod p P < S.2.2

section
variable {P L K : Int} {D : List Int} {H : List Bool} {S : Int × (Int × Int)} {G : List Log}

theorem getD_cons_drop {A : Type} {l : List A} {i : Nat} {z : A} (h : i < l.length) : l.drop i = l.getD i z :: l.drop (i + 1) := by
  rw [List.getD_eq_getElem?_getD, List.getElem?_eq_getElem h, Option.getD_some, List.drop_eq_getElem_cons h]

theorem div_lt {p Q : Nat} (h : p < 100000) : p / Q < 100000 := Nat.lt_of_le_of_lt (Nat.div_le_self _ _) h

theorem tdiv_ok {p P : Int} (h0 : 0 ≤ p) (h1 : p < 8192) (hP : 4 ≤ P) : IntKind.wrap .i64 (Int.tdiv p P) = Int.tdiv p P := by
  obtain ⟨N, rfl⟩ : ∃ N : Nat, p = N := ⟨p.toNat, by omega⟩
  obtain ⟨Q, rfl⟩ : ∃ Q : Nat, P = Q := ⟨P.toNat, by omega⟩
  have hd := div_lt (p := N) (Q := Q) (by omega)
  rw [div_mod.1]
  obtain ⟨b, hb⟩ : ∃ b, N / Q = b := ⟨_, rfl⟩
  rw [hb] at hd ⊢
  rw [wrap64 (by omega) (by omega)]

theorem Good.pages (h : Good P L K D H S G) : ∀ g ∈ G, ∀ p ∈ g.2, -1 ≤ p ∧ p < 8192 := fun g hg p hp => by
  have hm := shape_mul h.li.sh
  obtain ⟨i, hi, e⟩ := List.getElem_of_mem hg
  have := (h.li.lg i hi).pg
  rw [List.getD_eq_getElem?_getD, List.getElem?_eq_getElem hi] at this
  simp only [Option.getD_some] at this
  rw [e] at this
  obtain ⟨j, hj, e2⟩ := List.getElem_of_mem hp
  have := this j hj
  rw [List.getD_eq_getElem?_getD, List.getElem?_eq_getElem hj] at this
  simp only [Option.getD_some] at this
  rw [e2] at this
  omega

theorem m62_ok (h : Good P L K D H S G) : Ok (m62 ((P, (L, (K, (D, (H, (S, G)))))), ())) (fun r => r.1 = true ↔ ovr P S G) := by
  obtain ⟨s1, s2, s3, s4⟩ := h.sz
  have hpg := h.pages
  have hel := h.el
  have hP := h.li.sh.1
  unfold m62
  refine Ok.bind (S := fun e => match e with | .inl _ => ¬ ovr P S G | .inr v => v = true ∧ ovr P S G) (Ok.loop G.length (fun i x => x = (i : Int) ∧ ∀ g ∈ G.take i, ∀ p ∈ g.2, ¬ (0 ≤ p ∧ Int.tdiv p P = S.2.1 ∧ Int.tmod p P < S.2.2)) ⟨rfl, fun g hg => by simp at hg⟩ ?_) fun y hy => ?_
  · rintro i x hi ⟨rfl, hq0⟩
    refine Ok.cond (fun hc => ?_) (fun hc => Ok.inr ?_)
    rotate_left
    · simp only at hc
      rw [List.take_of_length_le (by omega)] at hq0
      exact fun ⟨g, hg, p, hp, e⟩ => hq0 g hg p hp e
    simp only [Int.toNat_natCast] at hc ⊢
    have hi' : i < G.length := by omega
    rw [wrap64 (n := (i : Int) + 1) (by omega) (by omega)]
    refine Ok.gd (by omega) (Ok.gd (by omega) ?_)
    obtain ⟨g, hgd⟩ : ∃ g, g = G.getD i (0, []) := ⟨_, rfl⟩
    have hgm : g ∈ G := hgd ▸ getD_mem hi'
    have hgl := hel g hgm
    have hgp := hpg g hgm
    have htk : G.take (i + 1) = G.take i ++ [g] := hgd ▸ take_snoc G i hi' (0, [])
    simp only [← hgd]
    refine Ok.bind (S := fun e => match e with | .inl _ => ∀ p ∈ g.2, ¬ (0 ≤ p ∧ Int.tdiv p P = S.2.1 ∧ Int.tmod p P < S.2.2) | .inr v => v = true ∧ ovr P S G) (Ok.loop g.2.length (fun j x => x = (j : Int) ∧ ∀ p ∈ g.2.take j, ¬ (0 ≤ p ∧ Int.tdiv p P = S.2.1 ∧ Int.tmod p P < S.2.2)) ⟨rfl, fun p hp => by simp at hp⟩ ?_) fun y hy => ?_
    · rintro j x hj ⟨rfl, hr⟩
      refine Ok.cond (fun hc => ?_) (fun hc => Ok.inr ?_)
      rotate_left
      · rw [List.take_of_length_le (by omega)] at hr
        exact hr
      simp only [Int.toNat_natCast] at hc ⊢
      have hj' : j < g.2.length := by omega
      rw [wrap64 (n := (j : Int) + 1) (by omega) (by omega)]
      refine Ok.gd (by omega) (Ok.gd (by omega) ?_)
      obtain ⟨p, hpd⟩ : ∃ p, p = g.2.getD j 0 := ⟨_, rfl⟩
      have hpm : p ∈ g.2 := hpd ▸ getD_mem hj'
      have hpb := hgp p hpm
      have htk2 : g.2.take (j + 1) = g.2.take j ++ [p] := hpd ▸ take_snoc g.2 j hj' 0
      simp only [← hpd]
      have go : ¬ (0 ≤ p ∧ Int.tdiv p P = S.2.1 ∧ Int.tmod p P < S.2.2) → j < g.2.length ∧ ((j : Int) + 1 = ((j + 1 : Nat) : Int) ∧ ∀ p ∈ g.2.take (j + 1), ¬ (0 ≤ p ∧ Int.tdiv p P = S.2.1 ∧ Int.tmod p P < S.2.2)) := fun hn => by
        refine ⟨hj', by omega, fun q hq => ?_⟩
        rw [htk2] at hq
        rcases List.mem_append.1 hq with hq | hq
        · exact hr q hq
        · simp only [List.mem_singleton] at hq; subst hq; exact hn
      refine Ok.cond (fun a => ?_) (fun a => Ok.inl (go fun k => a k.1))
      rw [tdiv_ok a hpb.2 hP]
      refine Ok.ite (fun e => by omega) (fun _ => ?_)
      refine Ok.cond (fun b => ?_) (fun b => Ok.inl (go fun k => b k.2.1))
      refine Ok.ite (fun e => by omega) (fun _ => ?_)
      refine Ok.cond (fun c => Ok.inr ⟨rfl, g, hgm, _, hpm, a, b, c⟩) (fun c => Ok.inl (go fun k => c k.2.2))
    · refine Ok.elim (fun v e => ?_) (fun v e => ?_)
      · subst e
        refine Ok.inl ⟨hi', by omega, fun q hq => ?_⟩
        rw [htk] at hq
        rcases List.mem_append.1 hq with hq | hq
        · exact hq0 q hq
        · simp only [List.mem_singleton] at hq; subst hq; exact hy
      · subst e; exact Ok.inr hy
  · refine Ok.elim (fun v e => ?_) (fun v e => ?_)
    · subst e; exact Ok.some ⟨fun h => by simp at h, fun h => absurd h hy⟩
    · subst e; exact Ok.some ⟨fun _ => hy.2, fun _ => hy.1⟩

theorem loc_none {n : Int} : ∀ {G : List Log}, loc n G = none ↔ ∀ g ∈ G, n ∉ g.2
  | [] => by simp [loc]
  | g :: G => by
    rw [loc]
    cases h : pos n g.2 with
    | none =>
      simp only [List.mem_cons, forall_eq_or_imp]
      rw [loc_none]
      exact ⟨fun k => ⟨pos_none.1 h, k⟩, fun k => k.2⟩
    | some k =>
      simp only [List.mem_cons, forall_eq_or_imp]
      refine ⟨fun g => by simp at g, fun g => ?_⟩
      rw [pos_none.2 g.1] at h; simp at h

end

def fstp : List Int → Option Int
  | [] => none
  | p :: l => if 0 ≤ p then some p else fstp l

def randW (P K : Int) (G : List Log) : Int × Int :=
  if room P G = true then (2, 0) else if (G.length : Int) < K then (4, 0) else match fstp (G.getD 0 (0, [])).2 with
    | some p => (8, Int.tdiv p P)
    | none => (9, 0)

section
open Classical
variable (P L K : Int) (D : List Int) (H : List Bool) (S : Int × (Int × Int)) (G : List Log)

noncomputable def seqW (b : Int) : Int × Int :=
  if S.1 < 0 then (3, b) else if S.2.1 = b ∧ S.2.2 = 0 then (1, b) else if ovr P S G then (7, S.2.1) else if S.2.2 < P then (6, S.2.1) else (5, S.2.1)

noncomputable def wantS (n : Int) : (Int × Int) × (Int × Unit) :=
  if ¬ Good P L K D H S G then ((0, 0), (50, ()))
  else if ¬ (0 ≤ n ∧ n < H.length) then ((0, 0), (1, ()))
  else if Int.tmod n P = 0 then (seqW P S G (Int.tdiv n P), (0, ()))
  else if 0 ≤ S.1 ∧ S.2.1 = Int.tdiv n P ∧ S.2.2 = Int.tmod n P then ((1, Int.tdiv n P), (0, ()))
  else (randW P K G, (0, ()))
end

section
variable {P L K : Int} {D : List Int} {H : List Bool} {S : Int × (Int × Int)} {G : List Log}

open Classical in
theorem m41_spec (h : Good P L K D H S G) (b : Int) : m41 ((P, (L, (K, (D, (H, (S, G)))))), (b, ())) = some (seqW P S G b, ()) := by
  apply ok_eq
  unfold m41 seqW
  simp only [show decide ((3 : Int) = 5) = false from rfl, show decide ((3 : Int) = 6) = false from rfl, show decide ((3 : Int) = 7) = false from rfl, show decide ((1 : Int) = 5) = false from rfl, show decide ((1 : Int) = 6) = false from rfl, show decide ((1 : Int) = 7) = false from rfl,
    show decide ((7 : Int) = 5) = false from rfl, show decide ((7 : Int) = 6) = false from rfl, show decide ((7 : Int) = 7) = true from rfl, show decide ((6 : Int) = 5) = false from rfl, show decide ((6 : Int) = 6) = true from rfl, show decide ((5 : Int) = 5) = true from rfl, cond_true, cond_false]
  have tail : ¬ S.1 < 0 → ¬ (S.2.1 = b ∧ S.2.2 = 0) → Ok (Option.bind (m62 ((P, (L, (K, (D, (H, (S, G)))))), ())) fun (y1 : (Bool × Unit)) =>
      bif y1.1 then some (((7 : Int), S.2.1), ()) else (bif decide (S.2.2 < P) then some (((6 : Int), S.2.1), ()) else some (((5 : Int), S.2.1), ()))) (fun r => r = (if S.1 < 0 then (3, b) else if S.2.1 = b ∧ S.2.2 = 0 then (1, b) else if ovr P S G then (7, S.2.1) else if S.2.2 < P then (6, S.2.1) else (5, S.2.1), ())) := by
    intro h1 h2
    refine Ok.bind (m62_ok h) fun y hy => ?_
    rw [if_neg h1, if_neg h2]
    refine Ok.condb (fun a => Ok.some ?_) (fun a => ?_)
    · rw [if_pos (hy.1 a)]
    · rw [if_neg (fun g => by rw [hy.2 g] at a; simp at a)]
      refine Ok.cond (fun c => Ok.some ?_) (fun c => Ok.some ?_)
      · rw [if_pos c]
      · rw [if_neg c]
  refine Ok.cond (fun a => Ok.some ?_) (fun a => Ok.cond (fun c => Ok.cond (fun d => Ok.some ?_) (fun d => tail a fun g => d g.2)) (fun c => tail a fun g => c g.1))
  · rw [if_pos a]
  · rw [if_neg a, if_pos ⟨c, d⟩]

theorem fstp_drop {l : List Int} {j : Nat} (hj : j < l.length) : fstp (l.drop j) = if 0 ≤ l.getD j 0 then some (l.getD j 0) else fstp (l.drop (j + 1)) := by
  rw [getD_cons_drop (z := 0) hj]; rfl

theorem m42_spec (h : Good P L K D H S G) : m42 ((P, (L, (K, (D, (H, (S, G)))))), ()) = some (randW P K G, ()) := by
  apply ok_eq
  obtain ⟨s1, s2, s3, s4⟩ := h.sz
  obtain ⟨p1, p2, p3, p4, p5, p6⟩ := h.li.sh
  unfold m42 randW
  rw [m49_eq P L K D H S G (by omega)]
  simp only [Option.bind_some]
  refine Ok.condb (fun a => Ok.some ?_) (fun a => ?_)
  · rw [if_pos a]
  rw [if_neg (fun g => by rw [g] at a; simp at a)]
  refine Ok.cond (fun c => Ok.some ?_) (fun c => ?_)
  · rw [if_pos c]
  rw [if_neg c]
  have hpos : 0 < G.length := by omega
  refine Ok.gd (by omega) ?_
  simp only [Int.toNat_zero]
  obtain ⟨g, hgd⟩ : ∃ g, g = G.getD 0 (0, []) := ⟨_, rfl⟩
  have hgm : g ∈ G := hgd ▸ getD_mem hpos
  have hgl := h.el g hgm
  have hgp := h.pages g hgm
  simp only [← hgd]
  refine Ok.bind (S := fun e => match e with | .inl _ => fstp g.2 = none | .inr v => ∃ p, fstp g.2 = some p ∧ v = (8, Int.tdiv p P)) (Ok.loop g.2.length (fun j x => x.1 = (j : Int) ∧ fstp g.2 = fstp (g.2.drop j)) ⟨rfl, by simp⟩ ?_) fun y hy => ?_
  · rintro j ⟨x1, x2⟩ hj ⟨hx, hr⟩
    simp only at hx hr
    subst hx
    refine Ok.cond (fun hc => ?_) (fun hc => Ok.inr (by simp only at hc; rw [hr, List.drop_of_length_le (by omega)]; rfl))
    simp only [Int.toNat_natCast] at hc ⊢
    have hj' : j < g.2.length := by omega
    rw [wrap64 (n := (j : Int) + 1) (by omega) (by omega)]
    rw [fstp_drop hj'] at hr
    have hb := hgp _ (getD_mem (z := 0) hj')
    refine Ok.gd (by omega) (Ok.gd (by omega) ?_)
    refine Ok.cond (fun a => Ok.ite (fun e => by omega) (fun _ => Ok.inr ?_)) (fun a => Ok.inl ⟨hj', by simp, ?_⟩)
    · rw [if_pos a] at hr
      exact ⟨_, hr, by rw [tdiv_ok a hb.2 p1]⟩
    · rw [if_neg (by simpa using a)] at hr; exact hr
  · refine Ok.elim (fun v e => ?_) (fun v e => ?_)
    · subst e
      have hy : fstp g.2 = none := hy
      rw [hy]; exact Ok.some rfl
    · subst e
      obtain ⟨p, h1, h2⟩ := hy
      rw [h1]; exact Ok.some (by rw [h2])

theorem m13_spec (n : Int) : m13 ((P, (L, (K, (D, (H, (S, G)))))), (n, ())) = some (wantS P L K D H S G n) := by
  apply ok_eq
  unfold m13 wantS
  by_cases h : Good P L K D H S G
  rotate_left
  · rw [m25_bad h]
    simp only [Option.bind_some]
    refine Ok.ncond (fun _ => Ok.some ?_) (fun h1 => by simp at h1)
    rw [if_pos h]
  rw [m25_good h, if_neg (Classical.not_not.2 h)]
  simp only [Option.bind_some]
  obtain ⟨s1, s2, s3, s4⟩ := h.sz
  obtain ⟨p1, p2, p3, p4, p5, p6⟩ := h.li.sh
  refine Ok.ncond (fun h1 => absurd trivial h1) (fun _ => ?_)
  rw [wrap64 (n := ((H.length : Nat) : Int) - 1) (by omega) (by omega), m40_eq]
  simp only [Option.bind_some]
  refine Ok.ncond (fun h1 => Ok.some ?_) (fun h1 => ?_)
  · rw [if_pos (fun g => h1 (by omega))]
  rw [if_neg (Classical.not_not.2 ⟨h1.1, by omega⟩)]
  refine Ok.ite (fun e => by have e : P = 0 := e; omega) (fun _ => Ok.ite (fun e => by have e : P = 0 := e; omega) (fun _ => ?_))
  rw [tdiv_ok h1.1 (by omega) p1, m41_spec h, m42_spec h]
  simp only [Option.bind_some]
  refine Ok.cond (fun a => Ok.some ?_) (fun a => ?_)
  · rw [if_pos a]
  rw [if_neg a]
  refine Ok.cond (fun b => Ok.cond (fun c => Ok.cond (fun d => Ok.some ?_) (fun d => Ok.some ?_)) (fun c => Ok.some ?_)) (fun b => Ok.some ?_)
  · rw [if_pos ⟨b, c, d⟩]
  · rw [if_neg (fun g => d g.2.2)]
  · rw [if_neg (fun g => c g.2.1)]
  · rw [if_neg (fun g => b g.1)]

end

end Go.Proofs.Ytecadglgkhfaaaa
end

section
namespace Go.Proofs.Ytecadglgkhfaaaa
open Go Go.Proofs.AM

theorem pos_map {n : Int} (F : Int → Int) (h : ∀ p, F p = n ↔ p = n) : ∀ l : List Int, pos n (l.map F) = pos n l
  | [] => rfl
  | x :: l => by
    rw [List.map_cons, pos, pos, pos_map F h l]
    by_cases e : x = n
    · rw [if_pos e, if_pos ((h x).2 e)]
    · rw [if_neg e, if_neg (fun g => e ((h x).1 g))]

theorem loc_fgc {n : Int} (c : Int → Bool) (h0 : 0 ≤ n) (hc : c n = false) : ∀ G : List Log, loc n (G.map (fgc c)) = loc n G
  | [] => rfl
  | g :: G => by
    rw [List.map_cons, loc, loc, loc_fgc c h0 hc G]
    have : pos n (fgc c g).2 = pos n g.2 := pos_map _ (fun p => by
      by_cases e : c p = true
      · simp only [e, if_true]
        exact ⟨fun g => by omega, fun g => by subst g; rw [hc] at e; simp at e⟩
      · simp only [if_neg e]) g.2
    rw [this]; rfl

theorem loc_gone {n : Int} (c : Int → Bool) (h0 : 0 ≤ n) (hc : c n = true) (G : List Log) : loc n (G.map (fgc c)) = none := by
  rw [loc_none]
  intro g hg hn
  obtain ⟨g', hg', rfl⟩ := List.mem_map.1 hg
  obtain ⟨p, hp, e⟩ := List.mem_map.1 hn
  by_cases h : c p = true
  · rw [if_pos h] at e; omega
  · rw [if_neg h] at e; subst e; exact h hc

theorem pos_app_none {n v : Int} (h : v ≠ n) : ∀ l : List Int, pos n (l ++ [v]) = pos n l
  | [] => by simp [pos, h]
  | x :: l => by rw [List.cons_append, pos, pos, pos_app_none h l]

theorem pos_app_some {n : Int} : ∀ l : List Int, n ∉ l → pos n (l ++ [n]) = some l.length
  | [], _ => by simp [pos]
  | x :: l, h => by
    rw [List.mem_cons, not_or] at h
    rw [List.cons_append, pos, if_neg (fun e => h.1 e.symm), pos_app_some l h.2]; rfl

theorem loc_addLast {n v : Int} (h : v ≠ n) (A : List Log) (g : Log) : loc n (addLast (A ++ [g]) v) = loc n (A ++ [g]) := by
  rw [addLast_snoc, loc_app, loc_app]
  simp only [loc]
  rw [pos_app_none h]

theorem loc_addLast_self {n : Int} (A : List Log) (g : Log) (h : loc n (A ++ [g]) = none) : loc n (addLast (A ++ [g]) n) = some (g.1, (g.2.length : Int)) := by
  rw [loc_none] at h
  rw [addLast_snoc, loc_app, loc_none.2 (fun x hx => h x (by simp [hx]))]
  simp only [loc]
  rw [pos_app_some _ (h g (by simp))]; rfl

theorem loc_neg {n : Int} {g : Log} {G : List Log} (h0 : 0 ≤ n) (h : ∀ p ∈ g.2, p < 0) : loc n (g :: G) = loc n G := by
  rw [loc, pos_none.2 (fun hm => by have := h n hm; omega)]

section
variable {P L K : Int} {D : List Int} {H : List Bool} {S : Int × (Int × Int)} {G : List Log}

theorem good_openSeq (h : Good P L K D H S G) {ph b : Int} (hS : S.1 < 0) (h0 : 0 ≤ b) (h1 : b < L) (hf : fresh D S G ph) : Good P L K D H (ph, (b, 0)) G := by
  obtain ⟨p1, p2, p3, p4, p5, p6⟩ := h.li.sh
  refine ⟨⟨h.li.sh, h.li.dl, h.li.hl, h.li.gl, h.li.lg, .inr ⟨hf.1, hf.2.1, h0, h1, by simp, by simp only; omega⟩⟩, h.d1, h.hd, ?_, h.np⟩
  have hb := h.nb
  have hn := hf.2.2
  unfold blocks at hn
  rw [List.cons_append, posi_cons, if_neg (by omega)] at hb hn
  rw [List.cons_append, posi_cons, if_pos hf.1]
  exact List.nodup_cons.2 ⟨hn, hb⟩

theorem getD_app_left {A : Type} {l m : List A} {i : Nat} {z : A} (h : i < l.length) : (l ++ m).getD i z = l.getD i z := by
  simp only [List.getD_eq_getElem?_getD, List.getElem?_append_left h]

theorem getD_app_last {A : Type} {l : List A} {x z : A} : (l ++ [x]).getD l.length z = x := by simp

theorem good_openRand (h : Good P L K D H S G) {ph : Int} (hK : (G.length : Int) < K) (hr : room P G = false) (hf : fresh D S G ph) : Good P L K D H S (G ++ [(ph, [])]) := by
  obtain ⟨p1, p2, p3, p4, p5, p6⟩ := h.li.sh
  refine ⟨⟨h.li.sh, h.li.dl, h.li.hl, by simp; omega, fun i hi => ?_, h.li.sq⟩, h.d1, h.hd, ?_, by simpa using h.np⟩
  · simp only [List.length_append, List.length_singleton] at hi ⊢
    by_cases e : i < G.length
    · rw [getD_app_left e]
      have k := h.li.lg i e
      refine ⟨k.p0, k.p1, k.le, fun h2 => ?_, k.pg⟩
      by_cases e2 : i + 1 < G.length
      · exact k.eq e2
      · have e3 : i = G.length - 1 := by omega
        unfold room at hr
        simp only [decide_eq_false_iff_not, not_and, Int.not_lt] at hr
        have := hr (by omega)
        rw [← e3] at this
        have := k.le
        omega
    · have e3 : i = G.length := by omega
      subst e3
      rw [getD_app_last]
      exact ⟨hf.1, hf.2.1, by simp only [List.length_nil]; omega, fun h2 => by omega, fun j hj => by simp at hj⟩
  · have hb := h.nb
    have hn := hf.2.2
    unfold blocks at hn
    rw [List.map_append, ← List.append_assoc]
    exact (nodup_pos hf.1).2 ⟨hb, hn⟩

theorem flatMap_fgc (c : Int → Bool) : ∀ G : List Log, (G.map (fgc c)).flatMap (·.2) = (G.flatMap (·.2)).map (fun p => if c p = true then -1 else p)
  | [] => rfl
  | g :: G => by
    rw [List.map_cons, List.flatMap_cons, List.flatMap_cons, List.map_append, flatMap_fgc c G]; rfl

theorem posi_map_sub (c : Int → Bool) : ∀ l : List Int, (posi (l.map (fun p => if c p = true then -1 else p))).Sublist (posi l)
  | [] => List.Sublist.refl _
  | x :: l => by
    rw [List.map_cons, posi_cons, posi_cons]
    have ih := posi_map_sub c l
    by_cases h : c x = true
    · rw [if_pos h, if_neg (by simp)]
      split
      · exact List.Sublist.cons _ ih
      · exact ih
    · rw [if_neg h]
      split
      · exact List.Sublist.cons_cons _ ih
      · exact ih

theorem getD_map {A B : Type} (F : A → B) {l : List A} {j : Nat} {z : B} {y : A} (h : j < l.length) : (l.map F).getD j z = F (l.getD j y) := by
  simp only [List.getD_eq_getElem?_getD, List.getElem?_map, List.getElem?_eq_getElem h, Option.map_some, Option.getD_some]

theorem good_forget (c : Int → Bool) (h : Good P L K D H S G) : Good P L K D H S (G.map (fgc c)) := by
  have hm := shape_mul h.li.sh
  have hfst : (G.map (fgc c)).map (·.1) = G.map (·.1) := by rw [List.map_map]; rfl
  refine ⟨⟨h.li.sh, h.li.dl, h.li.hl, by simpa using h.li.gl, fun i hi => ?_, h.li.sq⟩, h.d1, h.hd, by rw [hfst]; exact h.nb, ?_⟩
  · rw [List.length_map] at hi ⊢
    have k := h.li.lg i hi
    have e : (G.map (fgc c)).getD i (0, []) = fgc c (G.getD i (0, [])) := by
      simp only [List.getD_eq_getElem?_getD, List.getElem?_map, List.getElem?_eq_getElem hi, Option.map_some, Option.getD_some]
    rw [e]
    refine ⟨k.p0, k.p1, by simpa [fgc] using k.le, fun h2 => by simpa [fgc] using k.eq h2, fun j hj => ?_⟩
    have hj' : j < (G.getD i (0, [])).2.length := by simpa [fgc] using hj
    have hp := k.pg j hj'
    have e2 : (fgc c (G.getD i (0, []))).2.getD j 0 = if c ((G.getD i (0, [])).2.getD j 0) = true then -1 else (G.getD i (0, [])).2.getD j 0 := by
      exact getD_map _ hj'
    rw [e2]
    split
    · omega
    · exact hp
  · rw [flatMap_fgc]
    exact (posi_map_sub c _).nodup h.np

theorem good_putSeq (h : Good P L K D H S G) (hS : 0 ≤ S.1) (hu : S.2.2 < P) : Good P L K D H (S.1, (S.2.1, S.2.2 + 1)) G := by
  refine ⟨⟨h.li.sh, h.li.dl, h.li.hl, h.li.gl, h.li.lg, ?_⟩, h.d1, h.hd, h.nb, h.np⟩
  rcases h.li.sq with e | e
  · rw [e] at hS; simp at hS
  · exact .inr ⟨e.1, e.2.1, e.2.2.1, e.2.2.2.1, by simp only; omega, by simp only; omega⟩

theorem good_addLast {A : List Log} {g : Log} (h : Good P L K D H S (A ++ [g])) (hr : room P (A ++ [g]) = true) {v : Int} (h0 : -1 ≤ v) (h1 : v < P * L) (hn : 0 ≤ v → loc v (A ++ [g]) = none) : Good P L K D H S (addLast (A ++ [g]) v) := by
  have hle : (g.2.length : Int) < P := by
    unfold room at hr
    simp only [decide_eq_true_eq] at hr
    have e : (A ++ [g]).length - 1 = A.length := by simp
    rw [e, getD_app_last] at hr
    exact hr.2
  rw [addLast_snoc]
  have hl1 : (A ++ [g]).length = A.length + 1 := by simp
  have hl2 : (A ++ [(g.1, g.2 ++ [v])]).length = A.length + 1 := by simp
  refine ⟨⟨h.li.sh, h.li.dl, h.li.hl, by rw [hl2, ← hl1]; exact h.li.gl, fun i hi => ?_, h.li.sq⟩, h.d1, h.hd, by have := h.nb; simpa using this, ?_⟩
  · rw [hl2] at hi ⊢
    have k := h.li.lg i (by rw [hl1]; exact hi)
    rw [hl1] at k
    by_cases e : i < A.length
    · rw [getD_app_left e] at k ⊢; exact k
    · obtain rfl : i = A.length := by omega
      rw [getD_app_last] at k ⊢
      refine ⟨k.p0, k.p1, by simp only [List.length_append, List.length_singleton]; omega, fun h2 => by omega, fun j hj => ?_⟩
      simp only [List.length_append, List.length_singleton] at hj
      by_cases e2 : j < g.2.length
      · rw [getD_app_left e2]; exact k.pg j e2
      · obtain rfl : j = g.2.length := by omega
        rw [getD_app_last]; exact ⟨h0, h1⟩
  · have e : (A ++ [(g.1, g.2 ++ [v])]).flatMap (·.2) = (A ++ [g]).flatMap (·.2) ++ [v] := by simp
    rw [e]
    by_cases hv : 0 ≤ v
    · rw [nodup_pos hv]
      refine ⟨h.np, fun hm => ?_⟩
      obtain ⟨x, hx, hvx⟩ := List.mem_flatMap.1 (mem_posi.1 hm).1
      exact loc_none.1 (hn hv) x hx hvx
    · rw [posi_neg (by omega)]; exact h.np

theorem good_drop {g : Log} (h : Good P L K D H S (g :: G)) : Good P L K D H S G := by
  have hgl := h.li.gl
  simp only [List.length_cons] at hgl
  refine ⟨⟨h.li.sh, h.li.dl, h.li.hl, by omega, fun i hi => ?_, h.li.sq⟩, h.d1, h.hd, ?_, ?_⟩
  · have k := h.li.lg (i + 1) (by simp; omega)
    have e : (g :: G).getD (i + 1) (0, []) = G.getD i (0, []) := rfl
    rw [e, List.length_cons] at k
    exact ⟨k.p0, k.p1, k.le, fun h2 => k.eq (by omega), k.pg⟩
  · refine List.Sublist.nodup (List.Sublist.filter _ ?_) h.nb
    exact List.Sublist.append (List.Sublist.refl _) (List.sublist_cons_self _ _)
  · have := h.np
    rw [List.flatMap_cons, posi_app] at this
    exact (List.nodup_append.1 this).2.1
end

section
open Classical
variable (P L K : Int) (D : List Int) (H : List Bool) (S : Int × (Int × Int)) (G : List Log)

noncomputable def dropS : Tab × (Int × (Int × Unit)) :=
  if ¬ Good P L K D H S G then (zeroT, (0, (50, ())))
  else match G with
    | [] => (zeroT, (0, (51, ())))
    | g :: G' => if ∃ p ∈ g.2, 0 ≤ p then (zeroT, (0, (51, ()))) else ((P, (L, (K, (D, (H, (S, G')))))), (g.1, (0, ())))
end

section
variable {P L K : Int} {D : List Int} {H : List Bool} {S : Int × (Int × Int)} {G : List Log}

theorem m24_spec : m24 ((P, (L, (K, (D, (H, (S, G)))))), ()) = some (dropS P L K D H S G) := by
  apply ok_eq
  rw [m24_eq]
  unfold dropS
  by_cases h : Good P L K D H S G
  rotate_left
  · rw [m25_bad h]
    simp only [Option.bind_some]
    refine Ok.ncond (fun _ => Ok.some ?_) (fun h1 => by simp at h1)
    rw [if_pos h]; rfl
  rw [m25_good h, if_neg (Classical.not_not.2 h)]
  simp only [Option.bind_some]
  obtain ⟨s1, s2, s3, s4⟩ := h.sz
  refine Ok.ncond (fun h1 => absurd trivial h1) (fun _ => ?_)
  cases G with
  | nil => exact Ok.cond (fun _ => Ok.some rfl) (fun h => by simp at h)
  | cons g G =>
    refine Ok.cond (fun h => by simp at h; omega) (fun _ => ?_)
    simp only [List.length_cons] at s3
    refine Ok.gd (by simp only [List.length_cons]; omega) ?_
    rw [clo_eq P L K D H S (g :: G) (by simp; omega) (fun i hi => by have := s4 i hi; omega)]
    have e0 : (g :: G).getD (Int.toNat 0) (0, []) = g := rfl
    simp only [e0, Option.bind_some]
    have hgl := h.el g (by simp)
    refine Ok.bind (S := fun e => match e with | .inl _ => ¬ ∃ p ∈ g.2, 0 ≤ p | .inr v => 0 ≤ v ∧ ∃ p ∈ g.2, 0 ≤ p) (Ok.loop g.2.length (fun j x => x = (j : Int) ∧ ∀ k, k < j → g.2.getD k 0 < 0) ⟨rfl, fun k hk => by omega⟩ ?_) fun y hy => ?_
    · rintro j x hj ⟨rfl, hr⟩
      refine Ok.cond (fun hc => ?_) (fun hc => Ok.inr ?_)
      rotate_left
      · rintro ⟨p, hp, h0⟩
        obtain ⟨k, hk, e⟩ := List.getElem_of_mem hp
        have := hr k (by omega)
        rw [List.getD_eq_getElem?_getD, List.getElem?_eq_getElem hk, Option.getD_some] at this
        omega
      simp only [Int.toNat_natCast] at hc ⊢
      rw [wrap64 (n := (j : Int) + 1) (by omega) (by omega)]
      refine Ok.gd (by omega) (Ok.gd (by omega) ?_)
      refine Ok.cond (fun a => Ok.inr ⟨by omega, _, getD_mem (by omega), a⟩) (fun a => Ok.inl ⟨by omega, by omega, fun k hk => ?_⟩)
      by_cases e : k = j
      · subst e; omega
      · exact hr k (by omega)
    · refine Ok.elim (fun v e => ?_) (fun v e => ?_)
      · subst e
        have hy : ¬ ∃ p ∈ g.2, 0 ≤ p := hy
        rw [if_neg hy]
        refine Ok.cond (fun h => by omega) (fun _ => ?_)
        refine Ok.gd (by omega) (Ok.gd (by omega) (Ok.gd (by omega) (Ok.gd (by omega) (Ok.gd (by omega) (Ok.gd (by omega) ?_)))))
        refine Ok.gd (by simp only [List.length_cons]; omega) (Ok.gd (by simp) (Ok.gd (by simp only [List.length_cons]; omega) (Ok.gd (by omega) (Ok.some ?_))))
        have e1 : List.take ((Int.toNat (((g :: G).length : Nat) : Int)) - (Int.toNat 1)) (List.drop (Int.toNat 1) (g :: G)) = G := by
          show List.take ((g :: G).length - 1) G = G
          simp
        rw [e1]
        rfl
      · subst e
        refine Ok.cond (fun _ => Ok.some ?_) (fun h => absurd hy.1 h)
        rw [if_pos hy.2]; rfl
end

theorem m23_ok {Q : Nat} {L K : Int} {D : List Int} {H : List Bool} {S : Int × (Int × Int)} {G : List Log} {K' : Int} {D' : List Int} {H' : List Bool} {S' : Int × (Int × Int)} {G' : List Log} {from_ to : Int}
    (h : Good Q L K D H S G) (h' : Good Q L K' D' H' S' G') (hw : ∀ n : Nat, n < H.length → ((n : Int) < from_ ∨ to ≤ n) → wh Q D H S G n = wh Q D' H' S' G' n) :
    m23 (((Q : Int), (L, (K, (D, (H, (S, G)))))), (((Q : Int), (L, (K', (D', (H', (S', G')))))), (from_, (to, ())))) = some (true, ()) := by
  apply ok_eq
  obtain ⟨s1, s2, s3, s4⟩ := h.sz
  have hh : H'.length = H.length := by have := h.li.hl; have := h'.li.hl; omega
  unfold m23
  refine Ok.bind (S := fun e => match e with | .inl _ => True | .inr _ => False) (Ok.loop H.length (fun i x => x = (i : Int)) rfl ?_) fun y hy => ?_
  · rintro i x hi rfl
    refine Ok.cond (fun hc => ?_) (fun hc => Ok.inr trivial)
    simp only at hc
    have hi' : i < H.length := by omega
    rw [wrap64 (n := (i : Int) + 1) (by omega) (by omega)]
    simp only
    rw [m22_good h i hi', m22_good h' i (by omega)]
    simp only [Option.bind_some]
    refine Ok.cond (fun a => Ok.cond (fun b => Ok.inl ⟨hi', by omega⟩) (fun b => ?_)) (fun a => ?_)
    all_goals
      rw [← hw i hi' (by omega)]
      refine Ok.condb (fun h => by simp at h) (fun _ => ?_)
      refine Ok.condb (fun h => ?_) (fun _ => Ok.inl ⟨hi', by omega⟩)
      cases hb : (wh Q D H S G i).2.1 <;> rw [hb] at h <;> simp at h
  · refine Ok.elim (fun v e => Ok.some rfl) (fun v e => by subst e; exact hy.elim)

section
variable {Q : Nat} {L K : Int} {D : List Int} {H : List Bool} {S : Int × (Int × Int)} {G : List Log}

theorem open_keeps (h : Good Q L K D H S G) (s : Int × Int) (ph : Int) (he : (openS Q L K D H S G s ph).2.1 = 0) :
    ∃ S' G', (openS Q L K D H S G s ph).1 = ((Q : Int), (L, (K, (D, (H, (S', G')))))) ∧ Good Q L K D H S' G' ∧ ∀ n : Nat, n < H.length → wh Q D H S G n = wh Q D H S' G' n := by
  unfold openS at he ⊢
  rw [if_neg (Classical.not_not.2 h)] at he ⊢
  by_cases hf : fresh D S G ph
  rotate_left
  · rw [if_pos hf] at he; simp at he
  rw [if_neg (Classical.not_not.2 hf)] at he ⊢
  by_cases c1 : s.1 = 3 ∧ S.1 < 0 ∧ 0 ≤ s.2 ∧ s.2 < L
  · rw [if_pos c1] at he ⊢
    refine ⟨_, _, rfl, good_openSeq h c1.2.1 c1.2.2.1 c1.2.2.2 hf, fun n hn => ?_⟩
    unfold wh
    cases loc n G with
    | some p => rfl
    | none =>
      have := c1.2.1
      have n1 : ¬ (0 ≤ S.1 ∧ S.2.1 = ((n / Q : Nat) : Int) ∧ ((n % Q : Nat) : Int) < S.2.2) := fun g => by omega
      have n2 : ¬ (0 ≤ ph ∧ s.2 = ((n / Q : Nat) : Int) ∧ ((n % Q : Nat) : Int) < 0) := fun g => by omega
      simp only
      rw [if_neg n1, if_neg n2]
  rw [if_neg c1] at he ⊢
  by_cases c2 : s.1 = 4 ∧ (G.length : Int) < K ∧ room Q G = false
  · rw [if_pos c2] at he ⊢
    refine ⟨_, _, rfl, good_openRand h c2.2.1 c2.2.2 hf, fun n hn => ?_⟩
    unfold wh
    rw [loc_app]
    have : loc (n : Int) [(ph, [])] = none := rfl
    rw [this, Option.or_none]
  · rw [if_neg c2] at he; simp at he

theorem snoc_of {G : List Log} (h : 0 < G.length) : ∃ A g, G = A ++ [g] :=
  ⟨G.dropLast, G.getLast (by intro e; rw [e] at h; simp at h), (List.dropLast_concat_getLast _).symm⟩

theorem room_pos {P : Int} {G : List Log} (h : room P G = true) : 0 < G.length := by
  unfold room at h; simp only [decide_eq_true_eq] at h; exact h.1

theorem put_keeps (h : Good Q L K D H S G) (s : Int × Int) (n : Int) (he : (putS Q L K D H S G s n).2.2.1 = 0) :
    ∃ (S' : Int × (Int × Int)) (G' : List Log) (m : Nat), n = m ∧ m < H.length ∧ (putS Q L K D H S G s n).1 = ((Q : Int), (L, (K, (D, (H, (S', G')))))) ∧ Good Q L K D H S' G' ∧ wh Q D H S' G' m = ((putS Q L K D H S G s n).2.1, (true, ())) ∧ ∀ k : Nat, k < H.length → k ≠ m → wh Q D H S G k = wh Q D H S' G' k := by
  unfold putS at he ⊢
  rw [if_neg (Classical.not_not.2 h)] at he ⊢
  by_cases hr : 0 ≤ n ∧ n < H.length
  rotate_left
  · rw [if_pos hr] at he; simp at he
  rw [if_neg (Classical.not_not.2 hr)] at he ⊢
  obtain ⟨m, rfl⟩ : ∃ m : Nat, n = m := ⟨n.toNat, by omega⟩
  have hG' := good_forget (isn (m : Int)) h
  have hgone : loc (m : Int) (G.map (fgc (isn (m : Int)))) = none := loc_gone _ (by omega) (by simp [isn]) G
  have hsame : ∀ k : Nat, k ≠ m → loc (k : Int) (G.map (fgc (isn (m : Int)))) = loc (k : Int) G := fun k hk => loc_fgc _ (by omega) (by simp [isn]; omega) G
  have hlen : (G.map (fgc (isn (m : Int)))).length = G.length := List.length_map ..
  have hrm := room_fgc Q (isn (m : Int)) G
  have hQ := h.li.sh.1
  simp only [div_mod.1, div_mod.2] at he ⊢
  by_cases c1 : s.1 = 1 ∧ 0 ≤ S.1 ∧ S.2.1 = ((m / Q : Nat) : Int) ∧ S.2.2 = ((m % Q : Nat) : Int)
  · rw [if_pos c1] at he ⊢
    obtain ⟨e1, e2, e3, e4⟩ := c1
    have hmod : m % Q < Q := Nat.mod_lt _ (by omega)
    refine ⟨_, _, m, rfl, by omega, rfl, good_putSeq hG' e2 (by rw [e4]; omega), ?_, fun k hk hne => ?_⟩
    · unfold wh
      rw [hgone]
      simp only
      rw [if_pos ⟨e2, e3, by rw [e4]; omega⟩, e4]
    · unfold wh
      rw [hsame k hne]
      cases loc (k : Int) G with
      | some p => rfl
      | none =>
        simp only
        by_cases c : 0 ≤ S.1 ∧ S.2.1 = ((k / Q : Nat) : Int) ∧ ((k % Q : Nat) : Int) < S.2.2
        · rw [if_pos c, if_pos ⟨c.1, c.2.1, by omega⟩]
        · have c' : ¬ (0 ≤ S.1 ∧ S.2.1 = ((k / Q : Nat) : Int) ∧ ((k % Q : Nat) : Int) < S.2.2 + 1) := ?_
          · rw [if_neg c, if_neg c']
          rintro ⟨g1, g2, g3⟩
          refine c ⟨g1, g2, ?_⟩
          by_cases e : k % Q = m % Q
          · have e5 : k / Q = m / Q := by omega
            exact absurd (by rw [← Nat.div_add_mod k Q, ← Nat.div_add_mod m Q, e, e5]) hne
          · omega
  rw [if_neg c1] at he ⊢
  by_cases c2 : s.1 = 2 ∧ room Q G = true
  · rw [if_pos c2] at he ⊢
    obtain ⟨A, g, hAg⟩ := snoc_of (by rw [hlen]; exact room_pos c2.2 : 0 < (G.map (fgc (isn (m : Int)))).length)
    have hl2 : G.length - 1 = A.length := by rw [← hlen, hAg]; simp
    rw [hAg] at hgone hG' hrm hsame
    simp only [hAg, hl2]
    have hlt : (m : Int) < Q * L := by have := h.li.hl; omega
    refine ⟨_, _, m, rfl, by omega, rfl, good_addLast hG' (by rw [hrm]; exact c2.2) (by omega) hlt (fun _ => hgone), ?_, fun k hk hne => ?_⟩
    · unfold wh
      rw [loc_addLast_self A g hgone]
      simp only
      rw [addLast_snoc]
      have e4 : ith (A := Int) (ki := .int .i64) (A ++ [(g.1, g.2 ++ [(m : Int)])]) A.length = g.2 ++ [(m : Int)] := ith_mid A [] _
      have e5 : hth (kh := .int .i64) (ki := .int .i64) (A ++ [(g.1, g.2 ++ [(m : Int)])]) A.length = g.1 := hth_mid A [] _
      rw [e4, e5]
      have e6 : (g.2 ++ [(m : Int)]).length = g.2.length + 1 := by simp
      rw [e6, show ((g.2.length + 1 : Nat) : Int) - 1 = (g.2.length : Int) by omega]
    · unfold wh
      rw [loc_addLast (by omega) A g, hsame k hne]
  · rw [if_neg c2] at he; simp at he

theorem skip_keeps (h : Good Q L K D H S G) (s : Int × Int) (he : (skipS Q L K D H S G s).2.1 = 0) :
    ∃ S' G', (skipS Q L K D H S G s).1 = ((Q : Int), (L, (K, (D, (H, (S', G')))))) ∧ Good Q L K D H S' G' ∧ ∀ n : Nat, n < H.length → wh Q D H S G n = wh Q D H S' G' n := by
  unfold skipS at he ⊢
  rw [if_neg (Classical.not_not.2 h)] at he ⊢
  by_cases c : s.1 = 2 ∧ room Q G = true
  · rw [if_pos c] at he ⊢
    obtain ⟨A, g, hAg⟩ := snoc_of (room_pos c.2)
    subst hAg
    have hm := shape_mul h.li.sh
    refine ⟨_, _, rfl, good_addLast h c.2 (by omega) (by omega) (fun h => by omega), fun n hn => ?_⟩
    unfold wh
    rw [loc_addLast (by omega) A g]
  · rw [if_neg c] at he; simp at he

theorem drop_keeps (h : Good Q L K D H S G) (he : (dropS Q L K D H S G).2.2.1 = 0) :
    ∃ S' G', (dropS Q L K D H S G).1 = ((Q : Int), (L, (K, (D, (H, (S', G')))))) ∧ Good Q L K D H S' G' ∧ ∀ n : Nat, n < H.length → wh Q D H S G n = wh Q D H S' G' n := by
  unfold dropS at he ⊢
  rw [if_neg (Classical.not_not.2 h)] at he ⊢
  cases G with
  | nil => simp at he
  | cons g G =>
    simp only at he ⊢
    by_cases c : ∃ p ∈ g.2, 0 ≤ p
    · rw [if_pos c] at he; simp at he
    rw [if_neg c] at he ⊢
    refine ⟨_, _, rfl, good_drop h, fun n hn => ?_⟩
    unfold wh
    rw [loc_neg (by omega) (fun p hp => by
      have : ¬ 0 ≤ p := fun h0 => c ⟨p, hp, h0⟩
      omega)]
end

theorem live_ok : m10 () = some (true, ()) := by
  have sh : shape 4 2 1 := ⟨by omega, by omega, by omega, by omega, by omega, by omega⟩
  have g0 : Good 4 2 1 [-1, -1] [false, false, false, false, false, false, false, false] (-1, (0, 0)) [] := newT_good sh
  have e0 : newT 4 2 1 = (4, (2, (1, ([-1, -1], ([false, false, false, false, false, false, false, false], ((-1, (0, 0)), [])))))) := rfl
  have w : wantS 4 2 1 [-1, -1] [false, false, false, false, false, false, false, false] (-1, (0, 0)) [] 0 = ((3, 0), (0, ())) := by
    unfold wantS seqW
    rw [if_neg (Classical.not_not.2 g0), if_neg (by simp), if_pos (by rfl), if_pos (by simp)]; rfl
  have f : fresh [-1, -1] (-1, (0, 0)) [] 7 := ⟨by omega, by omega, by simp [blocks, posi]⟩
  have o : openS 4 2 1 [-1, -1] [false, false, false, false, false, false, false, false] (-1, (0, 0)) [] (3, 0) 7 = ((4, (2, (1, ([-1, -1], ([false, false, false, false, false, false, false, false], ((7, (0, 0)), [])))))), (0, ())) := by
    unfold openS
    rw [if_neg (Classical.not_not.2 g0), if_neg (Classical.not_not.2 f), if_pos (by simp)]
  have g1 : Good 4 2 1 [-1, -1] [false, false, false, false, false, false, false, false] (7, (0, 0)) [] := good_openSeq g0 (by simp) (by omega) (by omega) f
  have p : putS 4 2 1 [-1, -1] [false, false, false, false, false, false, false, false] (7, (0, 0)) [] (1, 0) 0 = ((4, (2, (1, ([-1, -1], ([false, false, false, false, false, false, false, false], ((7, (0, 1)), [])))))), ((7, 0), (0, ()))) := by
    unfold putS
    rw [if_neg (Classical.not_not.2 g1), if_neg (by simp), if_pos (by simp)]; rfl
  have g2 : Good ((4 : Nat) : Int) 2 1 [-1, -1] [false, false, false, false, false, false, false, false] (7, (0, 1)) [] := good_putSeq g1 (by simp) (by simp)
  have v := m22_good g2 0 (by simp)
  have v' : m22 (((4 : Int), ((2 : Int), ((1 : Int), ([-1, -1], ([false, false, false, false, false, false, false, false], ((7, (0, 1)), [])))))), ((0 : Int), ())) = some ((7, 0), (true, ())) := by
    refine Eq.trans v ?_
    unfold wh
    rw [show loc ((0 : Nat) : Int) [] = none from rfl]
    simp
  unfold m10
  rw [m30_yes sh]
  simp only [Option.bind_some, e0]
  rw [m13_spec, w]
  simp only [Option.bind_some]
  rw [m15_spec, o]
  simp only [Option.bind_some]
  rw [m18_spec, p]
  simp only [Option.bind_some]
  rw [v']
  rfl
end Go.Proofs.Ytecadglgkhfaaaa
end

section
namespace Go.Proofs.Ytecadglgkhfaaaa
open Go Go.Proofs.AM

theorem m24_bad_ne {P L K : Int} {D : List Int} {H : List Bool} {S : Int × (Int × Int)} {G : List Log} (h : ¬ Good P L K D H S G) : (dropS P L K D H S G).2.2.1 = 50 := by unfold dropS; rw [if_pos h]
theorem open_bad {P L K : Int} {D : List Int} {H : List Bool} {S : Int × (Int × Int)} {G : List Log} (h : ¬ Good P L K D H S G) (s : Int × Int) (n : Int) : (openS P L K D H S G s n).2.1 = 50 := by unfold openS; rw [if_pos h]
theorem put_bad {P L K : Int} {D : List Int} {H : List Bool} {S : Int × (Int × Int)} {G : List Log} (h : ¬ Good P L K D H S G) (s : Int × Int) (n : Int) : (putS P L K D H S G s n).2.2.1 = 50 := by unfold putS; rw [if_pos h]
theorem skip_bad {P L K : Int} {D : List Int} {H : List Bool} {S : Int × (Int × Int)} {G : List Log} (h : ¬ Good P L K D H S G) (s : Int × Int) : (skipS P L K D H S G s).2.1 = 50 := by unfold skipS; rw [if_pos h]

theorem m11_any (t : Tab) : ∃ b, m11 (t, ()) = some (b, ()) := by
  unfold m11
  simp only [Bool.cond_eq_ite]
  split
  · split
    · exact ⟨_, rfl⟩
    · exact ⟨_, rfl⟩
  · exact ⟨_, rfl⟩

theorem newest (P L K : Int) (D : List Int) (H : List Bool) (S : Int × (Int × Int)) (G : List Log) (s : Int × Int) (n ph : Int) : m4 (((P, (L, (K, (D, (H, (S, G)))))), (s, (n, ph))), ()) = some (true, ()) := by
  unfold m4
  rw [live_ok]
  simp only [Option.bind_some]
  obtain ⟨sm, hsm⟩ := m11_any (P, (L, (K, (D, (H, (S, G))))))
  rw [hsm, m18_spec, m15_spec, m20_spec, m24_spec]
  simp only [Option.bind_some, Bool.not_true, cond_false]
  cases sm with
  | false => rfl
  | true =>
    simp only [Bool.not_true, cond_false]
    by_cases h : Good P L K D H S G
    rotate_left
    · rw [m24_bad_ne h, open_bad h, put_bad h, skip_bad h]; rfl
    obtain ⟨Q, rfl⟩ : ∃ Q : Nat, P = Q := ⟨P.toNat, by have := h.li.sh.1; omega⟩
    have hD : (dropS Q L K D H S G).2.2.1 = 0 → m23 (((Q : Int), (L, (K, (D, (H, (S, G)))))), ((dropS Q L K D H S G).1, (0, (0, ())))) = some (true, ()) := fun e => by
      obtain ⟨S', G', e1, g, w⟩ := drop_keeps h e
      rw [e1]; exact m23_ok h g fun k hk _ => w k hk
    have hO : (openS Q L K D H S G s ph).2.1 = 0 → m23 (((Q : Int), (L, (K, (D, (H, (S, G)))))), ((openS Q L K D H S G s ph).1, (0, (0, ())))) = some (true, ()) := fun e => by
      obtain ⟨S', G', e1, g, w⟩ := open_keeps h s ph e
      rw [e1]; exact m23_ok h g fun k hk _ => w k hk
    have hK : (skipS Q L K D H S G s).2.1 = 0 → m23 (((Q : Int), (L, (K, (D, (H, (S, G)))))), ((skipS Q L K D H S G s).1, (0, (0, ())))) = some (true, ()) := fun e => by
      obtain ⟨S', G', e1, g, w⟩ := skip_keeps h s e
      rw [e1]; exact m23_ok h g fun k hk _ => w k hk
    have hP : (putS Q L K D H S G s n).2.2.1 = 0 → m22 ((putS Q L K D H S G s n).1, (n, ())) = some ((putS Q L K D H S G s n).2.1, (true, ())) ∧ m23 (((Q : Int), (L, (K, (D, (H, (S, G)))))), ((putS Q L K D H S G s n).1, (n, ((IntKind.wrap .i64 (n + 1)), ())))) = some (true, ()) := fun e => by
      obtain ⟨S', G', m, rfl, hm, e1, g, w1, w2⟩ := put_keeps h s n e
      have hl := h.sz.2.1
      rw [e1, m22_good g m hm, w1]
      refine ⟨rfl, ?_⟩
      rw [wrap64 (by omega) (by omega)]
      exact m23_ok h g fun k hk hc => w2 k hk (by omega)
    obtain ⟨d, hd⟩ : ∃ d, d = dropS Q L K D H S G := ⟨_, rfl⟩
    obtain ⟨o, ho⟩ : ∃ o, o = openS Q L K D H S G s ph := ⟨_, rfl⟩
    obtain ⟨k, hk⟩ : ∃ k, k = skipS Q L K D H S G s := ⟨_, rfl⟩
    obtain ⟨p, hp⟩ : ∃ p, p = putS Q L K D H S G s n := ⟨_, rfl⟩
    rw [← hd] at hD
    rw [← ho] at hO
    rw [← hk] at hK
    rw [← hp] at hP
    simp only [← hd, ← ho, ← hk, ← hp]
    by_cases a : p.2.2.1 = 0 <;> by_cases b : o.2.1 = 0 <;> by_cases c : k.2.1 = 0 <;> by_cases e : d.2.2.1 = 0
    all_goals
      first | have q1 := (hP a).1 | skip
      first | have q2 := (hP a).2 | skip
      first | have q3 := hO b | skip
      first | have q4 := hK c | skip
      first | have q5 := hD e | skip
      clear hP hO hK hD hd ho hk hp hsm
      simp [*]

theorem PlanNewest_pure : ∀ x : AM.PDen [(true, (.pair kT (.pair (.pair (.int .i64) (.int .i64)) (.pair (.int .i64) (.int .i64)))))], AM.PWf _ x → m4 x = some (true, ()) := by
  rintro ⟨⟨⟨P, L, K, D, H, S, G⟩, s, n, ph⟩, ⟨⟩⟩ _
  exact newest P L K D H S G s n ph
end Go.Proofs.Ytecadglgkhfaaaa
end
