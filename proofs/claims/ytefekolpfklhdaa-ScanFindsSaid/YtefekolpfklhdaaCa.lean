/- What the functions of this claim compute, each shown by the kernel, and what that comes to, with no program in sight. No condition. -/
import Derived.Test.YtefekolpfklhdaaProg
import Derived.Test.YtefekolpfklhdaaAmd
import Derived.KernelRfl
import Derived.Shelf.Spec.SlicesGrow
set_option maxRecDepth 2000
set_option linter.unusedVariables false
set_option linter.unusedSimpArgs false
section
namespace Go.Proofs.Ytefekolpfklhdaa
theorem Try.follows : Try.prog.follows .mixedOrders = true := by kernel_rfl
end Go.Proofs.Ytefekolpfklhdaa
end

section
open Go Go.Proofs.AM
namespace Go.Proofs.Ytefekolpfklhdaa

noncomputable def m69 (x : (Int × (Int × (Int × Int))) × (Int × (Int × (Int × Int))) × Unit) : Option (Bool × Unit) :=
 bif (!(decide (x.1.2.2.1 = x.2.1.2.2.1))) then
 (some ((decide (x.1.2.2.1 > x.2.1.2.2.1)), ()))
 else
 (some ((decide (x.1.2.2.2 < x.2.1.2.2.2)), ()))

noncomputable def r69 : PDen [(true, (.pair (.int .i64) (.pair (.int .i64) (.pair (.int .i64) (.int .i64))))), (true, (.pair (.int .i64) (.pair (.int .i64) (.pair (.int .i64) (.int .i64)))))] → Option (PDen [(false, .bool)]) := fun x => afun Try.prog (envOf [] [] [] []) ⟨[], []⟩ Try.f69 [(true, (.pair (.int .i64) (.pair (.int .i64) (.pair (.int .i64) (.int .i64))))), (true, (.pair (.int .i64) (.pair (.int .i64) (.pair (.int .i64) (.int .i64)))))] [(false, .bool)] false x
theorem r69_eq : r69 = m69 := by kernel_rfl

theorem c69 : CS.Sound Try.prog 69 ⟨[(true, (.pair (.int .i64) (.pair (.int .i64) (.pair (.int .i64) (.int .i64))))), (true, (.pair (.int .i64) (.pair (.int .i64) (.pair (.int .i64) (.int .i64)))))], [(false, .bool)], false, m69⟩ := afun_sound' (envOf_sound (CSs.nil) (HDs.nil) (IDs.nil)) rfl Try.follows (f := 69) (fn := Try.f69) Try.func69 (by kernel_rfl) (by kernel_rfl) r69_eq
end Go.Proofs.Ytefekolpfklhdaa
end

section
open Go Go.Proofs.AM
namespace Go.Proofs.Ytefekolpfklhdaa

noncomputable def m40 (x : ((Int × Int) × (Int × (Int × (Int × Int)))) × ((Int × Int) × (Int × (Int × (Int × Int)))) × Unit) : Option (Bool × Unit) :=
 Option.bind (m69 (x.1.2, (x.2.1.2, ()))) fun (y1 : (Bool × Unit)) =>
 bif y1.1 then
 (some (true, ()))
 else
 (Option.bind (m69 (x.2.1.2, (x.1.2, ()))) fun (y2 : (Bool × Unit)) =>
 bif y2.1 then
 (some (false, ()))
 else
 (bif (!(decide (x.1.1.1 = x.2.1.1.1))) then
 (some ((decide (x.1.1.1 < x.2.1.1.1)), ()))
 else
 (some ((decide (x.1.1.2 < x.2.1.1.2)), ()))))

noncomputable def r40 : PDen [(true, (.pair (.pair (.int .i64) (.int .i64)) (.pair (.int .i64) (.pair (.int .i64) (.pair (.int .i64) (.int .i64)))))), (true, (.pair (.pair (.int .i64) (.int .i64)) (.pair (.int .i64) (.pair (.int .i64) (.pair (.int .i64) (.int .i64))))))] → Option (PDen [(false, .bool)]) := fun x => afun Try.prog (envOf [(69, ⟨[(true, (.pair (.int .i64) (.pair (.int .i64) (.pair (.int .i64) (.int .i64))))), (true, (.pair (.int .i64) (.pair (.int .i64) (.pair (.int .i64) (.int .i64)))))], [(false, .bool)], false, m69⟩)] [] [] []) ⟨[], []⟩ Try.f40 [(true, (.pair (.pair (.int .i64) (.int .i64)) (.pair (.int .i64) (.pair (.int .i64) (.pair (.int .i64) (.int .i64)))))), (true, (.pair (.pair (.int .i64) (.int .i64)) (.pair (.int .i64) (.pair (.int .i64) (.pair (.int .i64) (.int .i64))))))] [(false, .bool)] false x
theorem r40_eq : r40 = m40 := by kernel_rfl

theorem c40 : CS.Sound Try.prog 40 ⟨[(true, (.pair (.pair (.int .i64) (.int .i64)) (.pair (.int .i64) (.pair (.int .i64) (.pair (.int .i64) (.int .i64)))))), (true, (.pair (.pair (.int .i64) (.int .i64)) (.pair (.int .i64) (.pair (.int .i64) (.pair (.int .i64) (.int .i64))))))], [(false, .bool)], false, m40⟩ := afun_sound' (envOf_sound (CSs.cons c69 (CSs.nil)) (HDs.nil) (IDs.nil)) rfl Try.follows (f := 40) (fn := Try.f40) Try.func40 (by kernel_rfl) (by kernel_rfl) r40_eq
end Go.Proofs.Ytefekolpfklhdaa
end

section
open Go Go.Proofs.AM
namespace Go.Proofs.Ytefekolpfklhdaa

noncomputable def m42 (x : Unit) : Option ((Int × Int) × Unit) :=
 some (((-1 : Int), (0 : Int)), ())

noncomputable def r42 : PDen [] → Option (PDen [(true, (.pair (.int .i64) (.int .i64)))]) := fun x => afun Try.prog (envOf [] [] [] []) ⟨[], []⟩ Try.f42 [] [(true, (.pair (.int .i64) (.int .i64)))] false x
theorem r42_eq : r42 = m42 := by kernel_rfl

theorem c42 : CS.Sound Try.prog 42 ⟨[], [(true, (.pair (.int .i64) (.int .i64)))], false, m42⟩ := afun_sound' (envOf_sound (CSs.nil) (HDs.nil) (IDs.nil)) rfl Try.follows (f := 42) (fn := Try.f42) Try.func42 (by kernel_rfl) (by kernel_rfl) r42_eq
end Go.Proofs.Ytefekolpfklhdaa
end

section
open Go Go.Proofs.AM
namespace Go.Proofs.Ytefekolpfklhdaa

noncomputable def m46 (x : (Int × (Int × (Int × Int))) × Unit) : Option (Int × Unit) :=
 bif (!(decide (x.1.1 = (1 : Int)))) then
 (bif (!(decide (x.1.1 = (2 : Int)))) then
 (bif (!(decide (x.1.1 = (3 : Int)))) then
 (some ((30 : Int), ()))
 else
 (bif (decide (x.1.2.2.2 < x.1.2.2.1)) then
 (some ((30 : Int), ()))
 else
 (bif (decide (x.1.2.2.2 > (1152921504606846976 : Int))) then
 (some ((30 : Int), ()))
 else
 (bif (!(decide (x.1.1 = (1 : Int)))) then
 (bif (!(decide (x.1.2.2.2 = x.1.2.2.1))) then
 (some ((30 : Int), ()))
 else
 (bif (decide (x.1.2.1 < (0 : Int))) then
 (some ((30 : Int), ()))
 else
 (bif (decide (x.1.2.1 ≥ (1048576 : Int))) then
 (some ((30 : Int), ()))
 else
 (bif (decide (x.1.2.2.1 < (1 : Int))) then
 (some ((30 : Int), ()))
 else
 (bif (decide (x.1.2.2.1 > (1152921504606846976 : Int))) then
 (some ((30 : Int), ()))
 else
 (some ((0 : Int), ())))))))
 else
 (bif (decide (x.1.2.1 < (0 : Int))) then
 (some ((30 : Int), ()))
 else
 (bif (decide (x.1.2.1 ≥ (1048576 : Int))) then
 (some ((30 : Int), ()))
 else
 (bif (decide (x.1.2.2.1 < (1 : Int))) then
 (some ((30 : Int), ()))
 else
 (bif (decide (x.1.2.2.1 > (1152921504606846976 : Int))) then
 (some ((30 : Int), ()))
 else
 (some ((0 : Int), ()))))))))))
 else
 (bif (decide (x.1.2.2.2 < x.1.2.2.1)) then
 (some ((30 : Int), ()))
 else
 (bif (decide (x.1.2.2.2 > (1152921504606846976 : Int))) then
 (some ((30 : Int), ()))
 else
 (bif (!(decide (x.1.1 = (1 : Int)))) then
 (bif (!(decide (x.1.2.2.2 = x.1.2.2.1))) then
 (some ((30 : Int), ()))
 else
 (bif (decide (x.1.2.1 < (0 : Int))) then
 (some ((30 : Int), ()))
 else
 (bif (decide (x.1.2.1 ≥ (1048576 : Int))) then
 (some ((30 : Int), ()))
 else
 (bif (decide (x.1.2.2.1 < (1 : Int))) then
 (some ((30 : Int), ()))
 else
 (bif (decide (x.1.2.2.1 > (1152921504606846976 : Int))) then
 (some ((30 : Int), ()))
 else
 (some ((0 : Int), ())))))))
 else
 (bif (decide (x.1.2.1 < (0 : Int))) then
 (some ((30 : Int), ()))
 else
 (bif (decide (x.1.2.1 ≥ (1048576 : Int))) then
 (some ((30 : Int), ()))
 else
 (bif (decide (x.1.2.2.1 < (1 : Int))) then
 (some ((30 : Int), ()))
 else
 (bif (decide (x.1.2.2.1 > (1152921504606846976 : Int))) then
 (some ((30 : Int), ()))
 else
 (some ((0 : Int), ()))))))))))
 else
 (bif (decide (x.1.2.2.2 < x.1.2.2.1)) then
 (some ((30 : Int), ()))
 else
 (bif (decide (x.1.2.2.2 > (1152921504606846976 : Int))) then
 (some ((30 : Int), ()))
 else
 (bif (!(decide (x.1.1 = (1 : Int)))) then
 (bif (!(decide (x.1.2.2.2 = x.1.2.2.1))) then
 (some ((30 : Int), ()))
 else
 (bif (decide (x.1.2.1 < (0 : Int))) then
 (some ((30 : Int), ()))
 else
 (bif (decide (x.1.2.1 ≥ (1048576 : Int))) then
 (some ((30 : Int), ()))
 else
 (bif (decide (x.1.2.2.1 < (1 : Int))) then
 (some ((30 : Int), ()))
 else
 (bif (decide (x.1.2.2.1 > (1152921504606846976 : Int))) then
 (some ((30 : Int), ()))
 else
 (some ((0 : Int), ())))))))
 else
 (bif (decide (x.1.2.1 < (0 : Int))) then
 (some ((30 : Int), ()))
 else
 (bif (decide (x.1.2.1 ≥ (1048576 : Int))) then
 (some ((30 : Int), ()))
 else
 (bif (decide (x.1.2.2.1 < (1 : Int))) then
 (some ((30 : Int), ()))
 else
 (bif (decide (x.1.2.2.1 > (1152921504606846976 : Int))) then
 (some ((30 : Int), ()))
 else
 (some ((0 : Int), ())))))))))

noncomputable def r46 : PDen [(true, (.pair (.int .i64) (.pair (.int .i64) (.pair (.int .i64) (.int .i64)))))] → Option (PDen [(false, (.int .i64))]) := fun x => afun Try.prog (envOf [] [] [] []) ⟨[], []⟩ Try.f46 [(true, (.pair (.int .i64) (.pair (.int .i64) (.pair (.int .i64) (.int .i64)))))] [(false, (.int .i64))] false x
theorem r46_eq : r46 = m46 := by kernel_rfl

theorem c46 : CS.Sound Try.prog 46 ⟨[(true, (.pair (.int .i64) (.pair (.int .i64) (.pair (.int .i64) (.int .i64)))))], [(false, (.int .i64))], false, m46⟩ := afun_sound' (envOf_sound (CSs.nil) (HDs.nil) (IDs.nil)) rfl Try.follows (f := 46) (fn := Try.f46) Try.func46 (by kernel_rfl) (by kernel_rfl) r46_eq
end Go.Proofs.Ytefekolpfklhdaa
end

section
open Go Go.Proofs.AM
namespace Go.Proofs.Ytefekolpfklhdaa

noncomputable def m48 (x : Int × Int × Int × Unit) : Option (Bool × Unit) :=
 bif (decide (x.1 ≥ x.2.1)) then
 (some ((decide (x.1 ≤ x.2.2.1)), ()))
 else
 (some (false, ()))

noncomputable def r48 : PDen [(false, (.int .i64)), (false, (.int .i64)), (false, (.int .i64))] → Option (PDen [(false, .bool)]) := fun x => afun Try.prog (envOf [] [] [] []) ⟨[], []⟩ Try.f48 [(false, (.int .i64)), (false, (.int .i64)), (false, (.int .i64))] [(false, .bool)] false x
theorem r48_eq : r48 = m48 := by kernel_rfl

theorem c48 : CS.Sound Try.prog 48 ⟨[(false, (.int .i64)), (false, (.int .i64)), (false, (.int .i64))], [(false, .bool)], false, m48⟩ := afun_sound' (envOf_sound (CSs.nil) (HDs.nil) (IDs.nil)) rfl Try.follows (f := 48) (fn := Try.f48) Try.func48 (by kernel_rfl) (by kernel_rfl) r48_eq
end Go.Proofs.Ytefekolpfklhdaa
end

section
open Go Go.Proofs.AM
namespace Go.Proofs.Ytefekolpfklhdaa

noncomputable def m68 (x : Int × ((Int × Int) × (Int × (Int × (Int × Int)))) × Unit) : Option (Bool × Unit) :=
 Option.bind (m46 (x.2.1.2, ())) fun (y1 : (Int × Unit)) =>
 bif (decide (y1.1 = (0 : Int))) then
 (bif (!(decide (x.2.1.2.1 = (3 : Int)))) then
 (Option.bind (m48 (x.2.1.1.1, ((0 : Int), ((255 : Int), ())))) fun (y2 : (Bool × Unit)) =>
 bif y2.1 then
 (Option.bind (m48 (x.2.1.1.2, ((0 : Int), ((Go.IntKind.wrap .i64 (x.1 - (1 : Int))), ())))) fun (y3 : (Bool × Unit)) =>
 some (y3.1, ()))
 else
 (some (false, ())))
 else
 (some (false, ())))
 else
 (some (false, ()))

noncomputable def r68 : PDen [(false, (.int .i64)), (true, (.pair (.pair (.int .i64) (.int .i64)) (.pair (.int .i64) (.pair (.int .i64) (.pair (.int .i64) (.int .i64))))))] → Option (PDen [(false, .bool)]) := fun x => afun Try.prog (envOf [(46, ⟨[(true, (.pair (.int .i64) (.pair (.int .i64) (.pair (.int .i64) (.int .i64)))))], [(false, (.int .i64))], false, m46⟩), (48, ⟨[(false, (.int .i64)), (false, (.int .i64)), (false, (.int .i64))], [(false, .bool)], false, m48⟩)] [] [] []) ⟨[], []⟩ Try.f68 [(false, (.int .i64)), (true, (.pair (.pair (.int .i64) (.int .i64)) (.pair (.int .i64) (.pair (.int .i64) (.pair (.int .i64) (.int .i64))))))] [(false, .bool)] false x
theorem r68_eq : r68 = m68 := by kernel_rfl

theorem c68 : CS.Sound Try.prog 68 ⟨[(false, (.int .i64)), (true, (.pair (.pair (.int .i64) (.int .i64)) (.pair (.int .i64) (.pair (.int .i64) (.pair (.int .i64) (.int .i64))))))], [(false, .bool)], false, m68⟩ := afun_sound' (envOf_sound (CSs.cons c46 (CSs.cons c48 (CSs.nil))) (HDs.nil) (IDs.nil)) rfl Try.follows (f := 68) (fn := Try.f68) Try.func68 (by kernel_rfl) (by kernel_rfl) r68_eq
end Go.Proofs.Ytefekolpfklhdaa
end

section
open Go Go.Proofs.AM
namespace Go.Proofs.Ytefekolpfklhdaa

noncomputable def m88 (x : Int × Int × Unit) : Option (Int × (Int × Unit)) :=
 some ((Go.IntKind.wrap .u32 (ishr .u64 (Go.IntKind.wrap .u64 ((Go.IntKind.wrap .u64 x.1) * (Go.IntKind.wrap .u64 x.2.1))) (32 : Int))), ((Go.IntKind.wrap .u32 (Go.IntKind.wrap .u64 ((Go.IntKind.wrap .u64 x.1) * (Go.IntKind.wrap .u64 x.2.1)))), ()))

noncomputable def r88 : PDen [(false, (.int .u32)), (false, (.int .u32))] → Option (PDen [(false, (.int .u32)), (false, (.int .u32))]) := fun x => afun Try.prog (envOf [] [] [] []) ⟨[], []⟩ Try.f88 [(false, (.int .u32)), (false, (.int .u32))] [(false, (.int .u32)), (false, (.int .u32))] false x
theorem r88_eq : r88 = m88 := by kernel_rfl

theorem c88 : CS.Sound Try.prog 88 ⟨[(false, (.int .u32)), (false, (.int .u32))], [(false, (.int .u32)), (false, (.int .u32))], false, m88⟩ := afun_sound' (envOf_sound (CSs.nil) (HDs.nil) (IDs.nil)) rfl Try.follows (f := 88) (fn := Try.f88) Try.func88 (by kernel_rfl) (by kernel_rfl) r88_eq
end Go.Proofs.Ytefekolpfklhdaa
end

section
open Go Go.Proofs.AM
namespace Go.Proofs.Ytefekolpfklhdaa

noncomputable def m89 (x : Int × Int × Unit) : Option (Int × (Int × Unit)) :=
 some ((Go.IntKind.wrap .u64 ((Go.IntKind.wrap .u64 ((Go.IntKind.wrap .u64 ((ishr .u64 x.1 (32 : Int)) * (ishr .u64 x.2.1 (32 : Int)))) + (ishr .u64 (Go.IntKind.wrap .u64 ((Go.IntKind.wrap .u64 ((ishr .u64 x.1 (32 : Int)) * (iand .u64 x.2.1 (4294967295 : Int)))) + (ishr .u64 (Go.IntKind.wrap .u64 ((iand .u64 x.1 (4294967295 : Int)) * (iand .u64 x.2.1 (4294967295 : Int)))) (32 : Int)))) (32 : Int)))) + (ishr .u64 (Go.IntKind.wrap .u64 ((iand .u64 (Go.IntKind.wrap .u64 ((Go.IntKind.wrap .u64 ((ishr .u64 x.1 (32 : Int)) * (iand .u64 x.2.1 (4294967295 : Int)))) + (ishr .u64 (Go.IntKind.wrap .u64 ((iand .u64 x.1 (4294967295 : Int)) * (iand .u64 x.2.1 (4294967295 : Int)))) (32 : Int)))) (4294967295 : Int)) + (Go.IntKind.wrap .u64 ((iand .u64 x.1 (4294967295 : Int)) * (ishr .u64 x.2.1 (32 : Int)))))) (32 : Int)))), ((Go.IntKind.wrap .u64 (x.1 * x.2.1)), ()))

noncomputable def r89 : PDen [(false, (.int .u64)), (false, (.int .u64))] → Option (PDen [(false, (.int .u64)), (false, (.int .u64))]) := fun x => afun Try.prog (envOf [] [] [] []) ⟨[], []⟩ Try.f89 [(false, (.int .u64)), (false, (.int .u64))] [(false, (.int .u64)), (false, (.int .u64))] false x
theorem r89_eq : r89 = m89 := by kernel_rfl

theorem c89 : CS.Sound Try.prog 89 ⟨[(false, (.int .u64)), (false, (.int .u64))], [(false, (.int .u64)), (false, (.int .u64))], false, m89⟩ := afun_sound' (envOf_sound (CSs.nil) (HDs.nil) (IDs.nil)) rfl Try.follows (f := 89) (fn := Try.f89) Try.func89 (by kernel_rfl) (by kernel_rfl) r89_eq
end Go.Proofs.Ytefekolpfklhdaa
end

section
open Go Go.Proofs.AM
namespace Go.Proofs.Ytefekolpfklhdaa

noncomputable def m70 (x : Int × Int × Unit) : Option (Int × (Int × Unit)) :=
 Option.bind (m89 (x.1, (x.2.1, ()))) fun (y1 : (Int × (Int × Unit))) =>
 some (y1.1, (y1.2.1, ()))

noncomputable def r70 : PDen [(false, (.int .u64)), (false, (.int .u64))] → Option (PDen [(false, (.int .u64)), (false, (.int .u64))]) := fun x => afun Try.prog (envOf [(88, ⟨[(false, (.int .u32)), (false, (.int .u32))], [(false, (.int .u32)), (false, (.int .u32))], false, m88⟩), (89, ⟨[(false, (.int .u64)), (false, (.int .u64))], [(false, (.int .u64)), (false, (.int .u64))], false, m89⟩)] [] [] []) ⟨[], []⟩ Try.f70 [(false, (.int .u64)), (false, (.int .u64))] [(false, (.int .u64)), (false, (.int .u64))] false x
theorem r70_eq : r70 = m70 := by kernel_rfl

theorem c70 : CS.Sound Try.prog 70 ⟨[(false, (.int .u64)), (false, (.int .u64))], [(false, (.int .u64)), (false, (.int .u64))], false, m70⟩ := afun_sound' (envOf_sound (CSs.cons c88 (CSs.cons c89 (CSs.nil))) (HDs.nil) (IDs.nil)) rfl Try.follows (f := 70) (fn := Try.f70) Try.func70 (by kernel_rfl) (by kernel_rfl) r70_eq
end Go.Proofs.Ytefekolpfklhdaa
end

section
open Go Go.Proofs.AM
namespace Go.Proofs.Ytefekolpfklhdaa

noncomputable def m66 (x : (List Int) × Int × Unit) : Option (List Int) :=
 bif (decide (x.2.1 < (0 : Int))) then
 (none)
 else
 (Option.bind (m70 ((Go.IntKind.wrap .u64 (((List.length x.1) : Nat) : Int)), ((Go.IntKind.wrap .u64 x.2.1), ()))) fun (y1 : (Int × (Int × Unit))) =>
 bif (decide (y1.1 > (0 : Int))) then
 (none)
 else
 (bif (decide (y1.2.1 > (9223372036854775807 : Int))) then
 (none)
 else
 (gd ((0 : Int) ≤ (Go.IntKind.wrap .i64 y1.2.1)) (gd ((Go.IntKind.wrap .i64 y1.2.1) ≤ (Go.IntKind.wrap .i64 y1.2.1)) (gd (((Go.IntKind.wrap .i64 y1.2.1) * (8 : Int)) ≤ (140737488355328 : Int)) (Option.bind (loopM (X := (Int × (List Int))) (E := (List Int)) (fun (x2 : (Int × (List Int))) =>
 bif (decide (x2.1 < (((List.length x2.2) : Nat) : Int))) then
 (gd ((0 : Int) ≤ x2.1) (gd (x2.1 ≤ (((List.length x2.2) : Nat) : Int)) (gd ((((List.length x2.2) : Nat) : Int) ≤ (((List.length x2.2) : Nat) : Int)) (gd ((0 : Int) ≤ x2.1) (gd (x2.1 ≤ (((List.length x2.2) : Nat) : Int)) (some (Sum.inl ((Go.IntKind.wrap .i64 (x2.1 + (((min (List.length (List.take ((Int.toNat x2.1) - (Int.toNat (0 : Int))) (List.drop (Int.toNat (0 : Int)) x2.2))) ((Int.toNat (((List.length x2.2) : Nat) : Int)) - (Int.toNat x2.1))) : Nat) : Int))), (((List.take (Int.toNat x2.1) x2.2) ++ (List.take ((Int.toNat (((List.length x2.2) : Nat) : Int)) - (Int.toNat x2.1)) (List.take ((Int.toNat x2.1) - (Int.toNat (0 : Int))) (List.drop (Int.toNat (0 : Int)) x2.2)))) ++ (List.drop ((Int.toNat x2.1) + (min (List.length (List.take ((Int.toNat x2.1) - (Int.toNat (0 : Int))) (List.drop (Int.toNat (0 : Int)) x2.2))) ((Int.toNat (((List.length x2.2) : Nat) : Int)) - (Int.toNat x2.1)))) x2.2))))))))))
 else
 (some (Sum.inr x2.2))) ((((min (List.length x.1) (List.length (List.replicate (Int.toNat (Go.IntKind.wrap .i64 y1.2.1)) (0 : Int)))) : Nat) : Int), ((List.take (List.length (List.replicate (Int.toNat (Go.IntKind.wrap .i64 y1.2.1)) (0 : Int))) x.1) ++ (List.drop (List.length x.1) (List.replicate (Int.toNat (Go.IntKind.wrap .i64 y1.2.1)) (0 : Int)))))) fun (y2 : (List Int)) =>
 some y2))))))

noncomputable def r66 : PDen [(false, (.sl (.int .i64))), (false, (.int .i64))] → Option (List (K.den (.int .i64))) := fun x => afunO Try.prog (envOf [(70, ⟨[(false, (.int .u64)), (false, (.int .u64))], [(false, (.int .u64)), (false, (.int .u64))], false, m70⟩)] [] [] []) ⟨[(0, ⟨[.slot 8 (.d false (.int .i64) true), .vec 0 3 (.int .i64) true], [], [(some 0, [.vec 0 3 (.int .i64) true])], none⟩)], []⟩ Try.f66 [(false, (.sl (.int .i64))), (false, (.int .i64))] 3 (.int .i64) false x
theorem r66_eq : r66 = m66 := by kernel_rfl

theorem c66 : OS.Sound Try.prog 66 ⟨[(false, (.sl (.int .i64))), (false, (.int .i64))], 3, (.int .i64), false, m66⟩ := afunO_sound' (envOf_sound (CSs.cons c70 (CSs.nil)) (HDs.nil) (IDs.nil)) rfl Try.follows (f := 66) (fn := Try.f66) Try.func66 (by kernel_rfl) (by kernel_rfl) r66_eq
end Go.Proofs.Ytefekolpfklhdaa
end

section
open Go Go.Proofs.AM
namespace Go.Proofs.Ytefekolpfklhdaa

noncomputable def m38 (x : Int × Int × Int × Unit) : Option ((Int × (Int × (Int × ((List Int) × ((List Bool) × ((Int × (Int × Int)) × (List (Int × (List Int))))))))) × (Int × Unit)) :=
 bif (decide (x.1 < (4 : Int))) then
 (some (((0 : Int), ((0 : Int), ((0 : Int), (([] : List Int), (([] : List Bool), (((0 : Int), ((0 : Int), (0 : Int))), ([] : List (Int × (List Int))))))))), ((1 : Int), ())))
 else
 (bif (decide (x.1 > (32 : Int))) then
 (some (((0 : Int), ((0 : Int), ((0 : Int), (([] : List Int), (([] : List Bool), (((0 : Int), ((0 : Int), (0 : Int))), ([] : List (Int × (List Int))))))))), ((1 : Int), ())))
 else
 (bif (decide (x.2.1 < (1 : Int))) then
 (some (((0 : Int), ((0 : Int), ((0 : Int), (([] : List Int), (([] : List Bool), (((0 : Int), ((0 : Int), (0 : Int))), ([] : List (Int × (List Int))))))))), ((1 : Int), ())))
 else
 (bif (decide (x.2.1 > (256 : Int))) then
 (some (((0 : Int), ((0 : Int), ((0 : Int), (([] : List Int), (([] : List Bool), (((0 : Int), ((0 : Int), (0 : Int))), ([] : List (Int × (List Int))))))))), ((1 : Int), ())))
 else
 (bif (decide (x.2.2.1 < (1 : Int))) then
 (some (((0 : Int), ((0 : Int), ((0 : Int), (([] : List Int), (([] : List Bool), (((0 : Int), ((0 : Int), (0 : Int))), ([] : List (Int × (List Int))))))))), ((1 : Int), ())))
 else
 (bif (decide (x.2.2.1 > (8 : Int))) then
 (some (((0 : Int), ((0 : Int), ((0 : Int), (([] : List Int), (([] : List Bool), (((0 : Int), ((0 : Int), (0 : Int))), ([] : List (Int × (List Int))))))))), ((1 : Int), ())))
 else
 (Option.bind (m66 (((-1 : Int) :: ([] : List Int)), (x.2.1, ()))) fun (y1 : (List Int)) =>
 gd ((0 : Int) ≤ (Go.IntKind.wrap .i64 (x.2.1 * x.1))) (gd ((Go.IntKind.wrap .i64 (x.2.1 * x.1)) ≤ (Go.IntKind.wrap .i64 (x.2.1 * x.1))) (gd (((Go.IntKind.wrap .i64 (x.2.1 * x.1)) * (1 : Int)) ≤ (140737488355328 : Int)) (some ((x.1, (x.2.1, (x.2.2.1, (y1, ((List.replicate (Int.toNat (Go.IntKind.wrap .i64 (x.2.1 * x.1))) false), (((-1 : Int), ((0 : Int), (0 : Int))), ([] : List (Int × (List Int))))))))), ((0 : Int), ())))))))))))

noncomputable def r38 : PDen [(false, (.int .i64)), (false, (.int .i64)), (false, (.int .i64))] → Option (PDen [(true, (.pair (.int .i64) (.pair (.int .i64) (.pair (.int .i64) (.pair (.sl (.int .i64)) (.pair (.sl .bool) (.pair (.pair (.int .i64) (.pair (.int .i64) (.int .i64))) (.sl (.pair (.int .i64) (.sl (.int .i64))))))))))), (false, (.int .i64))]) := fun x => afunM Try.prog (envOf [] [(66, OS.hd ⟨[(false, (.sl (.int .i64))), (false, (.int .i64))], 3, (.int .i64), false, m66⟩)] [] []) ⟨[], []⟩ Try.f38 [(false, (.int .i64)), (false, (.int .i64)), (false, (.int .i64))] [(true, (.pair (.int .i64) (.pair (.int .i64) (.pair (.int .i64) (.pair (.sl (.int .i64)) (.pair (.sl .bool) (.pair (.pair (.int .i64) (.pair (.int .i64) (.int .i64))) (.sl (.pair (.int .i64) (.sl (.int .i64))))))))))), (false, (.int .i64))] [(.p .d (.p .d (.p .d (.p (.s 3) (.p (.s 4) .d))))), .d] false x
theorem r38_eq : r38 = m38 := by kernel_rfl

theorem c38 : OM.Sound Try.prog 38 ⟨[(false, (.int .i64)), (false, (.int .i64)), (false, (.int .i64))], [(true, (.pair (.int .i64) (.pair (.int .i64) (.pair (.int .i64) (.pair (.sl (.int .i64)) (.pair (.sl .bool) (.pair (.pair (.int .i64) (.pair (.int .i64) (.int .i64))) (.sl (.pair (.int .i64) (.sl (.int .i64))))))))))), (false, (.int .i64))], [(.p .d (.p .d (.p .d (.p (.s 3) (.p (.s 4) .d))))), .d], false, m38⟩ := afunM_sound' (envOf_sound (CSs.nil) (HDs.cons (OS.Sound.hd c66) (HDs.nil)) (IDs.nil)) rfl Try.follows (f := 38) (fn := Try.f38) Try.func38 (by kernel_rfl) (by kernel_rfl) r38_eq
end Go.Proofs.Ytefekolpfklhdaa
end

section
open Go Go.Proofs.AM
namespace Go.Proofs.Ytefekolpfklhdaa

noncomputable def m41 (x : (List (Int × Int)) × Int × Unit) : Option (List (Int × Int)) :=
 bif (decide (x.2.1 < (0 : Int))) then
 (none)
 else
 (Option.bind (m70 ((Go.IntKind.wrap .u64 (((List.length x.1) : Nat) : Int)), ((Go.IntKind.wrap .u64 x.2.1), ()))) fun (y1 : (Int × (Int × Unit))) =>
 bif (decide (y1.1 > (0 : Int))) then
 (none)
 else
 (bif (decide (y1.2.1 > (9223372036854775807 : Int))) then
 (none)
 else
 (gd ((0 : Int) ≤ (Go.IntKind.wrap .i64 y1.2.1)) (gd ((Go.IntKind.wrap .i64 y1.2.1) ≤ (Go.IntKind.wrap .i64 y1.2.1)) (gd (((Go.IntKind.wrap .i64 y1.2.1) * (16 : Int)) ≤ (140737488355328 : Int)) (Option.bind (loopM (X := (Int × (List (Int × Int)))) (E := (List (Int × Int))) (fun (x2 : (Int × (List (Int × Int)))) =>
 bif (decide (x2.1 < (((List.length x2.2) : Nat) : Int))) then
 (gd ((0 : Int) ≤ x2.1) (gd (x2.1 ≤ (((List.length x2.2) : Nat) : Int)) (gd ((((List.length x2.2) : Nat) : Int) ≤ (((List.length x2.2) : Nat) : Int)) (gd ((0 : Int) ≤ x2.1) (gd (x2.1 ≤ (((List.length x2.2) : Nat) : Int)) (some (Sum.inl ((Go.IntKind.wrap .i64 (x2.1 + (((min (List.length (List.take ((Int.toNat x2.1) - (Int.toNat (0 : Int))) (List.drop (Int.toNat (0 : Int)) x2.2))) ((Int.toNat (((List.length x2.2) : Nat) : Int)) - (Int.toNat x2.1))) : Nat) : Int))), (((List.take (Int.toNat x2.1) x2.2) ++ (List.take ((Int.toNat (((List.length x2.2) : Nat) : Int)) - (Int.toNat x2.1)) (List.take ((Int.toNat x2.1) - (Int.toNat (0 : Int))) (List.drop (Int.toNat (0 : Int)) x2.2)))) ++ (List.drop ((Int.toNat x2.1) + (min (List.length (List.take ((Int.toNat x2.1) - (Int.toNat (0 : Int))) (List.drop (Int.toNat (0 : Int)) x2.2))) ((Int.toNat (((List.length x2.2) : Nat) : Int)) - (Int.toNat x2.1)))) x2.2))))))))))
 else
 (some (Sum.inr x2.2))) ((((min (List.length x.1) (List.length (List.replicate (Int.toNat (Go.IntKind.wrap .i64 y1.2.1)) ((0 : Int), (0 : Int))))) : Nat) : Int), ((List.take (List.length (List.replicate (Int.toNat (Go.IntKind.wrap .i64 y1.2.1)) ((0 : Int), (0 : Int)))) x.1) ++ (List.drop (List.length x.1) (List.replicate (Int.toNat (Go.IntKind.wrap .i64 y1.2.1)) ((0 : Int), (0 : Int))))))) fun (y2 : (List (Int × Int))) =>
 some y2))))))

noncomputable def r41 : PDen [(false, (.sl (.pair (.int .i64) (.int .i64)))), (false, (.int .i64))] → Option (List (K.den (.pair (.int .i64) (.int .i64)))) := fun x => afunO Try.prog (envOf [(70, ⟨[(false, (.int .u64)), (false, (.int .u64))], [(false, (.int .u64)), (false, (.int .u64))], false, m70⟩)] [] [] []) ⟨[(0, ⟨[.slot 8 (.d false (.int .i64) true), .vec 0 34 (.pair (.int .i64) (.int .i64)) true], [], [(some 0, [.vec 0 34 (.pair (.int .i64) (.int .i64)) true])], none⟩)], []⟩ Try.f41 [(false, (.sl (.pair (.int .i64) (.int .i64)))), (false, (.int .i64))] 34 (.pair (.int .i64) (.int .i64)) false x
theorem r41_eq : r41 = m41 := by kernel_rfl

theorem c41 : OS.Sound Try.prog 41 ⟨[(false, (.sl (.pair (.int .i64) (.int .i64)))), (false, (.int .i64))], 34, (.pair (.int .i64) (.int .i64)), false, m41⟩ := afunO_sound' (envOf_sound (CSs.cons c70 (CSs.nil)) (HDs.nil) (IDs.nil)) rfl Try.follows (f := 41) (fn := Try.f41) Try.func41 (by kernel_rfl) (by kernel_rfl) r41_eq
end Go.Proofs.Ytefekolpfklhdaa
end

section
open Go Go.Proofs.AM
namespace Go.Proofs.Ytefekolpfklhdaa

noncomputable def m14 (x : Int × Int × (List ((Int × Int) × (Int × (Int × (Int × Int))))) × Unit) : Option ((List (Int × Int)) × Unit) :=
 Option.bind (m38 (x.1, (x.2.1, ((1 : Int), ())))) fun (y1 : ((Int × (Int × (Int × ((List Int) × ((List Bool) × ((Int × (Int × Int)) × (List (Int × (List Int))))))))) × (Int × Unit))) =>
 bif (!(decide (y1.2.1 = (0 : Int)))) then
 (some (([] : List (Int × Int)), ()))
 else
 (Option.bind (loopM (X := (Int × (List (Int × ((Int × Int) × (Int × (Int × (Int × Int)))))))) (E := (List (Int × ((Int × Int) × (Int × (Int × (Int × Int))))))) (fun (x2 : (Int × (List (Int × ((Int × Int) × (Int × (Int × (Int × Int)))))))) =>
 bif (decide (x2.1 < (((List.length x.2.2.1) : Nat) : Int))) then
 (gd ((0 : Int) ≤ x2.1) (gd (x2.1 < (((List.length x.2.2.1) : Nat) : Int)) (Option.bind (m68 (x.1, ((List.getD x.2.2.1 (Int.toNat x2.1) (((0 : Int), (0 : Int)), ((0 : Int), ((0 : Int), ((0 : Int), (0 : Int)))))), ()))) fun (y3 : (Bool × Unit)) =>
 bif y3.1 then
 (bif (decide ((List.getD x.2.2.1 (Int.toNat x2.1) (((0 : Int), (0 : Int)), ((0 : Int), ((0 : Int), ((0 : Int), (0 : Int)))))).2.2.1 ≥ (Go.IntKind.wrap .i64 (x.2.1 * x.1)))) then
 (some (Sum.inl ((Go.IntKind.wrap .i64 (x2.1 + (1 : Int))), x2.2)))
 else
 (bif (!(mhas (false, (.int .i64)) x2.2 (List.getD x.2.2.1 (Int.toNat x2.1) (((0 : Int), (0 : Int)), ((0 : Int), ((0 : Int), ((0 : Int), (0 : Int)))))).2.2.1)) then
 (some (Sum.inl ((Go.IntKind.wrap .i64 (x2.1 + (1 : Int))), (mset (false, (.int .i64)) x2.2 (List.getD x.2.2.1 (Int.toNat x2.1) (((0 : Int), (0 : Int)), ((0 : Int), ((0 : Int), ((0 : Int), (0 : Int)))))).2.2.1 (List.getD x.2.2.1 (Int.toNat x2.1) (((0 : Int), (0 : Int)), ((0 : Int), ((0 : Int), ((0 : Int), (0 : Int))))))))))
 else
 (Option.bind (m40 ((List.getD x.2.2.1 (Int.toNat x2.1) (((0 : Int), (0 : Int)), ((0 : Int), ((0 : Int), ((0 : Int), (0 : Int)))))), ((mget (false, (.int .i64)) x2.2 (List.getD x.2.2.1 (Int.toNat x2.1) (((0 : Int), (0 : Int)), ((0 : Int), ((0 : Int), ((0 : Int), (0 : Int)))))).2.2.1 (((0 : Int), (0 : Int)), ((0 : Int), ((0 : Int), ((0 : Int), (0 : Int)))))), ()))) fun (y4 : (Bool × Unit)) =>
 bif y4.1 then
 (some (Sum.inl ((Go.IntKind.wrap .i64 (x2.1 + (1 : Int))), (mset (false, (.int .i64)) x2.2 (List.getD x.2.2.1 (Int.toNat x2.1) (((0 : Int), (0 : Int)), ((0 : Int), ((0 : Int), ((0 : Int), (0 : Int)))))).2.2.1 (List.getD x.2.2.1 (Int.toNat x2.1) (((0 : Int), (0 : Int)), ((0 : Int), ((0 : Int), ((0 : Int), (0 : Int))))))))))
 else
 (some (Sum.inl ((Go.IntKind.wrap .i64 (x2.1 + (1 : Int))), x2.2))))))
 else
 (some (Sum.inl ((Go.IntKind.wrap .i64 (x2.1 + (1 : Int))), x2.2))))))
 else
 (some (Sum.inr x2.2))) ((0 : Int), ([] : List (Int × ((Int × Int) × (Int × (Int × (Int × Int)))))))) fun (y2 : (List (Int × ((Int × Int) × (Int × (Int × (Int × Int))))))) =>
 Option.bind (m42 ()) fun (y3 : ((Int × Int) × Unit)) =>
 Option.bind (m41 ((y3.1 :: ([] : List (Int × Int))), ((Go.IntKind.wrap .i64 (x.2.1 * x.1)), ()))) fun (y4 : (List (Int × Int))) =>
 Option.bind (anyM (A := (Int × ((Int × Int) × (Int × (Int × (Int × Int)))))) (X := (List (Int × Int))) (E := (List (Int × Int))) (fun (p5 : (Int × ((Int × Int) × (Int × (Int × (Int × Int)))))) l5 (x5 : (List (Int × Int))) =>
 gd ((0 : Int) ≤ p5.1) (gd (p5.1 < (((List.length x5) : Nat) : Int)) (gd ((Int.toNat p5.1) < (List.length x5)) (some (Sum.inl (List.set x5 (Int.toNat p5.1) p5.2.1)))))) (fun (x5 : (List (Int × Int))) =>
 some (Sum.inr x5)) y2 y4) fun (y5 : (List (Int × Int))) =>
 some (y5, ()))

noncomputable def i14_39 : ID := aInl Try.prog (envOf [] [] [] []) ⟨[], []⟩ Try.f39
noncomputable def i14_67 : ID := aInl Try.prog (envOf [(68, ⟨[(false, (.int .i64)), (true, (.pair (.pair (.int .i64) (.int .i64)) (.pair (.int .i64) (.pair (.int .i64) (.pair (.int .i64) (.int .i64))))))], [(false, .bool)], false, m68⟩)] [] [] []) ⟨[(12000, ⟨[.slot 8 (.d false (.int .i64) true), .map 5 (false, (.int .i64)) (true, (.pair (.pair (.int .i64) (.int .i64)) (.pair (.int .i64) (.pair (.int .i64) (.pair (.int .i64) (.int .i64)))))) true], [], [(some 0, [.map 5 (false, (.int .i64)) (true, (.pair (.pair (.int .i64) (.int .i64)) (.pair (.int .i64) (.pair (.int .i64) (.pair (.int .i64) (.int .i64)))))) true])], none⟩)], []⟩ Try.f67
noncomputable def r14 : PDen [(false, (.int .i64)), (false, (.int .i64)), (false, (.sl (.pair (.pair (.int .i64) (.int .i64)) (.pair (.int .i64) (.pair (.int .i64) (.pair (.int .i64) (.int .i64)))))))] → Option (PDen [(false, (.sl (.pair (.int .i64) (.int .i64))))]) := fun x => afun Try.prog (envOf [(40, ⟨[(true, (.pair (.pair (.int .i64) (.int .i64)) (.pair (.int .i64) (.pair (.int .i64) (.pair (.int .i64) (.int .i64)))))), (true, (.pair (.pair (.int .i64) (.int .i64)) (.pair (.int .i64) (.pair (.int .i64) (.pair (.int .i64) (.int .i64))))))], [(false, .bool)], false, m40⟩), (42, ⟨[], [(true, (.pair (.int .i64) (.int .i64)))], false, m42⟩)] [(41, OS.hd ⟨[(false, (.sl (.pair (.int .i64) (.int .i64)))), (false, (.int .i64))], 34, (.pair (.int .i64) (.int .i64)), false, m41⟩), (38, OM.hd ⟨[(false, (.int .i64)), (false, (.int .i64)), (false, (.int .i64))], [(true, (.pair (.int .i64) (.pair (.int .i64) (.pair (.int .i64) (.pair (.sl (.int .i64)) (.pair (.sl .bool) (.pair (.pair (.int .i64) (.pair (.int .i64) (.int .i64))) (.sl (.pair (.int .i64) (.sl (.int .i64))))))))))), (false, (.int .i64))], [(.p .d (.p .d (.p .d (.p (.s 3) (.p (.s 4) .d))))), .d], false, m38⟩)] [] [(39, i14_39), (67, i14_67)]) ⟨[(2, ⟨[.vec 12 34 (.pair (.int .i64) (.int .i64)) true], [], [(some 2, [.vec 12 34 (.pair (.int .i64) (.int .i64)) true])], some 63⟩)], []⟩ Try.f14 [(false, (.int .i64)), (false, (.int .i64)), (false, (.sl (.pair (.pair (.int .i64) (.int .i64)) (.pair (.int .i64) (.pair (.int .i64) (.pair (.int .i64) (.int .i64)))))))] [(false, (.sl (.pair (.int .i64) (.int .i64))))] false x
theorem r14_eq : r14 = m14 := by kernel_rfl

theorem i14_39_sound : i14_39.Sound Try.prog 39 := aInl_sound' (envOf_sound (CSs.nil) (HDs.nil) (IDs.nil)) Try.follows (f := 39) (fn := Try.f39) Try.func39 (by kernel_rfl) (by kernel_rfl)
theorem i14_67_sound : i14_67.Sound Try.prog 67 := aInl_sound' (envOf_sound (CSs.cons c68 (CSs.nil)) (HDs.nil) (IDs.nil)) Try.follows (f := 67) (fn := Try.f67) Try.func67 (by kernel_rfl) (by kernel_rfl)
theorem c14 : CS.Sound Try.prog 14 ⟨[(false, (.int .i64)), (false, (.int .i64)), (false, (.sl (.pair (.pair (.int .i64) (.int .i64)) (.pair (.int .i64) (.pair (.int .i64) (.pair (.int .i64) (.int .i64)))))))], [(false, (.sl (.pair (.int .i64) (.int .i64))))], false, m14⟩ := afun_sound' (envOf_sound (CSs.cons c40 (CSs.cons c42 (CSs.nil))) (HDs.cons (OS.Sound.hd c41) (HDs.cons (OM.Sound.hd c38) (HDs.nil))) (IDs.cons i14_39_sound (IDs.cons i14_67_sound (IDs.nil)))) rfl Try.follows (f := 14) (fn := Try.f14) Try.func14 (by kernel_rfl) (by kernel_rfl) r14_eq
end Go.Proofs.Ytefekolpfklhdaa
end

section
open Go Go.Proofs.AM
namespace Go.Proofs.Ytefekolpfklhdaa

noncomputable def m16 (x : (List ((Int × Int) × (Int × (Int × (Int × Int))))) × Unit) : Option (Int × Unit) :=
 Option.bind (loopM (X := (Int × Int)) (E := Int) (fun (x1 : (Int × Int)) =>
 bif (decide (x1.2 < (((List.length x.1) : Nat) : Int))) then
 (gd ((0 : Int) ≤ x1.2) (gd (x1.2 < (((List.length x.1) : Nat) : Int)) (Option.bind (m46 ((List.getD x.1 (Int.toNat x1.2) (((0 : Int), (0 : Int)), ((0 : Int), ((0 : Int), ((0 : Int), (0 : Int)))))).2, ())) fun (y2 : (Int × Unit)) =>
 bif (decide (y2.1 = (0 : Int))) then
 (some (Sum.inl ((if (List.getD x.1 (Int.toNat x1.2) (((0 : Int), (0 : Int)), ((0 : Int), ((0 : Int), ((0 : Int), (0 : Int)))))).2.2.2.2 > x1.1 then (List.getD x.1 (Int.toNat x1.2) (((0 : Int), (0 : Int)), ((0 : Int), ((0 : Int), ((0 : Int), (0 : Int)))))).2.2.2.2 else x1.1), (Go.IntKind.wrap .i64 (x1.2 + (1 : Int))))))
 else
 (some (Sum.inl (x1.1, (Go.IntKind.wrap .i64 (x1.2 + (1 : Int)))))))))
 else
 (some (Sum.inr x1.1))) ((0 : Int), (0 : Int))) fun (y1 : Int) =>
 some (y1, ())

noncomputable def r16 : PDen [(false, (.sl (.pair (.pair (.int .i64) (.int .i64)) (.pair (.int .i64) (.pair (.int .i64) (.pair (.int .i64) (.int .i64)))))))] → Option (PDen [(false, (.int .i64))]) := fun x => afun Try.prog (envOf [(46, ⟨[(true, (.pair (.int .i64) (.pair (.int .i64) (.pair (.int .i64) (.int .i64)))))], [(false, (.int .i64))], false, m46⟩)] [] [] []) ⟨[(0, ⟨[.slot 3 (.d false (.int .i64) true), .slot 8 (.d false (.int .i64) true)], [], [(some 0, [.slot 3 (.d false (.int .i64) true)])], none⟩)], []⟩ Try.f16 [(false, (.sl (.pair (.pair (.int .i64) (.int .i64)) (.pair (.int .i64) (.pair (.int .i64) (.pair (.int .i64) (.int .i64)))))))] [(false, (.int .i64))] false x
theorem r16_eq : r16 = m16 := by kernel_rfl

theorem c16 : CS.Sound Try.prog 16 ⟨[(false, (.sl (.pair (.pair (.int .i64) (.int .i64)) (.pair (.int .i64) (.pair (.int .i64) (.pair (.int .i64) (.int .i64)))))))], [(false, (.int .i64))], false, m16⟩ := afun_sound' (envOf_sound (CSs.cons c46 (CSs.nil)) (HDs.nil) (IDs.nil)) rfl Try.follows (f := 16) (fn := Try.f16) Try.func16 (by kernel_rfl) (by kernel_rfl) r16_eq
end Go.Proofs.Ytefekolpfklhdaa
end

section
open Go Go.Proofs.AM
namespace Go.Proofs.Ytefekolpfklhdaa

noncomputable def m11 (x : Unit) : Option (Bool × Unit) :=
 Option.bind (m14 ((4 : Int), ((2 : Int), (((((7 : Int), (1 : Int)), ((1 : Int), ((5 : Int), ((3 : Int), (3 : Int))))) :: ((((9 : Int), (0 : Int)), ((2 : Int), ((5 : Int), ((4 : Int), (4 : Int))))) :: ([] : List ((Int × Int) × (Int × (Int × (Int × Int))))))), ())))) fun (y1 : ((List (Int × Int)) × Unit)) =>
 bif (decide ((((List.length y1.1) : Nat) : Int) = (8 : Int))) then
 (gd ((5 : Int) < (((List.length y1.1) : Nat) : Int)) (bif ((decide ((List.getD y1.1 (Int.toNat (5 : Int)) ((0 : Int), (0 : Int))).1 = (9 : Int))) && (decide ((List.getD y1.1 (Int.toNat (5 : Int)) ((0 : Int), (0 : Int))).2 = (0 : Int)))) then
 (gd ((0 : Int) < (((List.length y1.1) : Nat) : Int)) (bif ((decide ((List.getD y1.1 (Int.toNat (0 : Int)) ((0 : Int), (0 : Int))).1 = (-1 : Int))) && (decide ((List.getD y1.1 (Int.toNat (0 : Int)) ((0 : Int), (0 : Int))).2 = (0 : Int)))) then
 (Option.bind (m16 (((((7 : Int), (1 : Int)), ((1 : Int), ((5 : Int), ((3 : Int), (3 : Int))))) :: ((((9 : Int), (0 : Int)), ((2 : Int), ((5 : Int), ((4 : Int), (4 : Int))))) :: ([] : List ((Int × Int) × (Int × (Int × (Int × Int))))))), ())) fun (y2 : (Int × Unit)) =>
 some ((decide (y2.1 = (4 : Int))), ()))
 else
 (some (false, ()))))
 else
 (some (false, ()))))
 else
 (some (false, ()))

noncomputable def r11 : PDen [] → Option (PDen [(false, .bool)]) := fun x => afun Try.prog (envOf [(14, ⟨[(false, (.int .i64)), (false, (.int .i64)), (false, (.sl (.pair (.pair (.int .i64) (.int .i64)) (.pair (.int .i64) (.pair (.int .i64) (.pair (.int .i64) (.int .i64)))))))], [(false, (.sl (.pair (.int .i64) (.int .i64))))], false, m14⟩), (16, ⟨[(false, (.sl (.pair (.pair (.int .i64) (.int .i64)) (.pair (.int .i64) (.pair (.int .i64) (.pair (.int .i64) (.int .i64)))))))], [(false, (.int .i64))], false, m16⟩)] [] [] []) ⟨[], []⟩ Try.f11 [] [(false, .bool)] false x
theorem r11_eq : r11 = m11 := by kernel_rfl

theorem c11 : CS.Sound Try.prog 11 ⟨[], [(false, .bool)], false, m11⟩ := afun_sound' (envOf_sound (CSs.cons c14 (CSs.cons c16 (CSs.nil))) (HDs.nil) (IDs.nil)) rfl Try.follows (f := 11) (fn := Try.f11) Try.func11 (by kernel_rfl) (by kernel_rfl) r11_eq
end Go.Proofs.Ytefekolpfklhdaa
end

section
open Go Go.Proofs.AM
namespace Go.Proofs.Ytefekolpfklhdaa

noncomputable def m28 (x : (List ((Int × Int) × (Int × (Int × (Int × Int))))) × (List ((Int × Int) × (Int × (Int × (Int × Int))))) × Unit) : Option (Bool × Unit) :=
 bif (!(decide ((((List.length x.1) : Nat) : Int) = (((List.length x.2.1) : Nat) : Int)))) then
 (some (false, ()))
 else
 (Option.bind (loopM (X := Int) (E := (Unit ⊕ Bool)) (fun (x1 : Int) =>
 bif (decide (x1 < (((List.length x.1) : Nat) : Int))) then
 (gd ((0 : Int) ≤ x1) (gd (x1 < (((List.length x.1) : Nat) : Int)) (gd ((0 : Int) ≤ x1) (gd (x1 < (((List.length x.2.1) : Nat) : Int)) (bif (!(((decide ((List.getD x.1 (Int.toNat x1) (((0 : Int), (0 : Int)), ((0 : Int), ((0 : Int), ((0 : Int), (0 : Int)))))).1.1 = (List.getD x.2.1 (Int.toNat x1) (((0 : Int), (0 : Int)), ((0 : Int), ((0 : Int), ((0 : Int), (0 : Int)))))).1.1)) && (decide ((List.getD x.1 (Int.toNat x1) (((0 : Int), (0 : Int)), ((0 : Int), ((0 : Int), ((0 : Int), (0 : Int)))))).1.2 = (List.getD x.2.1 (Int.toNat x1) (((0 : Int), (0 : Int)), ((0 : Int), ((0 : Int), ((0 : Int), (0 : Int)))))).1.2))) && ((decide ((List.getD x.1 (Int.toNat x1) (((0 : Int), (0 : Int)), ((0 : Int), ((0 : Int), ((0 : Int), (0 : Int)))))).2.1 = (List.getD x.2.1 (Int.toNat x1) (((0 : Int), (0 : Int)), ((0 : Int), ((0 : Int), ((0 : Int), (0 : Int)))))).2.1)) && ((decide ((List.getD x.1 (Int.toNat x1) (((0 : Int), (0 : Int)), ((0 : Int), ((0 : Int), ((0 : Int), (0 : Int)))))).2.2.1 = (List.getD x.2.1 (Int.toNat x1) (((0 : Int), (0 : Int)), ((0 : Int), ((0 : Int), ((0 : Int), (0 : Int)))))).2.2.1)) && ((decide ((List.getD x.1 (Int.toNat x1) (((0 : Int), (0 : Int)), ((0 : Int), ((0 : Int), ((0 : Int), (0 : Int)))))).2.2.2.1 = (List.getD x.2.1 (Int.toNat x1) (((0 : Int), (0 : Int)), ((0 : Int), ((0 : Int), ((0 : Int), (0 : Int)))))).2.2.2.1)) && (decide ((List.getD x.1 (Int.toNat x1) (((0 : Int), (0 : Int)), ((0 : Int), ((0 : Int), ((0 : Int), (0 : Int)))))).2.2.2.2 = (List.getD x.2.1 (Int.toNat x1) (((0 : Int), (0 : Int)), ((0 : Int), ((0 : Int), ((0 : Int), (0 : Int)))))).2.2.2.2))))))) then
 (some (Sum.inr (Sum.inr false)))
 else
 (some (Sum.inl (Go.IntKind.wrap .i64 (x1 + (1 : Int))))))))))
 else
 (some (Sum.inr (Sum.inl ())))) (0 : Int)) fun (y1 : (Unit ⊕ Bool)) =>
 Sum.elim (fun y2 =>
 some (true, ())) (fun y2 =>
 some (y2, ())) y1)

noncomputable def r28 : PDen [(false, (.sl (.pair (.pair (.int .i64) (.int .i64)) (.pair (.int .i64) (.pair (.int .i64) (.pair (.int .i64) (.int .i64))))))), (false, (.sl (.pair (.pair (.int .i64) (.int .i64)) (.pair (.int .i64) (.pair (.int .i64) (.pair (.int .i64) (.int .i64)))))))] → Option (PDen [(false, .bool)]) := fun x => afun Try.prog (envOf [] [] [] []) ⟨[(0, ⟨[.slot 13 (.d false (.int .i64) true)], [], [(some 0, []), (none, [.slot 4 (.d false .bool true)])], none⟩)], []⟩ Try.f28 [(false, (.sl (.pair (.pair (.int .i64) (.int .i64)) (.pair (.int .i64) (.pair (.int .i64) (.pair (.int .i64) (.int .i64))))))), (false, (.sl (.pair (.pair (.int .i64) (.int .i64)) (.pair (.int .i64) (.pair (.int .i64) (.pair (.int .i64) (.int .i64)))))))] [(false, .bool)] false x
theorem r28_eq : r28 = m28 := by kernel_rfl

theorem c28 : CS.Sound Try.prog 28 ⟨[(false, (.sl (.pair (.pair (.int .i64) (.int .i64)) (.pair (.int .i64) (.pair (.int .i64) (.pair (.int .i64) (.int .i64))))))), (false, (.sl (.pair (.pair (.int .i64) (.int .i64)) (.pair (.int .i64) (.pair (.int .i64) (.pair (.int .i64) (.int .i64)))))))], [(false, .bool)], false, m28⟩ := afun_sound' (envOf_sound (CSs.nil) (HDs.nil) (IDs.nil)) rfl Try.follows (f := 28) (fn := Try.f28) Try.func28 (by kernel_rfl) (by kernel_rfl) r28_eq
end Go.Proofs.Ytefekolpfklhdaa
end

section
open Go Go.Proofs.AM
namespace Go.Proofs.Ytefekolpfklhdaa

noncomputable def m18 (x : (Int × (Int × (Int × Int))) × Unit) : Option (Int × Unit) :=
 bif (decide (x.1.1 < (1 : Int))) then
 (some ((30 : Int), ()))
 else
 (bif (decide (x.1.1 > (3 : Int))) then
 (some ((30 : Int), ()))
 else
 (bif (decide (x.1.2.1 < (0 : Int))) then
 (some ((30 : Int), ()))
 else
 (bif (decide (x.1.2.1 ≥ (1048576 : Int))) then
 (some ((30 : Int), ()))
 else
 (bif (decide (x.1.2.2.1 < (1 : Int))) then
 (some ((30 : Int), ()))
 else
 (bif (decide (x.1.2.2.2 < x.1.2.2.1)) then
 (some ((30 : Int), ()))
 else
 (bif (decide (x.1.2.2.2 > (1152921504606846976 : Int))) then
 (some ((30 : Int), ()))
 else
 (bif (!(decide (x.1.1 = (1 : Int)))) then
 (bif (!(decide (x.1.2.2.2 = x.1.2.2.1))) then
 (some ((30 : Int), ()))
 else
 (some ((0 : Int), ())))
 else
 (some ((0 : Int), ())))))))))

noncomputable def r18 : PDen [(true, (.pair (.int .i64) (.pair (.int .i64) (.pair (.int .i64) (.int .i64)))))] → Option (PDen [(false, (.int .i64))]) := fun x => afun Try.prog (envOf [] [] [] []) ⟨[], []⟩ Try.f18 [(true, (.pair (.int .i64) (.pair (.int .i64) (.pair (.int .i64) (.int .i64)))))] [(false, (.int .i64))] false x
theorem r18_eq : r18 = m18 := by kernel_rfl

theorem c18 : CS.Sound Try.prog 18 ⟨[(true, (.pair (.int .i64) (.pair (.int .i64) (.pair (.int .i64) (.int .i64)))))], [(false, (.int .i64))], false, m18⟩ := afun_sound' (envOf_sound (CSs.nil) (HDs.nil) (IDs.nil)) rfl Try.follows (f := 18) (fn := Try.f18) Try.func18 (by kernel_rfl) (by kernel_rfl) r18_eq
end Go.Proofs.Ytefekolpfklhdaa
end

section
open Go Go.Proofs.AM
namespace Go.Proofs.Ytefekolpfklhdaa

noncomputable def m104 (x : (List Int) × Unit) : Option (Bool × Unit) :=
 Option.bind (loopM (X := Int) (E := (Unit ⊕ Bool)) (fun (x1 : Int) =>
 bif (decide (x1 < (((List.length x.1) : Nat) : Int))) then
 (gd ((0 : Int) ≤ x1) (gd (x1 < (((List.length x.1) : Nat) : Int)) (bif (!(decide ((List.getD x.1 (Int.toNat x1) (0 : Int)) = (255 : Int)))) then
 (some (Sum.inr (Sum.inr false)))
 else
 (some (Sum.inl (Go.IntKind.wrap .i64 (x1 + (1 : Int))))))))
 else
 (some (Sum.inr (Sum.inl ())))) (0 : Int)) fun (y1 : (Unit ⊕ Bool)) =>
 Sum.elim (fun y2 =>
 some (true, ())) (fun y2 =>
 some (y2, ())) y1

noncomputable def r104 : PDen [(false, (.sl (.int .u8)))] → Option (PDen [(false, .bool)]) := fun x => afun Try.prog (envOf [] [] [] []) ⟨[(0, ⟨[.slot 3 (.d false (.int .i64) true)], [], [(some 0, []), (none, [.slot 2 (.d false .bool true)])], none⟩)], []⟩ Try.f104 [(false, (.sl (.int .u8)))] [(false, .bool)] false x
theorem r104_eq : r104 = m104 := by kernel_rfl

theorem c104 : CS.Sound Try.prog 104 ⟨[(false, (.sl (.int .u8)))], [(false, .bool)], false, m104⟩ := afun_sound' (envOf_sound (CSs.nil) (HDs.nil) (IDs.nil)) rfl Try.follows (f := 104) (fn := Try.f104) Try.func104 (by kernel_rfl) (by kernel_rfl) r104_eq
end Go.Proofs.Ytefekolpfklhdaa
end

section
open Go Go.Proofs.AM
namespace Go.Proofs.Ytefekolpfklhdaa

noncomputable def m105 (x : (List Int) × Unit) : Option (Int × Unit) :=
 Option.bind (loopM (X := (Int × Int)) (E := Int) (fun (x1 : (Int × Int)) =>
 bif (decide (x1.2 < (((List.length x.1) : Nat) : Int))) then
 (Option.bind (loopM (X := (Int × Int)) (E := Int) (fun (x2 : (Int × Int)) =>
 bif (decide (x2.2 < (8 : Int))) then
 (gd ((0 : Int) ≤ x1.2) (gd (x1.2 < (((List.length x.1) : Nat) : Int)) (gd ((0 : Int) ≤ (Go.IntKind.wrap .u64 x2.2)) (bif (decide ((iand .u8 (ishr .u8 (List.getD x.1 (Int.toNat x1.2) (0 : Int)) (Go.IntKind.wrap .u64 x2.2)) (1 : Int)) = (0 : Int))) then
 (some (Sum.inl ((Go.IntKind.wrap .i64 (x2.1 + (1 : Int))), (Go.IntKind.wrap .i64 (x2.2 + (1 : Int))))))
 else
 (some (Sum.inl (x2.1, (Go.IntKind.wrap .i64 (x2.2 + (1 : Int))))))))))
 else
 (some (Sum.inr x2.1))) (x1.1, (0 : Int))) fun (y2 : Int) =>
 some (Sum.inl (y2, (Go.IntKind.wrap .i64 (x1.2 + (1 : Int))))))
 else
 (some (Sum.inr x1.1))) ((0 : Int), (0 : Int))) fun (y1 : Int) =>
 some (y1, ())

noncomputable def r105 : PDen [(false, (.sl (.int .u8)))] → Option (PDen [(false, (.int .i64))]) := fun x => afun Try.prog (envOf [] [] [] []) ⟨[(0, ⟨[.slot 3 (.d false (.int .i64) true), .slot 4 (.d false (.int .i64) true)], [], [(some 0, [.slot 3 (.d false (.int .i64) true)])], none⟩), (2, ⟨[.slot 3 (.d false (.int .i64) true), .slot 5 (.d false (.int .i64) true)], [], [(some 2, [.slot 3 (.d false (.int .i64) true)])], none⟩)], []⟩ Try.f105 [(false, (.sl (.int .u8)))] [(false, (.int .i64))] false x
theorem r105_eq : r105 = m105 := by kernel_rfl

theorem c105 : CS.Sound Try.prog 105 ⟨[(false, (.sl (.int .u8)))], [(false, (.int .i64))], false, m105⟩ := afun_sound' (envOf_sound (CSs.nil) (HDs.nil) (IDs.nil)) rfl Try.follows (f := 105) (fn := Try.f105) Try.func105 (by kernel_rfl) (by kernel_rfl) r105_eq
end Go.Proofs.Ytefekolpfklhdaa
end

section
open Go Go.Proofs.AM
namespace Go.Proofs.Ytefekolpfklhdaa

noncomputable def m97 (x : (List Int) × Unit) : Option (Int × Unit) :=
 bif (decide ((((List.length x.1) : Nat) : Int) > (0 : Int))) then
 (Option.bind (m104 (x.1, ())) fun (y1 : (Bool × Unit)) =>
 bif y1.1 then
 (some ((10 : Int), ()))
 else
 (bif (decide ((((List.length x.1) : Nat) : Int) < (4 : Int))) then
 (some ((11 : Int), ()))
 else
 (bif (decide ((((List.length x.1) : Nat) : Int) > (1048580 : Int))) then
 (some ((11 : Int), ()))
 else
 (gd ((0 : Int) ≤ (Go.IntKind.wrap .i64 ((((List.length x.1) : Nat) : Int) - (4 : Int)))) (gd ((Go.IntKind.wrap .i64 ((((List.length x.1) : Nat) : Int) - (4 : Int))) < (((List.length x.1) : Nat) : Int)) (gd ((0 : Int) ≤ (Go.IntKind.wrap .i64 ((Go.IntKind.wrap .i64 ((((List.length x.1) : Nat) : Int) - (4 : Int))) + (1 : Int)))) (gd ((Go.IntKind.wrap .i64 ((Go.IntKind.wrap .i64 ((((List.length x.1) : Nat) : Int) - (4 : Int))) + (1 : Int))) < (((List.length x.1) : Nat) : Int)) (gd ((0 : Int) ≤ (Go.IntKind.wrap .i64 ((Go.IntKind.wrap .i64 ((((List.length x.1) : Nat) : Int) - (4 : Int))) + (2 : Int)))) (gd ((Go.IntKind.wrap .i64 ((Go.IntKind.wrap .i64 ((((List.length x.1) : Nat) : Int) - (4 : Int))) + (2 : Int))) < (((List.length x.1) : Nat) : Int)) (gd ((0 : Int) ≤ (Go.IntKind.wrap .i64 ((Go.IntKind.wrap .i64 ((((List.length x.1) : Nat) : Int) - (4 : Int))) + (3 : Int)))) (gd ((Go.IntKind.wrap .i64 ((Go.IntKind.wrap .i64 ((((List.length x.1) : Nat) : Int) - (4 : Int))) + (3 : Int))) < (((List.length x.1) : Nat) : Int)) (gd ((0 : Int) ≤ (Go.IntKind.wrap .i64 ((((List.length x.1) : Nat) : Int) - (4 : Int)))) (gd ((Go.IntKind.wrap .i64 ((((List.length x.1) : Nat) : Int) - (4 : Int))) ≤ (((List.length x.1) : Nat) : Int)) (Option.bind (m105 ((List.take ((Int.toNat (Go.IntKind.wrap .i64 ((((List.length x.1) : Nat) : Int) - (4 : Int)))) - (Int.toNat (0 : Int))) (List.drop (Int.toNat (0 : Int)) x.1)), ())) fun (y2 : (Int × Unit)) =>
 bif (!(decide ((ior .i64 (ior .i64 (ior .i64 (ishl .i64 (Go.IntKind.wrap .i64 (List.getD x.1 (Int.toNat (Go.IntKind.wrap .i64 ((((List.length x.1) : Nat) : Int) - (4 : Int)))) (0 : Int))) (24 : Int)) (ishl .i64 (Go.IntKind.wrap .i64 (List.getD x.1 (Int.toNat (Go.IntKind.wrap .i64 ((Go.IntKind.wrap .i64 ((((List.length x.1) : Nat) : Int) - (4 : Int))) + (1 : Int)))) (0 : Int))) (16 : Int))) (ishl .i64 (Go.IntKind.wrap .i64 (List.getD x.1 (Int.toNat (Go.IntKind.wrap .i64 ((Go.IntKind.wrap .i64 ((((List.length x.1) : Nat) : Int) - (4 : Int))) + (2 : Int)))) (0 : Int))) (8 : Int))) (Go.IntKind.wrap .i64 (List.getD x.1 (Int.toNat (Go.IntKind.wrap .i64 ((Go.IntKind.wrap .i64 ((((List.length x.1) : Nat) : Int) - (4 : Int))) + (3 : Int)))) (0 : Int)))) = y2.1))) then
 (some ((11 : Int), ()))
 else
 (some ((0 : Int), ()))))))))))))))))
 else
 (bif (decide ((((List.length x.1) : Nat) : Int) < (4 : Int))) then
 (some ((11 : Int), ()))
 else
 (bif (decide ((((List.length x.1) : Nat) : Int) > (1048580 : Int))) then
 (some ((11 : Int), ()))
 else
 (gd ((0 : Int) ≤ (Go.IntKind.wrap .i64 ((((List.length x.1) : Nat) : Int) - (4 : Int)))) (gd ((Go.IntKind.wrap .i64 ((((List.length x.1) : Nat) : Int) - (4 : Int))) < (((List.length x.1) : Nat) : Int)) (gd ((0 : Int) ≤ (Go.IntKind.wrap .i64 ((Go.IntKind.wrap .i64 ((((List.length x.1) : Nat) : Int) - (4 : Int))) + (1 : Int)))) (gd ((Go.IntKind.wrap .i64 ((Go.IntKind.wrap .i64 ((((List.length x.1) : Nat) : Int) - (4 : Int))) + (1 : Int))) < (((List.length x.1) : Nat) : Int)) (gd ((0 : Int) ≤ (Go.IntKind.wrap .i64 ((Go.IntKind.wrap .i64 ((((List.length x.1) : Nat) : Int) - (4 : Int))) + (2 : Int)))) (gd ((Go.IntKind.wrap .i64 ((Go.IntKind.wrap .i64 ((((List.length x.1) : Nat) : Int) - (4 : Int))) + (2 : Int))) < (((List.length x.1) : Nat) : Int)) (gd ((0 : Int) ≤ (Go.IntKind.wrap .i64 ((Go.IntKind.wrap .i64 ((((List.length x.1) : Nat) : Int) - (4 : Int))) + (3 : Int)))) (gd ((Go.IntKind.wrap .i64 ((Go.IntKind.wrap .i64 ((((List.length x.1) : Nat) : Int) - (4 : Int))) + (3 : Int))) < (((List.length x.1) : Nat) : Int)) (gd ((0 : Int) ≤ (Go.IntKind.wrap .i64 ((((List.length x.1) : Nat) : Int) - (4 : Int)))) (gd ((Go.IntKind.wrap .i64 ((((List.length x.1) : Nat) : Int) - (4 : Int))) ≤ (((List.length x.1) : Nat) : Int)) (Option.bind (m105 ((List.take ((Int.toNat (Go.IntKind.wrap .i64 ((((List.length x.1) : Nat) : Int) - (4 : Int)))) - (Int.toNat (0 : Int))) (List.drop (Int.toNat (0 : Int)) x.1)), ())) fun (y1 : (Int × Unit)) =>
 bif (!(decide ((ior .i64 (ior .i64 (ior .i64 (ishl .i64 (Go.IntKind.wrap .i64 (List.getD x.1 (Int.toNat (Go.IntKind.wrap .i64 ((((List.length x.1) : Nat) : Int) - (4 : Int)))) (0 : Int))) (24 : Int)) (ishl .i64 (Go.IntKind.wrap .i64 (List.getD x.1 (Int.toNat (Go.IntKind.wrap .i64 ((Go.IntKind.wrap .i64 ((((List.length x.1) : Nat) : Int) - (4 : Int))) + (1 : Int)))) (0 : Int))) (16 : Int))) (ishl .i64 (Go.IntKind.wrap .i64 (List.getD x.1 (Int.toNat (Go.IntKind.wrap .i64 ((Go.IntKind.wrap .i64 ((((List.length x.1) : Nat) : Int) - (4 : Int))) + (2 : Int)))) (0 : Int))) (8 : Int))) (Go.IntKind.wrap .i64 (List.getD x.1 (Int.toNat (Go.IntKind.wrap .i64 ((Go.IntKind.wrap .i64 ((((List.length x.1) : Nat) : Int) - (4 : Int))) + (3 : Int)))) (0 : Int)))) = y1.1))) then
 (some ((11 : Int), ()))
 else
 (some ((0 : Int), ())))))))))))))))

noncomputable def r97 : PDen [(false, (.sl (.int .u8)))] → Option (PDen [(false, (.int .i64))]) := fun x => afun Try.prog (envOf [(104, ⟨[(false, (.sl (.int .u8)))], [(false, .bool)], false, m104⟩), (105, ⟨[(false, (.sl (.int .u8)))], [(false, (.int .i64))], false, m105⟩)] [] [] []) ⟨[], []⟩ Try.f97 [(false, (.sl (.int .u8)))] [(false, (.int .i64))] false x
theorem r97_eq : r97 = m97 := by kernel_rfl

theorem c97 : CS.Sound Try.prog 97 ⟨[(false, (.sl (.int .u8)))], [(false, (.int .i64))], false, m97⟩ := afun_sound' (envOf_sound (CSs.cons c104 (CSs.cons c105 (CSs.nil))) (HDs.nil) (IDs.nil)) rfl Try.follows (f := 97) (fn := Try.f97) Try.func97 (by kernel_rfl) (by kernel_rfl) r97_eq
end Go.Proofs.Ytefekolpfklhdaa
end

section
open Go Go.Proofs.AM
namespace Go.Proofs.Ytefekolpfklhdaa

noncomputable def m80 (x : (List Int) × Unit) : Option ((List Int) × (Int × Unit)) :=
 Option.bind (m97 (x.1, ())) fun (y1 : (Int × Unit)) =>
 bif (!(decide (y1.1 = (0 : Int)))) then
 (some (([] : List Int), (y1.1, ())))
 else
 (gd ((0 : Int) ≤ (Go.IntKind.wrap .i64 ((((List.length x.1) : Nat) : Int) - (4 : Int)))) (gd ((Go.IntKind.wrap .i64 ((((List.length x.1) : Nat) : Int) - (4 : Int))) ≤ (((List.length x.1) : Nat) : Int)) (gd ((((List.length ([] : List Int)) + (List.length (List.take ((Int.toNat (Go.IntKind.wrap .i64 ((((List.length x.1) : Nat) : Int) - (4 : Int)))) - (Int.toNat (0 : Int))) (List.drop (Int.toNat (0 : Int)) x.1)))) * 1) ≤ 140737488355328) (gd (((List.length ([] : List Int)) + (List.length (List.take ((Int.toNat (Go.IntKind.wrap .i64 ((((List.length x.1) : Nat) : Int) - (4 : Int)))) - (Int.toNat (0 : Int))) (List.drop (Int.toNat (0 : Int)) x.1)))) ≤ 140737488355328) (some ((([] : List Int) ++ (List.take ((Int.toNat (Go.IntKind.wrap .i64 ((((List.length x.1) : Nat) : Int) - (4 : Int)))) - (Int.toNat (0 : Int))) (List.drop (Int.toNat (0 : Int)) x.1))), ((0 : Int), ())))))))

noncomputable def r80 : PDen [(false, (.sl (.int .u8)))] → Option (PDen [(false, (.sl (.int .u8))), (false, (.int .i64))]) := fun x => afun Try.prog (envOf [(97, ⟨[(false, (.sl (.int .u8)))], [(false, (.int .i64))], false, m97⟩)] [] [] []) ⟨[], []⟩ Try.f80 [(false, (.sl (.int .u8)))] [(false, (.sl (.int .u8))), (false, (.int .i64))] false x
theorem r80_eq : r80 = m80 := by kernel_rfl

theorem c80 : CS.Sound Try.prog 80 ⟨[(false, (.sl (.int .u8)))], [(false, (.sl (.int .u8))), (false, (.int .i64))], false, m80⟩ := afun_sound' (envOf_sound (CSs.cons c97 (CSs.nil)) (HDs.nil) (IDs.nil)) rfl Try.follows (f := 80) (fn := Try.f80) Try.func80 (by kernel_rfl) (by kernel_rfl) r80_eq
end Go.Proofs.Ytefekolpfklhdaa
end

section
open Go Go.Proofs.AM
namespace Go.Proofs.Ytefekolpfklhdaa

noncomputable def m81 (x : ((List Int) × (List Int)) × Unit) : Option ((List Int) × Unit) :=
 gd ((((List.length ([] : List Int)) + (List.length (List.take ((Int.toNat (256 : Int)) - (Int.toNat (0 : Int))) (List.drop (Int.toNat (0 : Int)) x.1.1)))) * 1) ≤ 140737488355328) (gd (((List.length ([] : List Int)) + (List.length (List.take ((Int.toNat (256 : Int)) - (Int.toNat (0 : Int))) (List.drop (Int.toNat (0 : Int)) x.1.1)))) ≤ 140737488355328) (gd ((((List.length (([] : List Int) ++ (List.take ((Int.toNat (256 : Int)) - (Int.toNat (0 : Int))) (List.drop (Int.toNat (0 : Int)) x.1.1)))) + (List.length (List.take ((Int.toNat (32 : Int)) - (Int.toNat (0 : Int))) (List.drop (Int.toNat (0 : Int)) x.1.2)))) * 1) ≤ 140737488355328) (gd (((List.length (([] : List Int) ++ (List.take ((Int.toNat (256 : Int)) - (Int.toNat (0 : Int))) (List.drop (Int.toNat (0 : Int)) x.1.1)))) + (List.length (List.take ((Int.toNat (32 : Int)) - (Int.toNat (0 : Int))) (List.drop (Int.toNat (0 : Int)) x.1.2)))) ≤ 140737488355328) (some (((([] : List Int) ++ (List.take ((Int.toNat (256 : Int)) - (Int.toNat (0 : Int))) (List.drop (Int.toNat (0 : Int)) x.1.1))) ++ (List.take ((Int.toNat (32 : Int)) - (Int.toNat (0 : Int))) (List.drop (Int.toNat (0 : Int)) x.1.2))), ())))))

noncomputable def r81 : PDen [(true, (.pair (.ar 256 (.int .u8)) (.ar 32 (.int .u8))))] → Option (PDen [(false, (.sl (.int .u8)))]) := fun x => afun Try.prog (envOf [] [] [] []) ⟨[], []⟩ Try.f81 [(true, (.pair (.ar 256 (.int .u8)) (.ar 32 (.int .u8))))] [(false, (.sl (.int .u8)))] false x
theorem r81_eq : r81 = m81 := by kernel_rfl

theorem c81 : CS.Sound Try.prog 81 ⟨[(true, (.pair (.ar 256 (.int .u8)) (.ar 32 (.int .u8))))], [(false, (.sl (.int .u8)))], false, m81⟩ := afun_sound' (envOf_sound (CSs.nil) (HDs.nil) (IDs.nil)) rfl Try.follows (f := 81) (fn := Try.f81) Try.func81 (by kernel_rfl) (by kernel_rfl) r81_eq
end Go.Proofs.Ytefekolpfklhdaa
end

section
open Go Go.Proofs.AM
namespace Go.Proofs.Ytefekolpfklhdaa

noncomputable def m98 (x : (List Int) × Unit) : Option (Int × (Int × Unit)) :=
 bif (decide ((((List.length x.1) : Nat) : Int) > (64 : Int))) then
 (some ((0 : Int), ((1 : Int), ())))
 else
 (Option.bind (loopM (X := (Int × Int)) (E := (Int ⊕ (Int × Int))) (fun (x1 : (Int × Int)) =>
 bif (decide (x1.2 < (((List.length x.1) : Nat) : Int))) then
 (gd ((0 : Int) ≤ x1.2) (gd (x1.2 < (((List.length x.1) : Nat) : Int)) (bif (decide ((List.getD x.1 (Int.toNat x1.2) (0 : Int)) < (1 : Int))) then
 (some (Sum.inr (Sum.inr ((0 : Int), (1 : Int)))))
 else
 (gd ((0 : Int) ≤ x1.2) (gd (x1.2 < (((List.length x.1) : Nat) : Int)) (bif (decide ((List.getD x.1 (Int.toNat x1.2) (0 : Int)) > (64 : Int))) then
 (some (Sum.inr (Sum.inr ((0 : Int), (1 : Int)))))
 else
 (gd ((0 : Int) ≤ x1.2) (gd (x1.2 < (((List.length x.1) : Nat) : Int)) (some (Sum.inl ((Go.IntKind.wrap .i64 (x1.1 + (List.getD x.1 (Int.toNat x1.2) (0 : Int)))), (Go.IntKind.wrap .i64 (x1.2 + (1 : Int))))))))))))))
 else
 (some (Sum.inr (Sum.inl x1.1)))) ((0 : Int), (0 : Int))) fun (y1 : (Int ⊕ (Int × Int))) =>
 Sum.elim (fun y2 =>
 some ((Go.IntKind.wrap .i64 (Int.tdiv (Go.IntKind.wrap .i64 (y2 + (7 : Int))) (8 : Int))), ((0 : Int), ()))) (fun y2 =>
 some (y2.1, (y2.2, ()))) y1)

noncomputable def r98 : PDen [(false, (.sl (.int .i64)))] → Option (PDen [(false, (.int .i64)), (false, (.int .i64))]) := fun x => afun Try.prog (envOf [] [] [] []) ⟨[(0, ⟨[.slot 4 (.d false (.int .i64) true), .slot 5 (.d false (.int .i64) true)], [], [(some 0, [.slot 4 (.d false (.int .i64) true)]), (none, [.slot 2 (.d false (.int .i64) true), .slot 3 (.d false (.int .i64) true)])], none⟩)], []⟩ Try.f98 [(false, (.sl (.int .i64)))] [(false, (.int .i64)), (false, (.int .i64))] false x
theorem r98_eq : r98 = m98 := by kernel_rfl

theorem c98 : CS.Sound Try.prog 98 ⟨[(false, (.sl (.int .i64)))], [(false, (.int .i64)), (false, (.int .i64))], false, m98⟩ := afun_sound' (envOf_sound (CSs.nil) (HDs.nil) (IDs.nil)) rfl Try.follows (f := 98) (fn := Try.f98) Try.func98 (by kernel_rfl) (by kernel_rfl) r98_eq
end Go.Proofs.Ytefekolpfklhdaa
end

section
open Go Go.Proofs.AM
namespace Go.Proofs.Ytefekolpfklhdaa

noncomputable def m82 (x : (List Int) × (List Int) × Unit) : Option ((List Int) × (Int × Unit)) :=
 Option.bind (m98 (x.1, ())) fun (y1 : (Int × (Int × Unit))) =>
 bif (!(decide (y1.2.1 = (0 : Int)))) then
 (some (([] : List Int), (y1.2.1, ())))
 else
 (bif (!(decide ((((List.length x.2.1) : Nat) : Int) = y1.1))) then
 (some (([] : List Int), ((3 : Int), ())))
 else
 (Option.bind (loopM (X := ((List Int) × (Int × Int))) (E := ((List Int) × Int)) (fun (x2 : ((List Int) × (Int × Int))) =>
 bif (decide (x2.2.2 < (((List.length x.1) : Nat) : Int))) then
 (Option.bind (loopM (X := (Int × (Int × Int))) (E := (Int × Int)) (fun (x3 : (Int × (Int × Int))) =>
 gd ((0 : Int) ≤ x2.2.2) (gd (x2.2.2 < (((List.length x.1) : Nat) : Int)) (bif (decide (x3.2.2 < (List.getD x.1 (Int.toNat x2.2.2) (0 : Int)))) then
 (gd ((0 : Int) ≤ (Go.IntKind.wrap .i64 (Int.tdiv x3.1 (8 : Int)))) (gd ((Go.IntKind.wrap .i64 (Int.tdiv x3.1 (8 : Int))) < (((List.length x.2.1) : Nat) : Int)) (gd ((0 : Int) ≤ (Go.IntKind.wrap .u64 (Go.IntKind.wrap .i64 ((7 : Int) - (Int.tmod x3.1 (8 : Int)))))) (some (Sum.inl ((Go.IntKind.wrap .i64 (x3.1 + (1 : Int))), ((ior .u64 (ishl .u64 x3.2.1 (1 : Int)) (Go.IntKind.wrap .u64 (iand .u8 (ishr .u8 (List.getD x.2.1 (Int.toNat (Go.IntKind.wrap .i64 (Int.tdiv x3.1 (8 : Int)))) (0 : Int)) (Go.IntKind.wrap .u64 (Go.IntKind.wrap .i64 ((7 : Int) - (Int.tmod x3.1 (8 : Int)))))) (1 : Int)))), (Go.IntKind.wrap .i64 (x3.2.2 + (1 : Int))))))))))
 else
 (some (Sum.inr (x3.1, x3.2.1)))))) (x2.2.1, ((0 : Int), (0 : Int)))) fun (y3 : (Int × Int)) =>
 gd ((((List.length x2.1) + (List.length (y3.2 :: ([] : List Int)))) * 8) ≤ 140737488355328) (gd (((List.length x2.1) + (List.length (y3.2 :: ([] : List Int)))) ≤ 140737488355328) (some (Sum.inl ((x2.1 ++ (y3.2 :: ([] : List Int))), (y3.1, (Go.IntKind.wrap .i64 (x2.2.2 + (1 : Int)))))))))
 else
 (some (Sum.inr (x2.1, x2.2.1)))) (([] : List Int), ((0 : Int), (0 : Int)))) fun (y2 : ((List Int) × Int)) =>
 Option.bind (loopM (X := Int) (E := (Unit ⊕ ((List Int) × Int))) (fun (x3 : Int) =>
 bif (decide (x3 < (Go.IntKind.wrap .i64 ((8 : Int) * y1.1)))) then
 (gd ((0 : Int) ≤ (Go.IntKind.wrap .i64 (Int.tdiv x3 (8 : Int)))) (gd ((Go.IntKind.wrap .i64 (Int.tdiv x3 (8 : Int))) < (((List.length x.2.1) : Nat) : Int)) (gd ((0 : Int) ≤ (Go.IntKind.wrap .u64 (Go.IntKind.wrap .i64 ((7 : Int) - (Int.tmod x3 (8 : Int)))))) (bif (!(decide ((iand .u8 (ishr .u8 (List.getD x.2.1 (Int.toNat (Go.IntKind.wrap .i64 (Int.tdiv x3 (8 : Int)))) (0 : Int)) (Go.IntKind.wrap .u64 (Go.IntKind.wrap .i64 ((7 : Int) - (Int.tmod x3 (8 : Int)))))) (1 : Int)) = (0 : Int)))) then
 (some (Sum.inr (Sum.inr (([] : List Int), (1 : Int)))))
 else
 (some (Sum.inl (Go.IntKind.wrap .i64 (x3 + (1 : Int)))))))))
 else
 (some (Sum.inr (Sum.inl ())))) y2.2) fun (y3 : (Unit ⊕ ((List Int) × Int))) =>
 Sum.elim (fun y4 =>
 some (y2.1, ((0 : Int), ()))) (fun y4 =>
 some (y4.1, (y4.2, ()))) y3))

noncomputable def r82 : PDen [(false, (.sl (.int .i64))), (false, (.sl (.int .u8)))] → Option (PDen [(false, (.sl (.int .u64))), (false, (.int .i64))]) := fun x => afun Try.prog (envOf [(98, ⟨[(false, (.sl (.int .i64)))], [(false, (.int .i64)), (false, (.int .i64))], false, m98⟩)] [] [] []) ⟨[(0, ⟨[.slot 8 (.v 125 (.int .u64) true), .slot 9 (.d false (.int .i64) true), .slot 10 (.d false (.int .i64) true)], [], [(some 0, [.slot 8 (.v 125 (.int .u64) true), .slot 9 (.d false (.int .i64) true)])], none⟩), (2, ⟨[.slot 9 (.d false (.int .i64) true), .slot 11 (.d false (.int .u64) true), .slot 12 (.d false (.int .i64) true)], [], [(some 2, [.slot 9 (.d false (.int .i64) true), .slot 11 (.d false (.int .u64) true)])], none⟩), (4, ⟨[.slot 9 (.d false (.int .i64) true)], [], [(some 4, []), (none, [.slot 4 (.d false (.sl (.int .u64)) true), .slot 5 (.d false (.int .i64) true)])], none⟩)], []⟩ Try.f82 [(false, (.sl (.int .i64))), (false, (.sl (.int .u8)))] [(false, (.sl (.int .u64))), (false, (.int .i64))] false x
theorem r82_eq : r82 = m82 := by kernel_rfl

theorem c82 : CS.Sound Try.prog 82 ⟨[(false, (.sl (.int .i64))), (false, (.sl (.int .u8)))], [(false, (.sl (.int .u64))), (false, (.int .i64))], false, m82⟩ := afun_sound' (envOf_sound (CSs.cons c98 (CSs.nil)) (HDs.nil) (IDs.nil)) rfl Try.follows (f := 82) (fn := Try.f82) Try.func82 (by kernel_rfl) (by kernel_rfl) r82_eq
end Go.Proofs.Ytefekolpfklhdaa
end

section
open Go Go.Proofs.AM
namespace Go.Proofs.Ytefekolpfklhdaa

noncomputable def m99 (x : (List Int) × (List Int) × Unit) : Option ((List Int) × (Int × Unit)) :=
 Option.bind (m98 (x.1, ())) fun (y1 : (Int × (Int × Unit))) =>
 bif (!(decide (y1.2.1 = (0 : Int)))) then
 (some (([] : List Int), (y1.2.1, ())))
 else
 (bif (!(decide ((((List.length x.2.1) : Nat) : Int) = (((List.length x.1) : Nat) : Int)))) then
 (some (([] : List Int), ((1 : Int), ())))
 else
 (gd ((0 : Int) ≤ y1.1) (gd (y1.1 ≤ y1.1) (gd ((y1.1 * (1 : Int)) ≤ (140737488355328 : Int)) (Option.bind (loopM (X := (Int × (Int × (List Int)))) (E := ((List Int) ⊕ ((List Int) × (Int × (List Int))))) (fun (x2 : (Int × (Int × (List Int)))) =>
 bif (decide (x2.2.1 < (((List.length x.2.1) : Nat) : Int))) then
 (gd ((0 : Int) ≤ x2.2.1) (gd (x2.2.1 < (((List.length x.1) : Nat) : Int)) (bif (decide ((List.getD x.1 (Int.toNat x2.2.1) (0 : Int)) < (64 : Int))) then
 (gd ((0 : Int) ≤ x2.2.1) (gd (x2.2.1 < (((List.length x.2.1) : Nat) : Int)) (gd ((0 : Int) ≤ x2.2.1) (gd (x2.2.1 < (((List.length x.1) : Nat) : Int)) (gd ((0 : Int) ≤ (Go.IntKind.wrap .u64 (List.getD x.1 (Int.toNat x2.2.1) (0 : Int)))) (bif (!(decide ((ishr .u64 (List.getD x.2.1 (Int.toNat x2.2.1) (0 : Int)) (Go.IntKind.wrap .u64 (List.getD x.1 (Int.toNat x2.2.1) (0 : Int)))) = (0 : Int)))) then
 (some (Sum.inr (Sum.inr (([] : List Int), ((1 : Int), x2.2.2)))))
 else
 (gd ((0 : Int) ≤ x2.2.1) (gd (x2.2.1 < (((List.length x.1) : Nat) : Int)) (Option.bind (loopM (X := (Int × (Int × (List Int)))) (E := (Int × (List Int))) (fun (x3 : (Int × (Int × (List Int)))) =>
 bif (decide (x3.2.1 ≥ (0 : Int))) then
 (gd ((0 : Int) ≤ (Go.IntKind.wrap .i64 (Int.tdiv x3.1 (8 : Int)))) (gd ((Go.IntKind.wrap .i64 (Int.tdiv x3.1 (8 : Int))) < (((List.length x3.2.2) : Nat) : Int)) (gd ((Int.toNat (Go.IntKind.wrap .i64 (Int.tdiv x3.1 (8 : Int)))) < (List.length x3.2.2)) (gd ((0 : Int) ≤ x2.2.1) (gd (x2.2.1 < (((List.length x.2.1) : Nat) : Int)) (gd ((0 : Int) ≤ (Go.IntKind.wrap .u64 x3.2.1)) (gd ((0 : Int) ≤ (Go.IntKind.wrap .u64 (Go.IntKind.wrap .i64 ((7 : Int) - (Int.tmod x3.1 (8 : Int)))))) (gd ((0 : Int) ≤ (Go.IntKind.wrap .i64 (Int.tdiv x3.1 (8 : Int)))) (gd ((Go.IntKind.wrap .i64 (Int.tdiv x3.1 (8 : Int))) < (((List.length x3.2.2) : Nat) : Int)) (gd ((Int.toNat (Go.IntKind.wrap .i64 (Int.tdiv x3.1 (8 : Int)))) < (List.length x3.2.2)) (some (Sum.inl ((Go.IntKind.wrap .i64 (x3.1 + (1 : Int))), ((Go.IntKind.wrap .i64 (x3.2.1 - (1 : Int))), (List.set x3.2.2 (Int.toNat (Go.IntKind.wrap .i64 (Int.tdiv x3.1 (8 : Int)))) (ior .u8 (List.getD x3.2.2 (Int.toNat (Go.IntKind.wrap .i64 (Int.tdiv x3.1 (8 : Int)))) (0 : Int)) (ishl .u8 (Go.IntKind.wrap .u8 (iand .u64 (ishr .u64 (List.getD x.2.1 (Int.toNat x2.2.1) (0 : Int)) (Go.IntKind.wrap .u64 x3.2.1)) (1 : Int))) (Go.IntKind.wrap .u64 (Go.IntKind.wrap .i64 ((7 : Int) - (Int.tmod x3.1 (8 : Int))))))))))))))))))))))
 else
 (some (Sum.inr (x3.1, x3.2.2)))) (x2.1, ((Go.IntKind.wrap .i64 ((List.getD x.1 (Int.toNat x2.2.1) (0 : Int)) - (1 : Int))), x2.2.2))) fun (y3 : (Int × (List Int))) =>
 some (Sum.inl (y3.1, ((Go.IntKind.wrap .i64 (x2.2.1 + (1 : Int))), y3.2))))))))))))
 else
 (gd ((0 : Int) ≤ x2.2.1) (gd (x2.2.1 < (((List.length x.1) : Nat) : Int)) (Option.bind (loopM (X := (Int × (Int × (List Int)))) (E := (Int × (List Int))) (fun (x3 : (Int × (Int × (List Int)))) =>
 bif (decide (x3.2.1 ≥ (0 : Int))) then
 (gd ((0 : Int) ≤ (Go.IntKind.wrap .i64 (Int.tdiv x3.1 (8 : Int)))) (gd ((Go.IntKind.wrap .i64 (Int.tdiv x3.1 (8 : Int))) < (((List.length x3.2.2) : Nat) : Int)) (gd ((Int.toNat (Go.IntKind.wrap .i64 (Int.tdiv x3.1 (8 : Int)))) < (List.length x3.2.2)) (gd ((0 : Int) ≤ x2.2.1) (gd (x2.2.1 < (((List.length x.2.1) : Nat) : Int)) (gd ((0 : Int) ≤ (Go.IntKind.wrap .u64 x3.2.1)) (gd ((0 : Int) ≤ (Go.IntKind.wrap .u64 (Go.IntKind.wrap .i64 ((7 : Int) - (Int.tmod x3.1 (8 : Int)))))) (gd ((0 : Int) ≤ (Go.IntKind.wrap .i64 (Int.tdiv x3.1 (8 : Int)))) (gd ((Go.IntKind.wrap .i64 (Int.tdiv x3.1 (8 : Int))) < (((List.length x3.2.2) : Nat) : Int)) (gd ((Int.toNat (Go.IntKind.wrap .i64 (Int.tdiv x3.1 (8 : Int)))) < (List.length x3.2.2)) (some (Sum.inl ((Go.IntKind.wrap .i64 (x3.1 + (1 : Int))), ((Go.IntKind.wrap .i64 (x3.2.1 - (1 : Int))), (List.set x3.2.2 (Int.toNat (Go.IntKind.wrap .i64 (Int.tdiv x3.1 (8 : Int)))) (ior .u8 (List.getD x3.2.2 (Int.toNat (Go.IntKind.wrap .i64 (Int.tdiv x3.1 (8 : Int)))) (0 : Int)) (ishl .u8 (Go.IntKind.wrap .u8 (iand .u64 (ishr .u64 (List.getD x.2.1 (Int.toNat x2.2.1) (0 : Int)) (Go.IntKind.wrap .u64 x3.2.1)) (1 : Int))) (Go.IntKind.wrap .u64 (Go.IntKind.wrap .i64 ((7 : Int) - (Int.tmod x3.1 (8 : Int))))))))))))))))))))))
 else
 (some (Sum.inr (x3.1, x3.2.2)))) (x2.1, ((Go.IntKind.wrap .i64 ((List.getD x.1 (Int.toNat x2.2.1) (0 : Int)) - (1 : Int))), x2.2.2))) fun (y3 : (Int × (List Int))) =>
 some (Sum.inl (y3.1, ((Go.IntKind.wrap .i64 (x2.2.1 + (1 : Int))), y3.2)))))))))
 else
 (some (Sum.inr (Sum.inl x2.2.2)))) ((0 : Int), ((0 : Int), (List.replicate (Int.toNat y1.1) (0 : Int))))) fun (y2 : ((List Int) ⊕ ((List Int) × (Int × (List Int))))) =>
 Sum.elim (fun y3 =>
 some (y3, ((0 : Int), ()))) (fun y3 =>
 none) y2)))))

noncomputable def r99 : PDen [(false, (.sl (.int .i64))), (false, (.sl (.int .u64)))] → Option (PDen [(false, (.sl (.int .u8))), (false, (.int .i64))]) := fun x => afunM Try.prog (envOf [(98, ⟨[(false, (.sl (.int .i64)))], [(false, (.int .i64)), (false, (.int .i64))], false, m98⟩)] [] [] []) ⟨[(0, ⟨[.slot 9 (.d false (.int .i64) true), .slot 10 (.d false (.int .i64) true), .vec 0 5 (.int .u8) true], [], [(some 0, [.vec 0 5 (.int .u8) true]), (none, [.slot 4 (.d false (.sl (.int .u8)) true), .slot 5 (.d false (.int .i64) true), .vec 0 5 (.int .u8) true])], none⟩), (2, ⟨[.slot 9 (.d false (.int .i64) true), .slot 11 (.d false (.int .i64) true), .vec 0 5 (.int .u8) true], [], [(some 2, [.slot 9 (.d false (.int .i64) true), .vec 0 5 (.int .u8) true])], none⟩)], []⟩ Try.f99 [(false, (.sl (.int .i64))), (false, (.sl (.int .u64)))] [(false, (.sl (.int .u8))), (false, (.int .i64))] [(.s 5), .d] false x
theorem r99_eq : r99 = m99 := by kernel_rfl

theorem c99 : OM.Sound Try.prog 99 ⟨[(false, (.sl (.int .i64))), (false, (.sl (.int .u64)))], [(false, (.sl (.int .u8))), (false, (.int .i64))], [(.s 5), .d], false, m99⟩ := afunM_sound' (envOf_sound (CSs.cons c98 (CSs.nil)) (HDs.nil) (IDs.nil)) rfl Try.follows (f := 99) (fn := Try.f99) Try.func99 (by kernel_rfl) (by kernel_rfl) r99_eq
end Go.Proofs.Ytefekolpfklhdaa
end

section
open Go Go.Proofs.AM
namespace Go.Proofs.Ytefekolpfklhdaa

noncomputable def m83 (x : (Int × (Int × (Int × Int))) × Unit) : Option ((List Int) × Unit) :=
 Option.bind (m99 (((8 : Int) :: ((8 : Int) :: ((32 : Int) :: ((64 : Int) :: ((64 : Int) :: ([] : List Int)))))), (((Go.IntKind.wrap .u64 x.1.1) :: ((0 : Int) :: ((Go.IntKind.wrap .u64 x.1.2.1) :: ((Go.IntKind.wrap .u64 x.1.2.2.1) :: ((Go.IntKind.wrap .u64 x.1.2.2.2) :: ([] : List Int)))))), ()))) fun (y1 : ((List Int) × (Int × Unit))) =>
 Option.bind (loopM (X := (List Int)) (E := (List Int)) (fun (x2 : (List Int)) =>
 bif (decide ((((List.length x2) : Nat) : Int) < (28 : Int))) then
 (gd ((((List.length x2) + (List.length ((0 : Int) :: ([] : List Int)))) * 1) ≤ 140737488355328) (gd (((List.length x2) + (List.length ((0 : Int) :: ([] : List Int)))) ≤ 140737488355328) (some (Sum.inl (x2 ++ ((0 : Int) :: ([] : List Int)))))))
 else
 (some (Sum.inr x2))) y1.1) fun (y2 : (List Int)) =>
 some (y2, ())

noncomputable def r83 : PDen [(true, (.pair (.int .i64) (.pair (.int .i64) (.pair (.int .i64) (.int .i64)))))] → Option (PDen [(false, (.sl (.int .u8)))]) := fun x => afun Try.prog (envOf [] [(99, OM.hd ⟨[(false, (.sl (.int .i64))), (false, (.sl (.int .u64)))], [(false, (.sl (.int .u8))), (false, (.int .i64))], [(.s 5), .d], false, m99⟩)] [] []) ⟨[(0, ⟨[.slot 3 (.v 5 (.int .u8) true)], [3], [(some 0, [.slot 3 (.v 5 (.int .u8) true)])], none⟩)], []⟩ Try.f83 [(true, (.pair (.int .i64) (.pair (.int .i64) (.pair (.int .i64) (.int .i64)))))] [(false, (.sl (.int .u8)))] false x
theorem r83_eq : r83 = m83 := by kernel_rfl

theorem c83 : CS.Sound Try.prog 83 ⟨[(true, (.pair (.int .i64) (.pair (.int .i64) (.pair (.int .i64) (.int .i64)))))], [(false, (.sl (.int .u8)))], false, m83⟩ := afun_sound' (envOf_sound (CSs.nil) (HDs.cons (OM.Sound.hd c99) (HDs.nil)) (IDs.nil)) rfl Try.follows (f := 83) (fn := Try.f83) Try.func83 (by kernel_rfl) (by kernel_rfl) r83_eq
end Go.Proofs.Ytefekolpfklhdaa
end

section
open Go Go.Proofs.AM
namespace Go.Proofs.Ytefekolpfklhdaa

noncomputable def m58 (x : ((List Int) × (List Int)) × Unit) : Option ((Int × (Int × (Int × Int))) × ((List Int) × (Int × Unit))) :=
 Option.bind (m81 (x.1, ())) fun (y1 : ((List Int) × Unit)) =>
 Option.bind (m80 (y1.1, ())) fun (y2 : ((List Int) × (Int × Unit))) =>
 bif (!(decide (y2.2.1 = (0 : Int)))) then
 (some (((0 : Int), ((0 : Int), ((0 : Int), (0 : Int)))), (([] : List Int), (y2.2.1, ()))))
 else
 (gd ((256 : Int) ≤ (((List.length y2.1) : Nat) : Int)) (gd ((((List.length y2.1) : Nat) : Int) ≤ (((List.length y2.1) : Nat) : Int)) (gd ((22 : Int) ≤ (((List.length (List.take ((Int.toNat (((List.length y2.1) : Nat) : Int)) - (Int.toNat (256 : Int))) (List.drop (Int.toNat (256 : Int)) y2.1))) : Nat) : Int)) (Option.bind (m82 (((8 : Int) :: ((8 : Int) :: ((32 : Int) :: ((64 : Int) :: ((64 : Int) :: ([] : List Int)))))), ((List.take ((Int.toNat (22 : Int)) - (Int.toNat (0 : Int))) (List.drop (Int.toNat (0 : Int)) (List.take ((Int.toNat (((List.length y2.1) : Nat) : Int)) - (Int.toNat (256 : Int))) (List.drop (Int.toNat (256 : Int)) y2.1)))), ()))) fun (y3 : ((List Int) × (Int × Unit))) =>
 gd ((3 : Int) < (((List.length y3.1) : Nat) : Int)) (bif (decide ((List.getD y3.1 (Int.toNat (3 : Int)) (0 : Int)) > (1152921504606846976 : Int))) then
 (some (((0 : Int), ((0 : Int), ((0 : Int), (0 : Int)))), (([] : List Int), ((30 : Int), ()))))
 else
 (gd ((4 : Int) < (((List.length y3.1) : Nat) : Int)) (bif (decide ((List.getD y3.1 (Int.toNat (4 : Int)) (0 : Int)) > (1152921504606846976 : Int))) then
 (some (((0 : Int), ((0 : Int), ((0 : Int), (0 : Int)))), (([] : List Int), ((30 : Int), ()))))
 else
 (gd ((0 : Int) < (((List.length y3.1) : Nat) : Int)) (gd ((2 : Int) < (((List.length y3.1) : Nat) : Int)) (gd ((3 : Int) < (((List.length y3.1) : Nat) : Int)) (gd ((4 : Int) < (((List.length y3.1) : Nat) : Int)) (Option.bind (m18 (((Go.IntKind.wrap .i64 (List.getD y3.1 (Int.toNat (0 : Int)) (0 : Int))), ((Go.IntKind.wrap .i64 (List.getD y3.1 (Int.toNat (2 : Int)) (0 : Int))), ((Go.IntKind.wrap .i64 (List.getD y3.1 (Int.toNat (3 : Int)) (0 : Int))), (Go.IntKind.wrap .i64 (List.getD y3.1 (Int.toNat (4 : Int)) (0 : Int)))))), ())) fun (y4 : (Int × Unit)) =>
 bif (!(decide (y4.1 = (0 : Int)))) then
 (some (((0 : Int), ((0 : Int), ((0 : Int), (0 : Int)))), (([] : List Int), ((30 : Int), ()))))
 else
 (Option.bind (m83 (((Go.IntKind.wrap .i64 (List.getD y3.1 (Int.toNat (0 : Int)) (0 : Int))), ((Go.IntKind.wrap .i64 (List.getD y3.1 (Int.toNat (2 : Int)) (0 : Int))), ((Go.IntKind.wrap .i64 (List.getD y3.1 (Int.toNat (3 : Int)) (0 : Int))), (Go.IntKind.wrap .i64 (List.getD y3.1 (Int.toNat (4 : Int)) (0 : Int)))))), ())) fun (y5 : ((List Int) × Unit)) =>
 bif (!(streq (Go.strOfNums y5.1) (Go.strOfNums (List.take ((Int.toNat (((List.length y2.1) : Nat) : Int)) - (Int.toNat (256 : Int))) (List.drop (Int.toNat (256 : Int)) y2.1))))) then
 (some (((0 : Int), ((0 : Int), ((0 : Int), (0 : Int)))), (([] : List Int), ((30 : Int), ()))))
 else
 (gd ((256 : Int) ≤ (((List.length y2.1) : Nat) : Int)) (some (((Go.IntKind.wrap .i64 (List.getD y3.1 (Int.toNat (0 : Int)) (0 : Int))), ((Go.IntKind.wrap .i64 (List.getD y3.1 (Int.toNat (2 : Int)) (0 : Int))), ((Go.IntKind.wrap .i64 (List.getD y3.1 (Int.toNat (3 : Int)) (0 : Int))), (Go.IntKind.wrap .i64 (List.getD y3.1 (Int.toNat (4 : Int)) (0 : Int)))))), ((List.take ((Int.toNat (256 : Int)) - (Int.toNat (0 : Int))) (List.drop (Int.toNat (0 : Int)) y2.1)), ((0 : Int), ()))))))))))))))))))

noncomputable def r58 : PDen [(true, (.pair (.ar 256 (.int .u8)) (.ar 32 (.int .u8))))] → Option (PDen [(true, (.pair (.int .i64) (.pair (.int .i64) (.pair (.int .i64) (.int .i64))))), (false, (.sl (.int .u8))), (false, (.int .i64))]) := fun x => afun Try.prog (envOf [(18, ⟨[(true, (.pair (.int .i64) (.pair (.int .i64) (.pair (.int .i64) (.int .i64)))))], [(false, (.int .i64))], false, m18⟩), (80, ⟨[(false, (.sl (.int .u8)))], [(false, (.sl (.int .u8))), (false, (.int .i64))], false, m80⟩), (81, ⟨[(true, (.pair (.ar 256 (.int .u8)) (.ar 32 (.int .u8))))], [(false, (.sl (.int .u8)))], false, m81⟩), (82, ⟨[(false, (.sl (.int .i64))), (false, (.sl (.int .u8)))], [(false, (.sl (.int .u64))), (false, (.int .i64))], false, m82⟩), (83, ⟨[(true, (.pair (.int .i64) (.pair (.int .i64) (.pair (.int .i64) (.int .i64)))))], [(false, (.sl (.int .u8)))], false, m83⟩)] [] [] []) ⟨[], []⟩ Try.f58 [(true, (.pair (.ar 256 (.int .u8)) (.ar 32 (.int .u8))))] [(true, (.pair (.int .i64) (.pair (.int .i64) (.pair (.int .i64) (.int .i64))))), (false, (.sl (.int .u8))), (false, (.int .i64))] false x
theorem r58_eq : r58 = m58 := by kernel_rfl

theorem c58 : CS.Sound Try.prog 58 ⟨[(true, (.pair (.ar 256 (.int .u8)) (.ar 32 (.int .u8))))], [(true, (.pair (.int .i64) (.pair (.int .i64) (.pair (.int .i64) (.int .i64))))), (false, (.sl (.int .u8))), (false, (.int .i64))], false, m58⟩ := afun_sound' (envOf_sound (CSs.cons c18 (CSs.cons c80 (CSs.cons c81 (CSs.cons c82 (CSs.cons c83 (CSs.nil)))))) (HDs.nil) (IDs.nil)) rfl Try.follows (f := 58) (fn := Try.f58) Try.func58 (by kernel_rfl) (by kernel_rfl) r58_eq
end Go.Proofs.Ytefekolpfklhdaa
end

section
open Go Go.Proofs.AM
namespace Go.Proofs.Ytefekolpfklhdaa

noncomputable def m29 (x : Int × (List ((List Int) × (List Int))) × Unit) : Option ((List ((Int × Int) × (Int × (Int × (Int × Int))))) × Unit) :=
 Option.bind (loopM (X := ((List ((Int × Int) × (Int × (Int × (Int × Int))))) × Int)) (E := (List ((Int × Int) × (Int × (Int × (Int × Int)))))) (fun (x1 : ((List ((Int × Int) × (Int × (Int × (Int × Int))))) × Int)) =>
 bif (decide (x1.2 < (((List.length x.2.1) : Nat) : Int))) then
 (gd ((0 : Int) ≤ x1.2) (gd (x1.2 < (((List.length x.2.1) : Nat) : Int)) (Option.bind (m58 ((List.getD x.2.1 (Int.toNat x1.2) (([] : List Int), ([] : List Int))), ())) fun (y2 : ((Int × (Int × (Int × Int))) × ((List Int) × (Int × Unit)))) =>
 bif (decide (y2.2.2.1 = (0 : Int))) then
 (gd ((((List.length x1.1) + (List.length (((x.1, x1.2), y2.1) :: ([] : List ((Int × Int) × (Int × (Int × (Int × Int)))))))) * 48) ≤ 140737488355328) (gd (((List.length x1.1) + (List.length (((x.1, x1.2), y2.1) :: ([] : List ((Int × Int) × (Int × (Int × (Int × Int)))))))) ≤ 140737488355328) (some (Sum.inl ((x1.1 ++ (((x.1, x1.2), y2.1) :: ([] : List ((Int × Int) × (Int × (Int × (Int × Int))))))), (Go.IntKind.wrap .i64 (x1.2 + (1 : Int))))))))
 else
 (some (Sum.inl (x1.1, (Go.IntKind.wrap .i64 (x1.2 + (1 : Int)))))))))
 else
 (some (Sum.inr x1.1))) (([] : List ((Int × Int) × (Int × (Int × (Int × Int))))), (0 : Int))) fun (y1 : (List ((Int × Int) × (Int × (Int × (Int × Int)))))) =>
 some (y1, ())

noncomputable def r29 : PDen [(false, (.int .i64)), (false, (.sl (.pair (.ar 256 (.int .u8)) (.ar 32 (.int .u8)))))] → Option (PDen [(false, (.sl (.pair (.pair (.int .i64) (.int .i64)) (.pair (.int .i64) (.pair (.int .i64) (.pair (.int .i64) (.int .i64)))))))]) := fun x => afun Try.prog (envOf [(58, ⟨[(true, (.pair (.ar 256 (.int .u8)) (.ar 32 (.int .u8))))], [(true, (.pair (.int .i64) (.pair (.int .i64) (.pair (.int .i64) (.int .i64))))), (false, (.sl (.int .u8))), (false, (.int .i64))], false, m58⟩)] [] [] []) ⟨[(0, ⟨[.slot 5 (.v 40 (.pair (.pair (.int .i64) (.int .i64)) (.pair (.int .i64) (.pair (.int .i64) (.pair (.int .i64) (.int .i64))))) true), .slot 6 (.d false (.int .i64) true)], [], [(some 0, [.slot 5 (.v 40 (.pair (.pair (.int .i64) (.int .i64)) (.pair (.int .i64) (.pair (.int .i64) (.pair (.int .i64) (.int .i64))))) true)])], none⟩)], []⟩ Try.f29 [(false, (.int .i64)), (false, (.sl (.pair (.ar 256 (.int .u8)) (.ar 32 (.int .u8)))))] [(false, (.sl (.pair (.pair (.int .i64) (.int .i64)) (.pair (.int .i64) (.pair (.int .i64) (.pair (.int .i64) (.int .i64)))))))] false x
theorem r29_eq : r29 = m29 := by kernel_rfl

theorem c29 : CS.Sound Try.prog 29 ⟨[(false, (.int .i64)), (false, (.sl (.pair (.ar 256 (.int .u8)) (.ar 32 (.int .u8)))))], [(false, (.sl (.pair (.pair (.int .i64) (.int .i64)) (.pair (.int .i64) (.pair (.int .i64) (.pair (.int .i64) (.int .i64)))))))], false, m29⟩ := afun_sound' (envOf_sound (CSs.cons c58 (CSs.nil)) (HDs.nil) (IDs.nil)) rfl Try.follows (f := 29) (fn := Try.f29) Try.func29 (by kernel_rfl) (by kernel_rfl) r29_eq
end Go.Proofs.Ytefekolpfklhdaa
end

section
open Go Go.Proofs.AM
namespace Go.Proofs.Ytefekolpfklhdaa

noncomputable def m90 (x : (List Int) × Unit) : Option (Int × Unit) :=
 Option.bind (loopM (X := (Int × Int)) (E := Int) (fun (x1 : (Int × Int)) =>
 bif (decide (x1.2 < (((List.length x.1) : Nat) : Int))) then
 (gd ((0 : Int) ≤ x1.2) (gd (x1.2 < (((List.length x.1) : Nat) : Int)) (Option.bind (loopM (X := (Int × Int)) (E := Int) (fun (x2 : (Int × Int)) =>
 bif (decide (x2.2 < (8 : Int))) then
 (gd ((0 : Int) ≤ x2.2) (bif (decide ((iand .u8 (ishr .u8 (List.getD x.1 (Int.toNat x1.2) (0 : Int)) x2.2) (1 : Int)) = (0 : Int))) then
 (some (Sum.inl ((Go.IntKind.wrap .i64 (x2.1 + (1 : Int))), (Go.IntKind.wrap .i64 (x2.2 + (1 : Int))))))
 else
 (some (Sum.inl (x2.1, (Go.IntKind.wrap .i64 (x2.2 + (1 : Int))))))))
 else
 (some (Sum.inr x2.1))) (x1.1, (0 : Int))) fun (y2 : Int) =>
 some (Sum.inl (y2, (Go.IntKind.wrap .i64 (x1.2 + (1 : Int))))))))
 else
 (some (Sum.inr x1.1))) ((0 : Int), (0 : Int))) fun (y1 : Int) =>
 some (y1, ())

noncomputable def r90 : PDen [(false, (.sl (.int .u8)))] → Option (PDen [(false, (.int .i64))]) := fun x => afun Try.prog (envOf [] [] [] []) ⟨[(0, ⟨[.slot 3 (.d false (.int .i64) true), .slot 9 (.d false (.int .i64) true)], [], [(some 0, [.slot 3 (.d false (.int .i64) true)])], none⟩), (2, ⟨[.slot 3 (.d false (.int .i64) true), .slot 13 (.d false (.int .i64) true)], [], [(some 2, [.slot 3 (.d false (.int .i64) true)])], none⟩)], []⟩ Try.f90 [(false, (.sl (.int .u8)))] [(false, (.int .i64))] false x
theorem r90_eq : r90 = m90 := by kernel_rfl

theorem c90 : CS.Sound Try.prog 90 ⟨[(false, (.sl (.int .u8)))], [(false, (.int .i64))], false, m90⟩ := afun_sound' (envOf_sound (CSs.nil) (HDs.nil) (IDs.nil)) rfl Try.follows (f := 90) (fn := Try.f90) Try.func90 (by kernel_rfl) (by kernel_rfl) r90_eq
end Go.Proofs.Ytefekolpfklhdaa
end

section
open Go Go.Proofs.AM
namespace Go.Proofs.Ytefekolpfklhdaa

noncomputable def m91 (x : (List Int) × (List Int) × Unit) : Option (Bool × Unit) :=
 bif (!(decide ((((List.length x.1) : Nat) : Int) = (((List.length x.2.1) : Nat) : Int)))) then
 (some (false, ()))
 else
 (Option.bind (loopM (X := Int) (E := (Unit ⊕ Bool)) (fun (x1 : Int) =>
 bif (decide (x1 < (((List.length x.1) : Nat) : Int))) then
 (gd ((0 : Int) ≤ x1) (gd (x1 < (((List.length x.1) : Nat) : Int)) (gd ((0 : Int) ≤ x1) (gd (x1 < (((List.length x.2.1) : Nat) : Int)) (bif (!(decide ((List.getD x.1 (Int.toNat x1) (0 : Int)) = (List.getD x.2.1 (Int.toNat x1) (0 : Int))))) then
 (some (Sum.inr (Sum.inr false)))
 else
 (some (Sum.inl (Go.IntKind.wrap .i64 (x1 + (1 : Int))))))))))
 else
 (some (Sum.inr (Sum.inl ())))) (0 : Int)) fun (y1 : (Unit ⊕ Bool)) =>
 Sum.elim (fun y2 =>
 some (true, ())) (fun y2 =>
 some (y2, ())) y1)

noncomputable def r91 : PDen [(false, (.sl (.int .u8))), (false, (.sl (.int .u8)))] → Option (PDen [(false, .bool)]) := fun x => afun Try.prog (envOf [] [] [] []) ⟨[(0, ⟨[.slot 13 (.d false (.int .i64) true)], [], [(some 0, []), (none, [.slot 4 (.d false .bool true)])], none⟩)], []⟩ Try.f91 [(false, (.sl (.int .u8))), (false, (.sl (.int .u8)))] [(false, .bool)] false x
theorem r91_eq : r91 = m91 := by kernel_rfl

theorem c91 : CS.Sound Try.prog 91 ⟨[(false, (.sl (.int .u8))), (false, (.sl (.int .u8)))], [(false, .bool)], false, m91⟩ := afun_sound' (envOf_sound (CSs.nil) (HDs.nil) (IDs.nil)) rfl Try.follows (f := 91) (fn := Try.f91) Try.func91 (by kernel_rfl) (by kernel_rfl) r91_eq
end Go.Proofs.Ytefekolpfklhdaa
end

section
open Go Go.Proofs.AM
namespace Go.Proofs.Ytefekolpfklhdaa

noncomputable def m92 (x : (List Int) × Unit) : Option ((List Int) × Unit) :=
 Option.bind (m90 (x.1, ())) fun (y1 : (Int × Unit)) =>
 some (((Go.IntKind.wrap .u8 (ishr .i64 y1.1 (24 : Int))) :: ((Go.IntKind.wrap .u8 (ishr .i64 y1.1 (16 : Int))) :: ((Go.IntKind.wrap .u8 (ishr .i64 y1.1 (8 : Int))) :: ((Go.IntKind.wrap .u8 y1.1) :: ([] : List Int))))), ())

noncomputable def r92 : PDen [(false, (.sl (.int .u8)))] → Option (PDen [(false, (.sl (.int .u8)))]) := fun x => afun Try.prog (envOf [(90, ⟨[(false, (.sl (.int .u8)))], [(false, (.int .i64))], false, m90⟩)] [] [] []) ⟨[], []⟩ Try.f92 [(false, (.sl (.int .u8)))] [(false, (.sl (.int .u8)))] false x
theorem r92_eq : r92 = m92 := by kernel_rfl

theorem c92 : CS.Sound Try.prog 92 ⟨[(false, (.sl (.int .u8)))], [(false, (.sl (.int .u8)))], false, m92⟩ := afun_sound' (envOf_sound (CSs.cons c90 (CSs.nil)) (HDs.nil) (IDs.nil)) rfl Try.follows (f := 92) (fn := Try.f92) Try.func92 (by kernel_rfl) (by kernel_rfl) r92_eq
end Go.Proofs.Ytefekolpfklhdaa
end

section
open Go Go.Proofs.AM
namespace Go.Proofs.Ytefekolpfklhdaa

noncomputable def m73 (x : (List Int) × Unit) : Option (Int × Unit) :=
 bif (decide ((((List.length x.1) : Nat) : Int) > (0 : Int))) then
 (Option.bind (m90 (x.1, ())) fun (y1 : (Int × Unit)) =>
 bif (decide (y1.1 = (0 : Int))) then
 (some ((10 : Int), ()))
 else
 (bif (decide ((Go.IntKind.wrap .i64 ((((List.length x.1) : Nat) : Int) - (4 : Int))) < (0 : Int))) then
 (some ((11 : Int), ()))
 else
 (bif (decide ((Go.IntKind.wrap .i64 ((((List.length x.1) : Nat) : Int) - (4 : Int))) > (1048576 : Int))) then
 (some ((11 : Int), ()))
 else
 (gd ((0 : Int) ≤ (Go.IntKind.wrap .i64 ((((List.length x.1) : Nat) : Int) - (4 : Int)))) (gd ((Go.IntKind.wrap .i64 ((((List.length x.1) : Nat) : Int) - (4 : Int))) ≤ (((List.length x.1) : Nat) : Int)) (gd ((((List.length x.1) : Nat) : Int) ≤ (((List.length x.1) : Nat) : Int)) (gd ((0 : Int) ≤ (Go.IntKind.wrap .i64 ((((List.length x.1) : Nat) : Int) - (4 : Int)))) (gd ((Go.IntKind.wrap .i64 ((((List.length x.1) : Nat) : Int) - (4 : Int))) ≤ (((List.length x.1) : Nat) : Int)) (Option.bind (m92 ((List.take ((Int.toNat (Go.IntKind.wrap .i64 ((((List.length x.1) : Nat) : Int) - (4 : Int)))) - (Int.toNat (0 : Int))) (List.drop (Int.toNat (0 : Int)) x.1)), ())) fun (y2 : ((List Int) × Unit)) =>
 Option.bind (m91 ((List.take ((Int.toNat (((List.length x.1) : Nat) : Int)) - (Int.toNat (Go.IntKind.wrap .i64 ((((List.length x.1) : Nat) : Int) - (4 : Int))))) (List.drop (Int.toNat (Go.IntKind.wrap .i64 ((((List.length x.1) : Nat) : Int) - (4 : Int)))) x.1)), (y2.1, ()))) fun (y3 : (Bool × Unit)) =>
 bif (!y3.1) then
 (some ((11 : Int), ()))
 else
 (some ((0 : Int), ())))))))))))
 else
 (bif (decide ((Go.IntKind.wrap .i64 ((((List.length x.1) : Nat) : Int) - (4 : Int))) < (0 : Int))) then
 (some ((11 : Int), ()))
 else
 (bif (decide ((Go.IntKind.wrap .i64 ((((List.length x.1) : Nat) : Int) - (4 : Int))) > (1048576 : Int))) then
 (some ((11 : Int), ()))
 else
 (gd ((0 : Int) ≤ (Go.IntKind.wrap .i64 ((((List.length x.1) : Nat) : Int) - (4 : Int)))) (gd ((Go.IntKind.wrap .i64 ((((List.length x.1) : Nat) : Int) - (4 : Int))) ≤ (((List.length x.1) : Nat) : Int)) (gd ((((List.length x.1) : Nat) : Int) ≤ (((List.length x.1) : Nat) : Int)) (gd ((0 : Int) ≤ (Go.IntKind.wrap .i64 ((((List.length x.1) : Nat) : Int) - (4 : Int)))) (gd ((Go.IntKind.wrap .i64 ((((List.length x.1) : Nat) : Int) - (4 : Int))) ≤ (((List.length x.1) : Nat) : Int)) (Option.bind (m92 ((List.take ((Int.toNat (Go.IntKind.wrap .i64 ((((List.length x.1) : Nat) : Int) - (4 : Int)))) - (Int.toNat (0 : Int))) (List.drop (Int.toNat (0 : Int)) x.1)), ())) fun (y1 : ((List Int) × Unit)) =>
 Option.bind (m91 ((List.take ((Int.toNat (((List.length x.1) : Nat) : Int)) - (Int.toNat (Go.IntKind.wrap .i64 ((((List.length x.1) : Nat) : Int) - (4 : Int))))) (List.drop (Int.toNat (Go.IntKind.wrap .i64 ((((List.length x.1) : Nat) : Int) - (4 : Int)))) x.1)), (y1.1, ()))) fun (y2 : (Bool × Unit)) =>
 bif (!y2.1) then
 (some ((11 : Int), ()))
 else
 (some ((0 : Int), ()))))))))))

noncomputable def r73 : PDen [(false, (.sl (.int .u8)))] → Option (PDen [(false, (.int .i64))]) := fun x => afun Try.prog (envOf [(90, ⟨[(false, (.sl (.int .u8)))], [(false, (.int .i64))], false, m90⟩), (91, ⟨[(false, (.sl (.int .u8))), (false, (.sl (.int .u8)))], [(false, .bool)], false, m91⟩), (92, ⟨[(false, (.sl (.int .u8)))], [(false, (.sl (.int .u8)))], false, m92⟩)] [] [] []) ⟨[], []⟩ Try.f73 [(false, (.sl (.int .u8)))] [(false, (.int .i64))] false x
theorem r73_eq : r73 = m73 := by kernel_rfl

theorem c73 : CS.Sound Try.prog 73 ⟨[(false, (.sl (.int .u8)))], [(false, (.int .i64))], false, m73⟩ := afun_sound' (envOf_sound (CSs.cons c90 (CSs.cons c91 (CSs.cons c92 (CSs.nil)))) (HDs.nil) (IDs.nil)) rfl Try.follows (f := 73) (fn := Try.f73) Try.func73 (by kernel_rfl) (by kernel_rfl) r73_eq
end Go.Proofs.Ytefekolpfklhdaa
end

section
namespace Go.Proofs
open Go.Shelf
def Try.growBytes_ren : Go.Shelf.Ren := ⟨fun | 4 => 93 | n => n, fun | 22 => 105 | 25 => 5 | 3 => 3 | 4 => 4 | 9 => 9 | 20 => 20 | 0 => 0 | n => n, fun | n => n⟩
theorem Try.growBytes : Go.Proofs.Lays8.n4 Try.prog Try.growBytes_ren := {
  mixed := by kernel_rfl
  f4 := ⟨Try.f93.name, by decide, Try.func93.trans (congrArg some (by kernel_rfl))⟩
  t0 := Try.underlying0
  a0 := Try.isAgg0
  z0 := Try.sizeOf0
  v0 := Try.zeroValue0
  t3 := Try.underlying3
  a3 := Try.isAgg3
  z3 := Try.sizeOf3
  v3 := Try.zeroValue3
  t4 := Try.underlying4
  a4 := Try.isAgg4
  z4 := Try.sizeOf4
  v4 := Try.zeroValue4
  t9 := Try.underlying9
  a9 := Try.isAgg9
  z9 := Try.sizeOf9
  v9 := Try.zeroValue9
  t20 := Try.underlying20
  a20 := Try.isAgg20
  z20 := Try.sizeOf20
  v20 := Try.zeroValue20
  t22 := Try.underlying105
  a22 := Try.isAgg105
  z22 := Try.sizeOf105
  v22 := Try.zeroValue105 }
end Go.Proofs
end

section
open Go Go.Proofs.AM
namespace Go.Proofs.Ytefekolpfklhdaa
theorem g93 : (growHD 5 (.int .u8) 1).Sound Try.prog 93 := by
  have h : (Try.prog.info? 5).map (fun i => (i.size, i.bytes, i.zero)) = some (1, 1, some (.int .u8 0)) := by kernel_rfl
  obtain ⟨i, hi, hs⟩ := Option.map_eq_some_iff.1 h
  simp only [Prod.mk.injEq] at hs
  exact growHD_sound Try.growBytes rfl rfl (fun args w => enters_of Try.func93 (by kernel_rfl) rfl args w) hi hs.2.2 rfl hs.1 (by decide) hs.2.1
end Go.Proofs.Ytefekolpfklhdaa
end

section
open Go Go.Proofs.AM
namespace Go.Proofs.Ytefekolpfklhdaa

noncomputable def m74 (x : (List (List Int)) × Unit) : Option ((List Int) × Unit) :=
 Option.bind (loopM (X := (Int × Int)) (E := Int) (fun (x1 : (Int × Int)) =>
 bif (decide (x1.2 < (((List.length x.1) : Nat) : Int))) then
 (gd ((0 : Int) ≤ x1.2) (gd (x1.2 < (((List.length x.1) : Nat) : Int)) (bif (decide ((Go.IntKind.wrap .i64 (x1.1 + (((List.length (List.getD x.1 (Int.toNat x1.2) ([] : List Int))) : Nat) : Int))) < (0 : Int))) then
 (none)
 else
 (some (Sum.inl ((Go.IntKind.wrap .i64 (x1.1 + (((List.length (List.getD x.1 (Int.toNat x1.2) ([] : List Int))) : Nat) : Int))), (Go.IntKind.wrap .i64 (x1.2 + (1 : Int)))))))))
 else
 (some (Sum.inr x1.1))) ((0 : Int), (0 : Int))) fun (y1 : Int) =>
 Option.bind (gd ((0 : Int) ≤ y1) (gd ((y1 * (1 : Int)) ≤ (140737488355328 : Int)) (gd (y1 ≤ (4611686018427387904 : Int)) (some ())))) fun (y2 : Unit) =>
 Option.bind (loopM (X := ((List Int) × Int)) (E := (List Int)) (fun (x3 : ((List Int) × Int)) =>
 bif (decide (x3.2 < (((List.length x.1) : Nat) : Int))) then
 (gd ((0 : Int) ≤ x3.2) (gd (x3.2 < (((List.length x.1) : Nat) : Int)) (gd ((((List.length x3.1) + (List.length (List.getD x.1 (Int.toNat x3.2) ([] : List Int)))) * 1) ≤ 140737488355328) (gd (((List.length x3.1) + (List.length (List.getD x.1 (Int.toNat x3.2) ([] : List Int)))) ≤ 140737488355328) (some (Sum.inl ((x3.1 ++ (List.getD x.1 (Int.toNat x3.2) ([] : List Int))), (Go.IntKind.wrap .i64 (x3.2 + (1 : Int))))))))))
 else
 (some (Sum.inr x3.1))) (([] : List Int), (0 : Int))) fun (y3 : (List Int)) =>
 some (y3, ())

noncomputable def r74 : PDen [(false, (.sl (.sl (.int .u8))))] → Option (PDen [(false, (.sl (.int .u8)))]) := fun x => afun Try.prog (envOf [] [(93, growHD 5 (.int .u8) 1)] [] []) ⟨[(0, ⟨[.slot 3 (.d false (.int .i64) true), .slot 11 (.d false (.int .i64) true)], [], [(some 0, [.slot 3 (.d false (.int .i64) true)])], none⟩), (2, ⟨[.slot 6 (.v 5 (.int .u8) true), .slot 27 (.d false (.int .i64) true)], [0], [(some 2, [.slot 6 (.v 5 (.int .u8) true)])], none⟩)], []⟩ Try.f74 [(false, (.sl (.sl (.int .u8))))] [(false, (.sl (.int .u8)))] false x
theorem r74_eq : r74 = m74 := by kernel_rfl

theorem c74 : CS.Sound Try.prog 74 ⟨[(false, (.sl (.sl (.int .u8))))], [(false, (.sl (.int .u8)))], false, m74⟩ := afun_sound' (envOf_sound (CSs.nil) (HDs.cons g93 (HDs.nil)) (IDs.nil)) rfl Try.follows (f := 74) (fn := Try.f74) Try.func74 (by kernel_rfl) (by kernel_rfl) r74_eq
end Go.Proofs.Ytefekolpfklhdaa
end

section
open Go Go.Proofs.AM
namespace Go.Proofs.Ytefekolpfklhdaa

noncomputable def m94 (x : (List Int) × Unit) : Option (Int × (Int × Unit)) :=
 bif (decide ((((List.length x.1) : Nat) : Int) > (64 : Int))) then
 (some ((0 : Int), ((1 : Int), ())))
 else
 (Option.bind (loopM (X := (Int × Int)) (E := (Int ⊕ (Int × Int))) (fun (x1 : (Int × Int)) =>
 bif (decide (x1.2 < (((List.length x.1) : Nat) : Int))) then
 (gd ((0 : Int) ≤ x1.2) (gd (x1.2 < (((List.length x.1) : Nat) : Int)) (bif (decide ((List.getD x.1 (Int.toNat x1.2) (0 : Int)) < (1 : Int))) then
 (some (Sum.inr (Sum.inr ((0 : Int), (1 : Int)))))
 else
 (bif (decide ((List.getD x.1 (Int.toNat x1.2) (0 : Int)) > (64 : Int))) then
 (some (Sum.inr (Sum.inr ((0 : Int), (1 : Int)))))
 else
 (some (Sum.inl ((Go.IntKind.wrap .i64 (x1.1 + (List.getD x.1 (Int.toNat x1.2) (0 : Int)))), (Go.IntKind.wrap .i64 (x1.2 + (1 : Int))))))))))
 else
 (some (Sum.inr (Sum.inl x1.1)))) ((0 : Int), (0 : Int))) fun (y1 : (Int ⊕ (Int × Int))) =>
 Sum.elim (fun y2 =>
 some (y2, ((0 : Int), ()))) (fun y2 =>
 some (y2.1, (y2.2, ()))) y1)

noncomputable def r94 : PDen [(false, (.sl (.int .i64)))] → Option (PDen [(false, (.int .i64)), (false, (.int .i64))]) := fun x => afun Try.prog (envOf [] [] [] []) ⟨[(0, ⟨[.slot 4 (.d false (.int .i64) true), .slot 12 (.d false (.int .i64) true)], [], [(some 0, [.slot 4 (.d false (.int .i64) true)]), (none, [.slot 2 (.d false (.int .i64) true), .slot 3 (.d false (.int .i64) true)])], none⟩)], []⟩ Try.f94 [(false, (.sl (.int .i64)))] [(false, (.int .i64)), (false, (.int .i64))] false x
theorem r94_eq : r94 = m94 := by kernel_rfl

theorem c94 : CS.Sound Try.prog 94 ⟨[(false, (.sl (.int .i64)))], [(false, (.int .i64)), (false, (.int .i64))], false, m94⟩ := afun_sound' (envOf_sound (CSs.nil) (HDs.nil) (IDs.nil)) rfl Try.follows (f := 94) (fn := Try.f94) Try.func94 (by kernel_rfl) (by kernel_rfl) r94_eq
end Go.Proofs.Ytefekolpfklhdaa
end

section
open Go Go.Proofs.AM
namespace Go.Proofs.Ytefekolpfklhdaa

noncomputable def m75 (x : (List Int) × (List Int) × Unit) : Option ((List Int) × (Int × Unit)) :=
 Option.bind (m94 (x.1, ())) fun (y1 : (Int × (Int × Unit))) =>
 bif (!(decide (y1.2.1 = (0 : Int)))) then
 (some (([] : List Int), (y1.2.1, ())))
 else
 (bif (!(decide ((((List.length x.2.1) : Nat) : Int) = (Go.IntKind.wrap .i64 (Int.tdiv (Go.IntKind.wrap .i64 (y1.1 + (7 : Int))) (8 : Int)))))) then
 (some (([] : List Int), ((3 : Int), ())))
 else
 (Option.bind (loopM (X := Int) (E := (Unit ⊕ ((List Int) × Int))) (fun (x2 : Int) =>
 bif (decide (x2 < (Go.IntKind.wrap .i64 ((8 : Int) * (((List.length x.2.1) : Nat) : Int))))) then
 (gd ((0 : Int) ≤ (Go.IntKind.wrap .i64 (Int.tdiv x2 (8 : Int)))) (gd ((Go.IntKind.wrap .i64 (Int.tdiv x2 (8 : Int))) < (((List.length x.2.1) : Nat) : Int)) (gd ((0 : Int) ≤ (Go.IntKind.wrap .i64 ((7 : Int) - (Int.tmod x2 (8 : Int))))) (bif (!(decide ((Go.IntKind.wrap .u64 (iand .u8 (ishr .u8 (List.getD x.2.1 (Int.toNat (Go.IntKind.wrap .i64 (Int.tdiv x2 (8 : Int)))) (0 : Int)) (Go.IntKind.wrap .i64 ((7 : Int) - (Int.tmod x2 (8 : Int))))) (1 : Int))) = (0 : Int)))) then
 (some (Sum.inr (Sum.inr (([] : List Int), (1 : Int)))))
 else
 (some (Sum.inl (Go.IntKind.wrap .i64 (x2 + (1 : Int)))))))))
 else
 (some (Sum.inr (Sum.inl ())))) y1.1) fun (y2 : (Unit ⊕ ((List Int) × Int))) =>
 Sum.elim (fun y3 =>
 Option.bind (loopM (X := ((List Int) × (Int × Int))) (E := (List Int)) (fun (x4 : ((List Int) × (Int × Int))) =>
 bif (decide (x4.2.2 < (((List.length x.1) : Nat) : Int))) then
 (gd ((0 : Int) ≤ x4.2.2) (gd (x4.2.2 < (((List.length x.1) : Nat) : Int)) (Option.bind (loopM (X := (Int × (Int × Int))) (E := (Int × Int)) (fun (x5 : (Int × (Int × Int))) =>
 bif (decide (x5.2.2 < (List.getD x.1 (Int.toNat x4.2.2) (0 : Int)))) then
 (gd ((0 : Int) ≤ (Go.IntKind.wrap .i64 (Int.tdiv x5.1 (8 : Int)))) (gd ((Go.IntKind.wrap .i64 (Int.tdiv x5.1 (8 : Int))) < (((List.length x.2.1) : Nat) : Int)) (gd ((0 : Int) ≤ (Go.IntKind.wrap .i64 ((7 : Int) - (Int.tmod x5.1 (8 : Int))))) (some (Sum.inl ((Go.IntKind.wrap .i64 (x5.1 + (1 : Int))), ((ior .u64 (ishl .u64 x5.2.1 (1 : Int)) (Go.IntKind.wrap .u64 (iand .u8 (ishr .u8 (List.getD x.2.1 (Int.toNat (Go.IntKind.wrap .i64 (Int.tdiv x5.1 (8 : Int)))) (0 : Int)) (Go.IntKind.wrap .i64 ((7 : Int) - (Int.tmod x5.1 (8 : Int))))) (1 : Int)))), (Go.IntKind.wrap .i64 (x5.2.2 + (1 : Int))))))))))
 else
 (some (Sum.inr (x5.1, x5.2.1)))) (x4.2.1, ((0 : Int), (0 : Int)))) fun (y5 : (Int × Int)) =>
 gd ((((List.length x4.1) + (List.length (y5.2 :: ([] : List Int)))) * 8) ≤ 140737488355328) (gd (((List.length x4.1) + (List.length (y5.2 :: ([] : List Int)))) ≤ 140737488355328) (some (Sum.inl ((x4.1 ++ (y5.2 :: ([] : List Int))), (y5.1, (Go.IntKind.wrap .i64 (x4.2.2 + (1 : Int)))))))))))
 else
 (some (Sum.inr x4.1))) (([] : List Int), ((0 : Int), (0 : Int)))) fun (y4 : (List Int)) =>
 some (y4, ((0 : Int), ()))) (fun y3 =>
 some (y3.1, (y3.2, ()))) y2))

noncomputable def i75_95 : ID := aInl Try.prog (envOf [] [] [] []) ⟨[], []⟩ Try.f95
noncomputable def r75 : PDen [(false, (.sl (.int .i64))), (false, (.sl (.int .u8)))] → Option (PDen [(false, (.sl (.int .u64))), (false, (.int .i64))]) := fun x => afun Try.prog (envOf [(94, ⟨[(false, (.sl (.int .i64)))], [(false, (.int .i64)), (false, (.int .i64))], false, m94⟩)] [] [] [(95, i75_95)]) ⟨[(0, ⟨[.slot 9 (.d false (.int .i64) true)], [], [(some 0, []), (none, [.slot 4 (.d false (.sl (.int .u64)) true), .slot 5 (.d false (.int .i64) true)])], none⟩), (2, ⟨[.slot 10 (.v 125 (.int .u64) true), .slot 11 (.d false (.int .i64) true), .slot 44 (.d false (.int .i64) true)], [], [(some 2, [.slot 10 (.v 125 (.int .u64) true)])], none⟩), (4, ⟨[.slot 11 (.d false (.int .i64) true), .slot 14 (.d false (.int .u64) true), .slot 49 (.d false (.int .i64) true)], [], [(some 4, [.slot 11 (.d false (.int .i64) true), .slot 14 (.d false (.int .u64) true)])], none⟩)], []⟩ Try.f75 [(false, (.sl (.int .i64))), (false, (.sl (.int .u8)))] [(false, (.sl (.int .u64))), (false, (.int .i64))] false x
theorem r75_eq : r75 = m75 := by kernel_rfl

theorem i75_95_sound : i75_95.Sound Try.prog 95 := aInl_sound' (envOf_sound (CSs.nil) (HDs.nil) (IDs.nil)) Try.follows (f := 95) (fn := Try.f95) Try.func95 (by kernel_rfl) (by kernel_rfl)
theorem c75 : CS.Sound Try.prog 75 ⟨[(false, (.sl (.int .i64))), (false, (.sl (.int .u8)))], [(false, (.sl (.int .u64))), (false, (.int .i64))], false, m75⟩ := afun_sound' (envOf_sound (CSs.cons c94 (CSs.nil)) (HDs.nil) (IDs.cons i75_95_sound (IDs.nil))) rfl Try.follows (f := 75) (fn := Try.f75) Try.func75 (by kernel_rfl) (by kernel_rfl) r75_eq
end Go.Proofs.Ytefekolpfklhdaa
end

section
open Go Go.Proofs.AM
namespace Go.Proofs.Ytefekolpfklhdaa

noncomputable def m76 (x : Unit) : Option ((List Int) × Unit) :=
 some (((8 : Int) :: ((8 : Int) :: ((32 : Int) :: ((64 : Int) :: ((64 : Int) :: ([] : List Int)))))), ())

noncomputable def r76 : PDen [] → Option (PDen [(false, (.sl (.int .i64)))]) := fun x => afun Try.prog (envOf [] [] [] []) ⟨[], []⟩ Try.f76 [] [(false, (.sl (.int .i64)))] false x
theorem r76_eq : r76 = m76 := by kernel_rfl

theorem c76 : CS.Sound Try.prog 76 ⟨[], [(false, (.sl (.int .i64)))], false, m76⟩ := afun_sound' (envOf_sound (CSs.nil) (HDs.nil) (IDs.nil)) rfl Try.follows (f := 76) (fn := Try.f76) Try.func76 (by kernel_rfl) (by kernel_rfl) r76_eq
end Go.Proofs.Ytefekolpfklhdaa
end

section
open Go Go.Proofs.AM
namespace Go.Proofs.Ytefekolpfklhdaa

noncomputable def m79 (x : (List Int) × Unit) : Option (List Int) :=
 both (bif (decide ((((List.length x.1) : Nat) : Int) = (0 : Int))) then
 (some ([] : List Int))
 else
 (gd ((((List.length ([] : List Int)) + (List.length x.1)) * 1) ≤ 140737488355328) (gd (((List.length ([] : List Int)) + (List.length x.1)) ≤ 140737488355328) (some (([] : List Int) ++ x.1))))) (gd ((((List.length ([] : List Int)) + (List.length x.1)) * 1) ≤ 140737488355328) (gd (((List.length ([] : List Int)) + (List.length x.1)) ≤ 140737488355328) (some (([] : List Int) ++ x.1))))

noncomputable def r79 : PDen [(false, (.sl (.int .u8)))] → Option (List (K.den (.int .u8))) := fun x => afunO Try.prog (envOf [] [] [] []) ⟨[], []⟩ Try.f79 [(false, (.sl (.int .u8)))] 5 (.int .u8) false x
theorem r79_eq : r79 = m79 := by kernel_rfl

theorem c79 : OS.Sound Try.prog 79 ⟨[(false, (.sl (.int .u8)))], 5, (.int .u8), false, m79⟩ := afunO_sound' (envOf_sound (CSs.nil) (HDs.nil) (IDs.nil)) rfl Try.follows (f := 79) (fn := Try.f79) Try.func79 (by kernel_rfl) (by kernel_rfl) r79_eq
end Go.Proofs.Ytefekolpfklhdaa
end

section
open Go Go.Proofs.AM
namespace Go.Proofs.Ytefekolpfklhdaa

noncomputable def m57 (x : ((List Int) × (List Int)) × Unit) : Option ((Int × (Int × (Int × Int))) × ((List Int) × (Int × Unit))) :=
 Option.bind (m74 (((List.take ((Int.toNat (256 : Int)) - (Int.toNat (0 : Int))) (List.drop (Int.toNat (0 : Int)) x.1.1)) :: ((List.take ((Int.toNat (32 : Int)) - (Int.toNat (0 : Int))) (List.drop (Int.toNat (0 : Int)) x.1.2)) :: ([] : List (List Int)))), ())) fun (y1 : ((List Int) × Unit)) =>
 Option.bind (m73 (y1.1, ())) fun (y2 : (Int × Unit)) =>
 bif (!(decide (y2.1 = (0 : Int)))) then
 (some (((0 : Int), ((0 : Int), ((0 : Int), (0 : Int)))), (([] : List Int), (y2.1, ()))))
 else
 (Option.bind (m76 ()) fun (y3 : ((List Int) × Unit)) =>
 Option.bind (m75 (y3.1, ((List.take ((Int.toNat (22 : Int)) - (Int.toNat (0 : Int))) (List.drop (Int.toNat (0 : Int)) x.1.2)), ()))) fun (y4 : ((List Int) × (Int × Unit))) =>
 bif (!(decide (y4.2.1 = (0 : Int)))) then
 (some (((0 : Int), ((0 : Int), ((0 : Int), (0 : Int)))), (([] : List Int), ((30 : Int), ()))))
 else
 (gd ((1 : Int) < (((List.length y4.1) : Nat) : Int)) (bif (!(decide ((List.getD y4.1 (Int.toNat (1 : Int)) (0 : Int)) = (0 : Int)))) then
 (some (((0 : Int), ((0 : Int), ((0 : Int), (0 : Int)))), (([] : List Int), ((30 : Int), ()))))
 else
 (gd ((3 : Int) < (((List.length y4.1) : Nat) : Int)) (bif (decide ((List.getD y4.1 (Int.toNat (3 : Int)) (0 : Int)) > (1152921504606846976 : Int))) then
 (some (((0 : Int), ((0 : Int), ((0 : Int), (0 : Int)))), (([] : List Int), ((30 : Int), ()))))
 else
 (gd ((4 : Int) < (((List.length y4.1) : Nat) : Int)) (bif (decide ((List.getD y4.1 (Int.toNat (4 : Int)) (0 : Int)) > (1152921504606846976 : Int))) then
 (some (((0 : Int), ((0 : Int), ((0 : Int), (0 : Int)))), (([] : List Int), ((30 : Int), ()))))
 else
 (Option.bind (loopM (X := Int) (E := (Unit ⊕ Int)) (fun (x5 : Int) =>
 bif (decide (x5 < (((List.length (List.take ((Int.toNat (28 : Int)) - (Int.toNat (22 : Int))) (List.drop (Int.toNat (22 : Int)) x.1.2))) : Nat) : Int))) then
 (gd ((0 : Int) ≤ x5) (gd (x5 < (((List.length (List.take ((Int.toNat (28 : Int)) - (Int.toNat (22 : Int))) (List.drop (Int.toNat (22 : Int)) x.1.2))) : Nat) : Int)) (bif (!(decide ((List.getD (List.take ((Int.toNat (28 : Int)) - (Int.toNat (22 : Int))) (List.drop (Int.toNat (22 : Int)) x.1.2)) (Int.toNat x5) (0 : Int)) = (0 : Int)))) then
 (some (Sum.inr (Sum.inr x5)))
 else
 (some (Sum.inl (Go.IntKind.wrap .i64 (x5 + (1 : Int))))))))
 else
 (some (Sum.inr (Sum.inl ())))) (0 : Int)) fun (y5 : (Unit ⊕ Int)) =>
 Sum.elim (fun y6 =>
 bif (decide ((-1 : Int) ≥ (0 : Int))) then
 (some (((0 : Int), ((0 : Int), ((0 : Int), (0 : Int)))), (([] : List Int), ((30 : Int), ()))))
 else
 (gd ((0 : Int) < (((List.length y4.1) : Nat) : Int)) (gd ((2 : Int) < (((List.length y4.1) : Nat) : Int)) (gd ((3 : Int) < (((List.length y4.1) : Nat) : Int)) (gd ((4 : Int) < (((List.length y4.1) : Nat) : Int)) (Option.bind (m46 (((Go.IntKind.wrap .i64 (List.getD y4.1 (Int.toNat (0 : Int)) (0 : Int))), ((Go.IntKind.wrap .i64 (List.getD y4.1 (Int.toNat (2 : Int)) (0 : Int))), ((Go.IntKind.wrap .i64 (List.getD y4.1 (Int.toNat (3 : Int)) (0 : Int))), (Go.IntKind.wrap .i64 (List.getD y4.1 (Int.toNat (4 : Int)) (0 : Int)))))), ())) fun (y7 : (Int × Unit)) =>
 bif (!(decide (y7.1 = (0 : Int)))) then
 (some (((0 : Int), ((0 : Int), ((0 : Int), (0 : Int)))), (([] : List Int), (y7.1, ()))))
 else
 (Option.bind (m79 ((List.take ((Int.toNat (256 : Int)) - (Int.toNat (0 : Int))) (List.drop (Int.toNat (0 : Int)) x.1.1)), ())) fun (y8 : (List Int)) =>
 some (((Go.IntKind.wrap .i64 (List.getD y4.1 (Int.toNat (0 : Int)) (0 : Int))), ((Go.IntKind.wrap .i64 (List.getD y4.1 (Int.toNat (2 : Int)) (0 : Int))), ((Go.IntKind.wrap .i64 (List.getD y4.1 (Int.toNat (3 : Int)) (0 : Int))), (Go.IntKind.wrap .i64 (List.getD y4.1 (Int.toNat (4 : Int)) (0 : Int)))))), (y8, ((0 : Int), ())))))))))) (fun y6 =>
 bif (decide (y6 ≥ (0 : Int))) then
 (some (((0 : Int), ((0 : Int), ((0 : Int), (0 : Int)))), (([] : List Int), ((30 : Int), ()))))
 else
 (gd ((0 : Int) < (((List.length y4.1) : Nat) : Int)) (gd ((2 : Int) < (((List.length y4.1) : Nat) : Int)) (gd ((3 : Int) < (((List.length y4.1) : Nat) : Int)) (gd ((4 : Int) < (((List.length y4.1) : Nat) : Int)) (Option.bind (m46 (((Go.IntKind.wrap .i64 (List.getD y4.1 (Int.toNat (0 : Int)) (0 : Int))), ((Go.IntKind.wrap .i64 (List.getD y4.1 (Int.toNat (2 : Int)) (0 : Int))), ((Go.IntKind.wrap .i64 (List.getD y4.1 (Int.toNat (3 : Int)) (0 : Int))), (Go.IntKind.wrap .i64 (List.getD y4.1 (Int.toNat (4 : Int)) (0 : Int)))))), ())) fun (y7 : (Int × Unit)) =>
 bif (!(decide (y7.1 = (0 : Int)))) then
 (some (((0 : Int), ((0 : Int), ((0 : Int), (0 : Int)))), (([] : List Int), (y7.1, ()))))
 else
 (Option.bind (m79 ((List.take ((Int.toNat (256 : Int)) - (Int.toNat (0 : Int))) (List.drop (Int.toNat (0 : Int)) x.1.1)), ())) fun (y8 : (List Int)) =>
 some (((Go.IntKind.wrap .i64 (List.getD y4.1 (Int.toNat (0 : Int)) (0 : Int))), ((Go.IntKind.wrap .i64 (List.getD y4.1 (Int.toNat (2 : Int)) (0 : Int))), ((Go.IntKind.wrap .i64 (List.getD y4.1 (Int.toNat (3 : Int)) (0 : Int))), (Go.IntKind.wrap .i64 (List.getD y4.1 (Int.toNat (4 : Int)) (0 : Int)))))), (y8, ((0 : Int), ())))))))))) y5))))))))

noncomputable def i57_78 : ID := aInl Try.prog (envOf [] [] [] []) ⟨[], []⟩ Try.f78
noncomputable def i57_96 : ID := aInl Try.prog (envOf [] [] [] [(78, i57_78)]) ⟨[(3000, ⟨[.slot 8 (.d false (.int .i64) true)], [], [(some 0, []), (none, [.slot 4 (.d false (.int .i64) true)])], none⟩)], []⟩ Try.f96
noncomputable def i57_77 : ID := aInl Try.prog (envOf [] [] [] [(96, i57_96)]) ⟨[], []⟩ Try.f77
noncomputable def r57 : PDen [(true, (.pair (.ar 256 (.int .u8)) (.ar 32 (.int .u8))))] → Option (PDen [(true, (.pair (.int .i64) (.pair (.int .i64) (.pair (.int .i64) (.int .i64))))), (false, (.sl (.int .u8))), (false, (.int .i64))]) := fun x => afun Try.prog (envOf [(46, ⟨[(true, (.pair (.int .i64) (.pair (.int .i64) (.pair (.int .i64) (.int .i64)))))], [(false, (.int .i64))], false, m46⟩), (73, ⟨[(false, (.sl (.int .u8)))], [(false, (.int .i64))], false, m73⟩), (74, ⟨[(false, (.sl (.sl (.int .u8))))], [(false, (.sl (.int .u8)))], false, m74⟩), (75, ⟨[(false, (.sl (.int .i64))), (false, (.sl (.int .u8)))], [(false, (.sl (.int .u64))), (false, (.int .i64))], false, m75⟩), (76, ⟨[], [(false, (.sl (.int .i64)))], false, m76⟩)] [(79, OS.hd ⟨[(false, (.sl (.int .u8)))], 5, (.int .u8), false, m79⟩)] [] [(77, i57_77)]) ⟨[], []⟩ Try.f57 [(true, (.pair (.ar 256 (.int .u8)) (.ar 32 (.int .u8))))] [(true, (.pair (.int .i64) (.pair (.int .i64) (.pair (.int .i64) (.int .i64))))), (false, (.sl (.int .u8))), (false, (.int .i64))] false x
theorem r57_eq : r57 = m57 := by kernel_rfl

theorem i57_78_sound : i57_78.Sound Try.prog 78 := aInl_sound' (envOf_sound (CSs.nil) (HDs.nil) (IDs.nil)) Try.follows (f := 78) (fn := Try.f78) Try.func78 (by kernel_rfl) (by kernel_rfl)
theorem i57_96_sound : i57_96.Sound Try.prog 96 := aInl_sound' (envOf_sound (CSs.nil) (HDs.nil) (IDs.cons i57_78_sound (IDs.nil))) Try.follows (f := 96) (fn := Try.f96) Try.func96 (by kernel_rfl) (by kernel_rfl)
theorem i57_77_sound : i57_77.Sound Try.prog 77 := aInl_sound' (envOf_sound (CSs.nil) (HDs.nil) (IDs.cons i57_96_sound (IDs.nil))) Try.follows (f := 77) (fn := Try.f77) Try.func77 (by kernel_rfl) (by kernel_rfl)
theorem c57 : CS.Sound Try.prog 57 ⟨[(true, (.pair (.ar 256 (.int .u8)) (.ar 32 (.int .u8))))], [(true, (.pair (.int .i64) (.pair (.int .i64) (.pair (.int .i64) (.int .i64))))), (false, (.sl (.int .u8))), (false, (.int .i64))], false, m57⟩ := afun_sound' (envOf_sound (CSs.cons c46 (CSs.cons c73 (CSs.cons c74 (CSs.cons c75 (CSs.cons c76 (CSs.nil)))))) (HDs.cons (OS.Sound.hd c79) (HDs.nil)) (IDs.cons i57_77_sound (IDs.nil))) rfl Try.follows (f := 57) (fn := Try.f57) Try.func57 (by kernel_rfl) (by kernel_rfl) r57_eq
end Go.Proofs.Ytefekolpfklhdaa
end

section
open Go Go.Proofs.AM
namespace Go.Proofs.Ytefekolpfklhdaa

noncomputable def m8 (x : Int × (List ((List Int) × (List Int))) × Unit) : Option (Bool × Unit) :=
 Option.bind (m11 ()) fun (y1 : (Bool × Unit)) =>
 bif (!y1.1) then
 (some (false, ()))
 else
 (gd ((0 : Int) ≤ (if (8 : Int) < (((List.length x.2.1) : Nat) : Int) then (8 : Int) else (((List.length x.2.1) : Nat) : Int))) (gd ((if (8 : Int) < (((List.length x.2.1) : Nat) : Int) then (8 : Int) else (((List.length x.2.1) : Nat) : Int)) ≤ (((List.length x.2.1) : Nat) : Int)) (Option.bind (loopM (X := (Int × (List ((Int × Int) × (Int × (Int × (Int × Int))))))) (E := (List ((Int × Int) × (Int × (Int × (Int × Int)))))) (fun (x2 : (Int × (List ((Int × Int) × (Int × (Int × (Int × Int))))))) =>
 bif (decide (x2.1 < (((List.length (List.take ((Int.toNat (if (8 : Int) < (((List.length x.2.1) : Nat) : Int) then (8 : Int) else (((List.length x.2.1) : Nat) : Int))) - (Int.toNat (0 : Int))) (List.drop (Int.toNat (0 : Int)) x.2.1))) : Nat) : Int))) then
 (gd ((0 : Int) ≤ x2.1) (gd (x2.1 < (((List.length (List.take ((Int.toNat (if (8 : Int) < (((List.length x.2.1) : Nat) : Int) then (8 : Int) else (((List.length x.2.1) : Nat) : Int))) - (Int.toNat (0 : Int))) (List.drop (Int.toNat (0 : Int)) x.2.1))) : Nat) : Int)) (Option.bind (m57 ((List.getD (List.take ((Int.toNat (if (8 : Int) < (((List.length x.2.1) : Nat) : Int) then (8 : Int) else (((List.length x.2.1) : Nat) : Int))) - (Int.toNat (0 : Int))) (List.drop (Int.toNat (0 : Int)) x.2.1)) (Int.toNat x2.1) (([] : List Int), ([] : List Int))), ())) fun (y3 : ((Int × (Int × (Int × Int))) × ((List Int) × (Int × Unit)))) =>
 bif (decide (y3.2.2.1 = (0 : Int))) then
 (gd ((((List.length x2.2) + (List.length (((x.1, x2.1), y3.1) :: ([] : List ((Int × Int) × (Int × (Int × (Int × Int)))))))) * 48) ≤ 140737488355328) (gd (((List.length x2.2) + (List.length (((x.1, x2.1), y3.1) :: ([] : List ((Int × Int) × (Int × (Int × (Int × Int)))))))) ≤ 140737488355328) (some (Sum.inl ((Go.IntKind.wrap .i64 (x2.1 + (1 : Int))), (x2.2 ++ (((x.1, x2.1), y3.1) :: ([] : List ((Int × Int) × (Int × (Int × (Int × Int))))))))))))
 else
 (some (Sum.inl ((Go.IntKind.wrap .i64 (x2.1 + (1 : Int))), x2.2))))))
 else
 (some (Sum.inr x2.2))) ((0 : Int), ([] : List ((Int × Int) × (Int × (Int × (Int × Int))))))) fun (y2 : (List ((Int × Int) × (Int × (Int × (Int × Int)))))) =>
 Option.bind (m29 (x.1, ((List.take ((Int.toNat (if (8 : Int) < (((List.length x.2.1) : Nat) : Int) then (8 : Int) else (((List.length x.2.1) : Nat) : Int))) - (Int.toNat (0 : Int))) (List.drop (Int.toNat (0 : Int)) x.2.1)), ()))) fun (y3 : ((List ((Int × Int) × (Int × (Int × (Int × Int))))) × Unit)) =>
 Option.bind (m28 (y2, (y3.1, ()))) fun (y4 : (Bool × Unit)) =>
 some (y4.1, ()))))

noncomputable def i8_27 : ID := aInl Try.prog (envOf [] [] [] []) ⟨[], []⟩ Try.f27
noncomputable def i8_56 : ID := aInl Try.prog (envOf [(57, ⟨[(true, (.pair (.ar 256 (.int .u8)) (.ar 32 (.int .u8))))], [(true, (.pair (.int .i64) (.pair (.int .i64) (.pair (.int .i64) (.int .i64))))), (false, (.sl (.int .u8))), (false, (.int .i64))], false, m57⟩)] [] [] []) ⟨[(6000, ⟨[.slot 11 (.d false (.int .i64) true), .cell 2 0 (.v 40 (.pair (.pair (.int .i64) (.int .i64)) (.pair (.int .i64) (.pair (.int .i64) (.pair (.int .i64) (.int .i64))))) true)], [], [(some 0, [.cell 2 0 (.v 40 (.pair (.pair (.int .i64) (.int .i64)) (.pair (.int .i64) (.pair (.int .i64) (.pair (.int .i64) (.int .i64))))) true)])], none⟩)], []⟩ Try.f56
noncomputable def r8 : PDen [(false, (.int .i64)), (false, (.sl (.pair (.ar 256 (.int .u8)) (.ar 32 (.int .u8)))))] → Option (PDen [(false, .bool)]) := fun x => afun Try.prog (envOf [(11, ⟨[], [(false, .bool)], false, m11⟩), (28, ⟨[(false, (.sl (.pair (.pair (.int .i64) (.int .i64)) (.pair (.int .i64) (.pair (.int .i64) (.pair (.int .i64) (.int .i64))))))), (false, (.sl (.pair (.pair (.int .i64) (.int .i64)) (.pair (.int .i64) (.pair (.int .i64) (.pair (.int .i64) (.int .i64)))))))], [(false, .bool)], false, m28⟩), (29, ⟨[(false, (.int .i64)), (false, (.sl (.pair (.ar 256 (.int .u8)) (.ar 32 (.int .u8)))))], [(false, (.sl (.pair (.pair (.int .i64) (.int .i64)) (.pair (.int .i64) (.pair (.int .i64) (.pair (.int .i64) (.int .i64)))))))], false, m29⟩)] [] [] [(27, i8_27), (56, i8_56)]) ⟨[], []⟩ Try.f8 [(false, (.int .i64)), (false, (.sl (.pair (.ar 256 (.int .u8)) (.ar 32 (.int .u8)))))] [(false, .bool)] false x
theorem r8_eq : r8 = m8 := by kernel_rfl

theorem i8_27_sound : i8_27.Sound Try.prog 27 := aInl_sound' (envOf_sound (CSs.nil) (HDs.nil) (IDs.nil)) Try.follows (f := 27) (fn := Try.f27) Try.func27 (by kernel_rfl) (by kernel_rfl)
theorem i8_56_sound : i8_56.Sound Try.prog 56 := aInl_sound' (envOf_sound (CSs.cons c57 (CSs.nil)) (HDs.nil) (IDs.nil)) Try.follows (f := 56) (fn := Try.f56) Try.func56 (by kernel_rfl) (by kernel_rfl)
theorem c8 : CS.Sound Try.prog 8 ⟨[(false, (.int .i64)), (false, (.sl (.pair (.ar 256 (.int .u8)) (.ar 32 (.int .u8)))))], [(false, .bool)], false, m8⟩ := afun_sound' (envOf_sound (CSs.cons c11 (CSs.cons c28 (CSs.cons c29 (CSs.nil)))) (HDs.nil) (IDs.cons i8_27_sound (IDs.cons i8_56_sound (IDs.nil)))) rfl Try.follows (f := 8) (fn := Try.f8) Try.func8 (by kernel_rfl) (by kernel_rfl) r8_eq
end Go.Proofs.Ytefekolpfklhdaa
end

section
namespace Go.Proofs.Ytefekolpfklhdaa
open Go Go.Proofs.AM

def Bytes (l : List Int) : Prop := ∀ x ∈ l, 0 ≤ x ∧ x < 256

theorem take_snoc {A : Type} (l : List A) (i : Nat) (h : i < l.length) (z : A) : l.take (i + 1) = l.take i ++ [l.getD i z] := by
  rw [List.take_add_one, List.getD_eq_getElem?_getD, List.getElem?_eq_getElem h]; rfl

theorem getD_mem {A : Type} {l : List A} {i : Nat} {z : A} (h : i < l.length) : l.getD i z ∈ l := by
  rw [List.getD_eq_getElem?_getD, List.getElem?_eq_getElem h]; simp

theorem wsucc {i : Nat} (h : i < 4000000000000000000) : IntKind.wrap .i64 ((i : Int) + 1) = ((i + 1 : Nat) : Int) := by
  rw [wrap64 (by omega) (by omega)]; push_cast; rfl

theorem bt_all : ∀ (x : Fin 256) (j : Fin 8), iand .u8 (ishr .u8 ((x.val : Nat) : Int) ((j.val : Nat) : Int)) 1 = ((x.val / 2 ^ j.val % 2 : Nat) : Int) := by decide +kernel

theorem bt_eq {x : Int} (h0 : 0 ≤ x) (h1 : x < 256) {j : Nat} (hj : j < 8) : iand .u8 (ishr .u8 x (j : Int)) 1 = ((x.toNat / 2 ^ j % 2 : Nat) : Int) := by
  obtain ⟨n, rfl⟩ : ∃ n : Nat, x = n := ⟨x.toNat, by omega⟩
  exact bt_all ⟨n, by omega⟩ ⟨j, hj⟩

def zb (x : Int) : Nat → Nat
  | 0 => 0
  | j + 1 => if iand .u8 (ishr .u8 x (j : Int)) 1 = 0 then zb x j + 1 else zb x j

def Zn (l : List Int) : Nat → Nat
  | 0 => 0
  | i + 1 => Zn l i + zb (l.getD i 0) 8

theorem zb_le (x : Int) : ∀ j, zb x j ≤ j
  | 0 => Nat.le_refl _
  | j + 1 => by unfold zb; have := zb_le x j; split <;> omega

theorem Zn_le (l : List Int) : ∀ i, Zn l i ≤ 8 * i
  | 0 => Nat.le_refl _
  | i + 1 => by unfold Zn; have := Zn_le l i; have := zb_le (l.getD i 0) 8; omega

theorem zb_255 : ∀ x : Fin 256, (zb ((x.val : Nat) : Int) 8 = 0 ↔ x.val = 255) := by decide +kernel

theorem ok_eq {A : Type} {o : Option A} {r : A} (h : Ok o (fun x => x = r)) : o = some r := by
  obtain ⟨x, e, h⟩ := h; rw [e, h]

theorem m90_eq (l : List Int) (hl : l.length ≤ 100000) : m90 (l, ()) = some (((Zn l l.length : Nat) : Int), ()) := by
  apply ok_eq
  unfold m90
  dsimp only
  refine Ok.bind (S := fun r => r = ((Zn l l.length : Nat) : Int)) ?_ (fun r hr => Ok.some (by rw [hr]))
  refine Ok.loop l.length (fun i x => x = (((Zn l i : Nat) : Int), (i : Int))) rfl ?_
  rintro i x hi rfl
  have hz := Zn_le l i
  refine Ok.cond (fun hc => ?_) (fun hc => ?_)
  rotate_left
  · simp only at hc
    obtain rfl : i = l.length := by omega
    exact Ok.inr rfl
  simp only at hc
  refine Ok.gd (by simp only; omega) (Ok.gd hc (Ok.bind (S := fun r => r = ((Zn l i + zb (l.getD i 0) 8 : Nat) : Int)) ?_ (fun r hr => Ok.inl ⟨by omega, ?_⟩)))
  rotate_left
  · rw [hr, wsucc (by omega)]; rfl
  refine Ok.loop 8 (fun j x => x = (((Zn l i + zb (l.getD i 0) j : Nat) : Int), (j : Int))) rfl ?_
  rintro j x hj rfl
  have hb := zb_le (l.getD i 0) j
  refine Ok.cond (fun hc => ?_) (fun hc => ?_)
  rotate_left
  · simp only at hc
    obtain rfl : j = 8 := by omega
    exact Ok.inr rfl
  simp only at hc
  refine Ok.gd (by simp only; omega) (Ok.cond (fun e => Ok.inl ⟨by omega, ?_⟩) (fun e => Ok.inl ⟨by omega, ?_⟩))
  · simp only [Int.toNat_natCast] at e ⊢
    rw [wsucc (by omega), wsucc (by omega), zb, if_pos e]; rfl
  · simp only [Int.toNat_natCast] at e ⊢
    rw [wsucc (by omega), zb, if_neg e]

theorem m105_eq (l : List Int) (hl : l.length ≤ 100000) : m105 (l, ()) = some (((Zn l l.length : Nat) : Int), ()) := by
  apply ok_eq
  unfold m105
  dsimp only
  refine Ok.bind (S := fun r => r = ((Zn l l.length : Nat) : Int)) ?_ (fun r hr => Ok.some (by rw [hr]))
  refine Ok.loop l.length (fun i x => x = (((Zn l i : Nat) : Int), (i : Int))) rfl ?_
  rintro i x hi rfl
  have hz := Zn_le l i
  refine Ok.cond (fun hc => ?_) (fun hc => ?_)
  rotate_left
  · simp only at hc
    obtain rfl : i = l.length := by omega
    exact Ok.inr rfl
  simp only at hc
  refine Ok.bind (S := fun r => r = ((Zn l i + zb (l.getD i 0) 8 : Nat) : Int)) ?_ (fun r hr => Ok.inl ⟨by omega, ?_⟩)
  rotate_left
  · rw [hr, wsucc (by omega)]; rfl
  refine Ok.loop 8 (fun j x => x = (((Zn l i + zb (l.getD i 0) j : Nat) : Int), (j : Int))) rfl ?_
  rintro j x hj rfl
  have hb := zb_le (l.getD i 0) j
  refine Ok.cond (fun hc => ?_) (fun hc => ?_)
  rotate_left
  · simp only at hc
    obtain rfl : j = 8 := by omega
    exact Ok.inr rfl
  simp only at hc
  have hwj : IntKind.wrap .u64 (j : Int) = (j : Int) := wrapU64 (by omega) (by omega)
  refine Ok.gd (by simp only; omega) (Ok.gd (by simp only; omega) (Ok.gd (by simp only [hwj]; omega) (Ok.cond (fun e => Ok.inl ⟨by omega, ?_⟩) (fun e => Ok.inl ⟨by omega, ?_⟩))))
  · simp only [Int.toNat_natCast, hwj] at e ⊢
    rw [wsucc (by omega), wsucc (by omega), zb, if_pos e]; rfl
  · simp only [Int.toNat_natCast, hwj] at e ⊢
    rw [wsucc (by omega), zb, if_neg e]

theorem Zn_zero (l : List Int) (hb : Bytes l) : ∀ n, n ≤ l.length → (Zn l n = 0 ↔ ∀ i, i < n → l.getD i 0 = 255)
  | 0, _ => by simp [Zn]
  | n + 1, hn => by
    have ih := Zn_zero l hb n (by omega)
    obtain ⟨h0, h1⟩ := hb _ (getD_mem (z := 0) (show n < l.length by omega))
    generalize hx : l.getD n 0 = x at h0 h1
    obtain ⟨m, rfl⟩ : ∃ m : Nat, x = m := ⟨x.toNat, by omega⟩
    have hz := zb_255 ⟨m, by omega⟩
    simp only at hz
    unfold Zn
    rw [hx]
    constructor
    · intro h i hi
      by_cases e : i = n
      · subst e; rw [hx]; have := hz.1 (by omega); omega
      · exact ih.1 (by omega) i (by omega)
    · intro h
      have h2 := ih.2 fun i hi => h i (by omega)
      have h3 := h n (by omega)
      rw [hx] at h3
      have := hz.2 (by omega)
      omega

theorem m104_eq (l : List Int) (hl : l.length ≤ 100000) : Ok (m104 (l, ())) (fun r => r.1 = true ↔ ∀ i, i < l.length → l.getD i 0 = 255) := by
  unfold m104
  dsimp only
  refine Ok.bind (S := fun r => (r = .inl () ∧ ∀ i, i < l.length → l.getD i 0 = 255) ∨ (r = .inr false ∧ ¬ ∀ i, i < l.length → l.getD i 0 = 255)) ?_ ?_
  · refine Ok.loop l.length (fun i x => x = (i : Int) ∧ ∀ j, j < i → l.getD j 0 = 255) ⟨rfl, fun j hj => by omega⟩ ?_
    rintro i x hi ⟨rfl, h⟩
    refine Ok.cond (fun hc => ?_) (fun hc => Ok.inr (.inl ⟨rfl, fun j hj => h j (by omega)⟩))
    refine Ok.gd (by omega) (Ok.gd hc (Ok.ncond (fun hne => Ok.inr (.inr ⟨rfl, fun hh => hne ?_⟩)) (fun he => Ok.inl ⟨by omega, wsucc (by omega), fun j hj => ?_⟩)))
    · rw [Int.toNat_natCast]; exact hh i (by omega)
    · rw [Int.toNat_natCast] at he
      by_cases e : j = i
      · subst e; exact he
      · exact h j (by omega)
  · rintro r (⟨rfl, h⟩ | ⟨rfl, h⟩)
    · exact Ok.some ⟨fun _ => h, fun _ => rfl⟩
    · exact Ok.some ⟨fun e => by simp at e, fun e => absurd e h⟩

theorem ext_getD {l m : List Int} (hl : l.length = m.length) (h : ∀ i, i < l.length → l.getD i 0 = m.getD i 0) : l = m := by
  apply List.ext_getElem hl
  intro i h1 h2
  have := h i h1
  rw [List.getD_eq_getElem?_getD, List.getD_eq_getElem?_getD, List.getElem?_eq_getElem h1, List.getElem?_eq_getElem h2] at this
  simpa using this

theorem m91_eq (l m : List Int) (hl : l.length ≤ 100000) : Ok (m91 (l, (m, ()))) (fun r => r.1 = true ↔ l = m) := by
  unfold m91
  dsimp only
  refine Ok.ncond (fun hne => Ok.some ⟨fun e => by simp at e, fun e => ?_⟩) (fun he => ?_)
  · subst e; exact absurd rfl hne
  have hlen : l.length = m.length := by omega
  refine Ok.bind (S := fun r => (r = .inl () ∧ l = m) ∨ (r = .inr false ∧ l ≠ m)) ?_ ?_
  · refine Ok.loop l.length (fun i x => x = (i : Int) ∧ ∀ j, j < i → l.getD j 0 = m.getD j 0) ⟨rfl, fun j hj => by omega⟩ ?_
    rintro i x hi ⟨rfl, h⟩
    refine Ok.cond (fun hc => ?_) (fun hc => Ok.inr (.inl ⟨rfl, ext_getD hlen fun j hj => h j (by omega)⟩))
    refine Ok.gd (by omega) (Ok.gd hc (Ok.gd (by omega) (Ok.gd (by omega) (Ok.ncond (fun hne => Ok.inr (.inr ⟨rfl, fun hh => hne (by rw [hh])⟩)) (fun he => Ok.inl ⟨by omega, wsucc (by omega), fun j hj => ?_⟩)))))
    rw [Int.toNat_natCast] at he
    by_cases e : j = i
    · subst e; exact he
    · exact h j (by omega)
  · rintro r (⟨rfl, h⟩ | ⟨rfl, h⟩)
    · exact Ok.some ⟨fun _ => h, fun _ => rfl⟩
    · exact Ok.some ⟨fun e => by simp at e, fun e => absurd e h⟩
end Go.Proofs.Ytefekolpfklhdaa
end

section
namespace Go.Proofs.Ytefekolpfklhdaa
open Go Go.Proofs.AM

theorem ior64 (n a b : Nat) (hb : b < 2 ^ n) (h : 2 ^ n * a + b < 9223372036854775808) : ior .i64 ((2 ^ n * a : Nat) : Int) (b : Int) = ((2 ^ n * a + b : Nat) : Int) := by
  unfold ior
  have e1 : (BitVec.ofInt IntKind.i64.bits ((2 ^ n * a : Nat) : Int) ||| BitVec.ofInt IntKind.i64.bits (b : Int)).toNat = 2 ^ n * a + b := by
    show (BitVec.ofInt 64 ((2 ^ n * a : Nat) : Int) ||| BitVec.ofInt 64 (b : Int)).toNat = _
    rw [BitVec.toNat_or, BitVec.toNat_ofInt, BitVec.toNat_ofInt]
    rw [Nat.two_pow_add_eq_or_of_lt hb]
    congr 1
    · omega
    · omega
  rw [e1, wrap64 (by omega) (by omega)]

theorem sum_all : ∀ z : Fin 2300, Go.IntKind.wrap .u8 (ishr .i64 ((z.val : Nat) : Int) 24) = 0 ∧ Go.IntKind.wrap .u8 (ishr .i64 ((z.val : Nat) : Int) 16) = 0 ∧
    Go.IntKind.wrap .u8 (ishr .i64 ((z.val : Nat) : Int) 8) = ((z.val / 256 : Nat) : Int) ∧ Go.IntKind.wrap .u8 ((z.val : Nat) : Int) = ((z.val % 256 : Nat) : Int) := by decide +kernel

theorem num_eq {a b c d : Int} (a0 : 0 ≤ a ∧ a < 256) (b0 : 0 ≤ b ∧ b < 256) (c0 : 0 ≤ c ∧ c < 256) (d0 : 0 ≤ d ∧ d < 256) :
    ior .i64 (ior .i64 (ior .i64 (ishl .i64 (IntKind.wrap .i64 a) 24) (ishl .i64 (IntKind.wrap .i64 b) 16)) (ishl .i64 (IntKind.wrap .i64 c) 8)) (IntKind.wrap .i64 d) = a * 16777216 + b * 65536 + c * 256 + d := by
  obtain ⟨a, rfl⟩ : ∃ n : Nat, a = n := ⟨a.toNat, by omega⟩
  obtain ⟨b, rfl⟩ : ∃ n : Nat, b = n := ⟨b.toNat, by omega⟩
  obtain ⟨c, rfl⟩ : ∃ n : Nat, c = n := ⟨c.toNat, by omega⟩
  obtain ⟨d, rfl⟩ : ∃ n : Nat, d = n := ⟨d.toNat, by omega⟩
  have sh : ∀ (x : Nat) (k : Nat) (p : Nat), p = 2 ^ k → x < 256 → k ≤ 24 → ishl .i64 (IntKind.wrap .i64 (x : Int)) (k : Int) = ((2 ^ k * x : Nat) : Int) := by
    intro x k p hp hx hk
    unfold ishl
    rw [wrap64 (n := (x : Int)) (by omega) (by omega)]
    have hb : IntKind.i64.bits = 64 := rfl
    rw [hb, Int.toNat_natCast, Nat.min_eq_left (by omega)]
    have hp2 : 2 ^ k ≤ 2 ^ 24 := Nat.pow_le_pow_right (by omega) hk
    have hm : 2 ^ k * x ≤ 2 ^ 24 * 255 := Nat.mul_le_mul hp2 (by omega)
    rw [show ((x : Int) * 2 ^ k) = ((2 ^ k * x : Nat) : Int) by rw [Nat.mul_comm]; push_cast; rfl]
    exact wrap64 (by omega) (by omega)
  have e24 := sh a 24 _ rfl (by omega) (by omega)
  have e16 := sh b 16 _ rfl (by omega) (by omega)
  have e8 := sh c 8 _ rfl (by omega) (by omega)
  have f24 : ((24 : Nat) : Int) = 24 := rfl
  have f16 : ((16 : Nat) : Int) = 16 := rfl
  have f8 : ((8 : Nat) : Int) = 8 := rfl
  rw [f24] at e24
  rw [f16] at e16
  rw [f8] at e8
  rw [e24, e16, e8, ior64 24 a (2 ^ 16 * b) (by omega) (by omega), show 2 ^ 24 * a + 2 ^ 16 * b = 2 ^ 16 * (256 * a + b) by omega, ior64 16 (256 * a + b) (2 ^ 8 * c) (by omega) (by omega),
    show 2 ^ 16 * (256 * a + b) + 2 ^ 8 * c = 2 ^ 8 * (65536 * a + 256 * b + c) by omega, wrap64 (n := (d : Int)) (by omega) (by omega), ior64 8 (65536 * a + 256 * b + c) d (by omega) (by omega)]
  omega

section
open Classical
noncomputable def stv (l : List Int) : Int :=
  if ∀ i, i < l.length → l.getD i 0 = 255 then 10
  else if l.getD 284 0 * 16777216 + l.getD 285 0 * 65536 + l.getD 286 0 * 256 + l.getD 287 0 = ((Zn (l.take 284) 284 : Nat) : Int) then 0 else 11
end

theorem take_bytes {l : List Int} (h : Bytes l) (n : Nat) : Bytes (l.take n) := fun x hx => h x (List.mem_of_mem_take hx)

theorem m97_eq (l : List Int) (hl : l.length = 288) (hb : Bytes l) : Ok (m97 (l, ())) (fun r => r = (stv l, ())) := by
  unfold m97
  dsimp only
  refine Ok.cond (fun _ => ?_) (fun h => absurd (by omega) h)
  refine Ok.bind (m104_eq l (by omega)) fun r hr => ?_
  refine Ok.condb (fun e => Ok.some ?_) (fun e => ?_)
  · unfold stv; rw [if_pos (hr.1 e)]
  have hna : ¬ ∀ i, i < l.length → l.getD i 0 = 255 := fun h => by have := hr.2 h; rw [e] at this; simp at this
  have hw : IntKind.wrap .i64 (((l.length : Nat) : Int) - 4) = 284 := by rw [hl]; rfl
  have hw1 : IntKind.wrap .i64 ((284 : Int) + 1) = 285 := rfl
  have hw2 : IntKind.wrap .i64 ((284 : Int) + 2) = 286 := rfl
  have hw3 : IntKind.wrap .i64 ((284 : Int) + 3) = 287 := rfl
  refine Ok.cond (fun h => absurd h (by omega)) (fun _ => Ok.cond (fun h => absurd h (by omega)) (fun _ => ?_))
  simp only [hw, hw1, hw2, hw3]
  refine Ok.gd (by omega) (Ok.gd (by omega) (Ok.gd (by omega) (Ok.gd (by omega) (Ok.gd (by omega) (Ok.gd (by omega) (Ok.gd (by omega) (Ok.gd (by omega) (Ok.gd (by omega) (Ok.gd (by omega) ?_)))))))))
  have ht : List.take (Int.toNat 284 - Int.toNat 0) (List.drop (Int.toNat 0) l) = l.take 284 := rfl
  have htl : (l.take 284).length = 284 := by rw [List.length_take]; omega
  rw [ht, m105_eq _ (by omega), htl]
  simp only [Option.bind_some]
  have g : ∀ i, i < 288 → 0 ≤ l.getD i 0 ∧ l.getD i 0 < 256 := fun i hi => hb _ (getD_mem (by omega))
  have hn := num_eq (g 284 (by omega)) (g 285 (by omega)) (g 286 (by omega)) (g 287 (by omega))
  refine Ok.ncond (fun hne => Ok.some ?_) (fun he => Ok.some ?_)
  · unfold stv
    rw [if_neg hna, if_neg (fun h => hne (by rw [← h]; exact hn))]
  · unfold stv
    rw [if_neg hna, if_pos (by rw [← he]; exact hn.symm)]

theorem drop_four (l : List Int) (hl : l.length = 288) : l.drop 284 = [l.getD 284 0, l.getD 285 0, l.getD 286 0, l.getD 287 0] := by
  apply ext_getD
  · simp [hl]
  · intro i hi
    have hi : i < 4 := by simp [hl] at hi; omega
    have e : (l.drop 284).getD i 0 = l.getD (284 + i) 0 := by
      rw [List.getD_eq_getElem?_getD, List.getElem?_drop, ← List.getD_eq_getElem?_getD]
    rw [e]
    rcases i with _ | _ | _ | _ | i
    · rfl
    · rfl
    · rfl
    · rfl
    · omega

theorem m73_eq (l : List Int) (hl : l.length = 288) (hb : Bytes l) : Ok (m73 (l, ())) (fun r => r = (stv l, ())) := by
  unfold m73
  dsimp only
  refine Ok.cond (fun _ => ?_) (fun h => absurd (by omega) h)
  rw [m90_eq l (by omega)]
  simp only [Option.bind_some]
  have hz := Zn_zero l hb l.length (Nat.le_refl _)
  refine Ok.cond (fun e => Ok.some ?_) (fun e => ?_)
  · unfold stv; rw [if_pos (hz.1 (by omega))]
  have hna : ¬ ∀ i, i < l.length → l.getD i 0 = 255 := fun h => e (by have := hz.2 h; omega)
  have hw : IntKind.wrap .i64 (((l.length : Nat) : Int) - 4) = 284 := by rw [hl]; rfl
  simp only [hw]
  refine Ok.cond (fun h => absurd h (by omega)) (fun _ => Ok.cond (fun h => absurd h (by omega)) (fun _ => ?_))
  refine Ok.gd (by omega) (Ok.gd (by omega) (Ok.gd (by omega) (Ok.gd (by omega) (Ok.gd (by omega) ?_))))
  have ht : List.take (Int.toNat 284 - Int.toNat 0) (List.drop (Int.toNat 0) l) = l.take 284 := rfl
  have htl : (l.take 284).length = 284 := by rw [List.length_take]; omega
  have hd : List.take (Int.toNat ((l.length : Nat) : Int) - Int.toNat 284) (List.drop (Int.toNat 284) l) = l.drop 284 := by
    rw [Int.toNat_natCast]
    exact List.take_of_length_le (by simp)
  rw [ht, hd]
  have hzl := Zn_le (l.take 284) 284
  have hm92 : m92 (l.take 284, ()) = some ([0, 0, ((Zn (l.take 284) 284 / 256 : Nat) : Int), ((Zn (l.take 284) 284 % 256 : Nat) : Int)], ()) := by
    unfold m92
    rw [m90_eq _ (by rw [htl]; omega), htl]
    obtain ⟨s1, s2, s3, s4⟩ := sum_all ⟨Zn (l.take 284) 284, by omega⟩
    simp only at s1 s2 s3 s4
    simp only [Option.bind_some, s1, s2, s3, s4]
  rw [hm92]
  simp only [Option.bind_some]
  have g : ∀ i, i < 288 → 0 ≤ l.getD i 0 ∧ l.getD i 0 < 256 := fun i hi => hb _ (getD_mem (by omega))
  have g1 := g 284 (by omega)
  have g2 := g 285 (by omega)
  have g3 := g 286 (by omega)
  have g4 := g 287 (by omega)
  refine Ok.bind (m91_eq (l.drop 284) _ (by simp; omega)) fun r hr => ?_
  rw [drop_four l hl] at hr
  simp only [List.cons.injEq, and_true] at hr
  refine Ok.condb (fun e => Ok.some ?_) (fun e => Ok.some ?_)
  · have hne : ¬ r.1 = true := by simpa using e
    unfold stv
    rw [if_neg hna, if_neg (fun h => hne (hr.2 ⟨by omega, by omega, by omega, by omega⟩))]
  · have he : r.1 = true := by simpa using e
    obtain ⟨h1, h2, h3, h4⟩ := hr.1 he
    unfold stv
    rw [if_neg hna, if_pos (by omega)]

theorem m80_eq (l : List Int) (hl : l.length = 288) (hb : Bytes l) : m80 (l, ()) = some (if stv l = 0 then (l.take 284, (0, ())) else ([], (stv l, ()))) := by
  unfold m80
  obtain ⟨r, e, hr⟩ := m97_eq l hl hb
  subst hr
  rw [e]
  have hw : IntKind.wrap .i64 (((l.length : Nat) : Int) - 4) = 284 := by rw [hl]; rfl
  simp only [Option.bind_some, hw]
  have ht : List.take (Int.toNat 284 - Int.toNat 0) (List.drop (Int.toNat 0) l) = l.take 284 := rfl
  rw [ht]
  have htl : (l.take 284).length = 284 := by rw [List.length_take]; omega
  by_cases h : stv l = 0
  · rw [if_pos h, h]
    simp only [decide_true, Bool.not_true, cond_false]
    rw [gd_pos (by omega), gd_pos (by omega), gd_pos (by rw [htl]; decide), gd_pos (by rw [htl]; decide)]
    rfl
  · rw [if_neg h]
    simp [h]

theorem m81_eq (d o : List Int) (hd : d.length = 256) (ho : o.length = 32) : m81 ((d, o), ()) = some (d ++ o, ()) := by
  unfold m81
  have e1 : List.take (Int.toNat 256 - Int.toNat 0) (List.drop (Int.toNat 0) d) = d := by
    show List.take 256 d = d
    exact List.take_of_length_le (by omega)
  have e2 : List.take (Int.toNat 32 - Int.toNat 0) (List.drop (Int.toNat 0) o) = o := by
    show List.take 32 o = o
    exact List.take_of_length_le (by omega)
  simp only [e1, e2, List.nil_append, List.length_nil, Nat.zero_add]
  rw [gd_pos (by omega), gd_pos (by omega), gd_pos (by omega), gd_pos (by omega)]

theorem m74_eq (d o : List Int) (hd : d.length = 256) (ho : o.length = 32) : m74 ([d, o], ()) = some (d ++ o, ()) := by
  apply ok_eq
  unfold m74
  dsimp only
  have hw1 : IntKind.wrap .i64 ((0 : Int) + ((d.length : Nat) : Int)) = 256 := by rw [hd]; rfl
  have hw2 : IntKind.wrap .i64 ((256 : Int) + ((o.length : Nat) : Int)) = 288 := by rw [ho]; rfl
  refine Ok.bind (S := fun r => r = (288 : Int)) ?_ (fun r hr => ?_)
  · refine Ok.loop 2 (fun i x => (i = 0 ∧ x = ((0 : Int), (0 : Int))) ∨ (i = 1 ∧ x = (256, 1)) ∨ (i = 2 ∧ x = (288, 2))) (.inl ⟨rfl, rfl⟩) ?_
    rintro i x hi (⟨rfl, rfl⟩ | ⟨rfl, rfl⟩ | ⟨rfl, rfl⟩)
    · refine Ok.cond (fun _ => Ok.gd (by simp) (Ok.gd (by simp) (Ok.cond (fun h => absurd h ?_) (fun _ => Ok.inl ⟨by omega, .inr (.inl ⟨rfl, ?_⟩)⟩)))) (fun h => absurd (by simp) h)
      · show ¬ IntKind.wrap .i64 ((0 : Int) + ((d.length : Nat) : Int)) < 0
        rw [hw1]; decide
      · show (IntKind.wrap .i64 ((0 : Int) + ((d.length : Nat) : Int)), _) = _
        rw [hw1]; rfl
    · refine Ok.cond (fun _ => Ok.gd (by simp) (Ok.gd (by simp) (Ok.cond (fun h => absurd h ?_) (fun _ => Ok.inl ⟨by omega, .inr (.inr ⟨rfl, ?_⟩)⟩)))) (fun h => absurd (by simp) h)
      · show ¬ IntKind.wrap .i64 ((256 : Int) + ((o.length : Nat) : Int)) < 0
        rw [hw2]; decide
      · show (IntKind.wrap .i64 ((256 : Int) + ((o.length : Nat) : Int)), _) = _
        rw [hw2]; rfl
    · exact Ok.cond (fun h => absurd h (by simp)) (fun _ => Ok.inr rfl)
  subst hr
  refine Ok.bind (S := fun _ => True) (Ok.gd (by omega) (Ok.gd (by omega) (Ok.gd (by omega) (Ok.some trivial)))) (fun r _ => ?_)
  refine Ok.bind (S := fun r => r = d ++ o) ?_ (fun r hr => Ok.some (by rw [hr]))
  refine Ok.loop 2 (fun i x => (i = 0 ∧ x = (([] : List Int), (0 : Int))) ∨ (i = 1 ∧ x = (d, 1)) ∨ (i = 2 ∧ x = (d ++ o, 2))) (.inl ⟨rfl, rfl⟩) ?_
  rintro i x hi (⟨rfl, rfl⟩ | ⟨rfl, rfl⟩ | ⟨rfl, rfl⟩)
  · refine Ok.cond (fun _ => Ok.gd (by simp) (Ok.gd (by simp) (Ok.gd ?_ (Ok.gd ?_ (Ok.inl ⟨by omega, .inr (.inl ⟨rfl, rfl⟩)⟩))))) (fun h => absurd (by simp) h)
    · show (0 + d.length) * 1 ≤ _
      omega
    · show 0 + d.length ≤ _
      omega
  · refine Ok.cond (fun _ => Ok.gd (by simp) (Ok.gd (by simp) (Ok.gd ?_ (Ok.gd ?_ (Ok.inl ⟨by omega, .inr (.inr ⟨rfl, rfl⟩)⟩))))) (fun h => absurd (by simp) h)
    · show (d.length + o.length) * 1 ≤ _
      omega
    · show d.length + o.length ≤ _
      omega
  · exact Ok.cond (fun h => absurd h (by simp)) (fun _ => Ok.inr rfl)
end Go.Proofs.Ytefekolpfklhdaa
end

section
namespace Go.Proofs.Ytefekolpfklhdaa
open Go Go.Proofs.AM

def bit (b : List Int) (p : Nat) : Nat := (b.getD (p / 8) 0).toNat / 2 ^ (7 - p % 8) % 2

def un (b : List Int) (at_ : Nat) : Nat → Nat
  | 0 => 0
  | k + 1 => 2 * un b at_ k + bit b (at_ + k)

theorem bit_lt (b : List Int) (p : Nat) : bit b p < 2 := Nat.mod_lt _ (by omega)

theorem un_lt (b : List Int) (at_ : Nat) : ∀ k, un b at_ k < 2 ^ k
  | 0 => by simp [un]
  | k + 1 => by
    have := un_lt b at_ k
    have := bit_lt b (at_ + k)
    unfold un
    rw [Nat.pow_succ]
    omega

theorem un_lt64 (b : List Int) (at_ : Nat) {k : Nat} (h : k ≤ 64) : un b at_ k < 18446744073709551616 := Nat.lt_of_lt_of_le (un_lt b at_ k) (Nat.le_trans (Nat.pow_le_pow_right (by omega) h) (by decide))

theorem ioru (a b : Nat) (hb : b < 2) (h : 2 * a + b < 18446744073709551616) : ior .u64 (ishl .u64 (a : Int) 1) (b : Int) = ((2 * a + b : Nat) : Int) := by
  have e0 : ishl .u64 (a : Int) 1 = ((2 ^ 1 * a : Nat) : Int) := by
    unfold ishl
    have hb : IntKind.u64.bits = 64 := rfl
    rw [hb]
    show IntKind.wrap .u64 ((a : Int) * 2 ^ 1) = _
    rw [wrapU64 (by omega) (by omega)]; push_cast; omega
  rw [e0]
  unfold ior
  have e1 : (BitVec.ofInt IntKind.u64.bits ((2 ^ 1 * a : Nat) : Int) ||| BitVec.ofInt IntKind.u64.bits (b : Int)).toNat = 2 ^ 1 * a + b := by
    show (BitVec.ofInt 64 ((2 ^ 1 * a : Nat) : Int) ||| BitVec.ofInt 64 (b : Int)).toNat = _
    rw [BitVec.toNat_or, BitVec.toNat_ofInt, BitVec.toNat_ofInt]
    rw [Nat.two_pow_add_eq_or_of_lt (show b < 2 ^ 1 by omega)]
    congr 1
    · omega
    · omega
  rw [e1, wrapU64 (by omega) (by omega)]

theorem tdiv8 (p : Nat) : Int.tdiv (p : Int) 8 = ((p / 8 : Nat) : Int) := rfl
theorem tmod8 (p : Nat) : Int.tmod (p : Int) 8 = ((p % 8 : Nat) : Int) := rfl

theorem wp {p : Nat} (h : p < 100000) : IntKind.wrap .i64 (Int.tdiv (p : Int) 8) = ((p / 8 : Nat) : Int) := by rw [tdiv8, wrap64 (by omega) (by omega)]
theorem wq {p : Nat} : IntKind.wrap .i64 ((7 : Int) - Int.tmod (p : Int) 8) = ((7 - p % 8 : Nat) : Int) := by
  rw [tmod8, wrap64 (by omega) (by omega)]; omega

theorem bit_i (b : List Int) (hb : Bytes b) {p : Nat} (hp : p / 8 < b.length) : iand .u8 (ishr .u8 (b.getD (p / 8) 0) ((7 - p % 8 : Nat) : Int)) 1 = ((bit b p : Nat) : Int) := by
  obtain ⟨h0, h1⟩ := hb _ (getD_mem (z := 0) hp)
  exact bt_eq h0 h1 (by omega)

theorem bit_u (b : List Int) (hb : Bytes b) {p : Nat} (hp : p / 8 < b.length) : IntKind.wrap .u64 (iand .u8 (ishr .u8 (b.getD (p / 8) 0) ((7 - p % 8 : Nat) : Int)) 1) = ((bit b p : Nat) : Int) := by
  rw [bit_i b hb hp]
  have := bit_lt b p
  exact wrapU64 (by omega) (by omega)

def ws : List Int := [8, 8, 32, 64, 64]

def at5 (i : Nat) : Nat := [0, 8, 16, 48, 112, 176].getD i 0
def w5 (i : Nat) : Nat := [8, 8, 32, 64, 64].getD i 0

theorem five {P : Nat → Prop} (h0 : P 0) (h1 : P 1) (h2 : P 2) (h3 : P 3) (h4 : P 4) : ∀ i, i < 5 → P i := by
  intro i hi
  rcases i with _ | _ | _ | _ | _ | i
  · exact h0
  · exact h1
  · exact h2
  · exact h3
  · exact h4
  · omega

theorem m94_ws : m94 (ws, ()) = some (176, (0, ())) := by
  apply ok_eq
  unfold m94
  dsimp only
  refine Ok.cond (fun h => absurd h (by decide)) (fun _ => ?_)
  refine Ok.bind (S := fun r => r = .inl 176) ?_ (fun r hr => by rw [hr]; exact Ok.some rfl)
  refine Ok.loop 5 (fun i x => x = (((at5 i : Nat) : Int), (i : Int))) rfl ?_
  rintro i x hi rfl
  rcases i with _ | _ | _ | _ | _ | _ | i
  · exact Ok.of (r := .inl (8, 1)) rfl ⟨by omega, rfl⟩
  · exact Ok.of (r := .inl (16, 2)) rfl ⟨by omega, rfl⟩
  · exact Ok.of (r := .inl (48, 3)) rfl ⟨by omega, rfl⟩
  · exact Ok.of (r := .inl (112, 4)) rfl ⟨by omega, rfl⟩
  · exact Ok.of (r := .inl (176, 5)) rfl ⟨by omega, rfl⟩
  · exact Ok.of (r := .inr (.inl 176)) rfl rfl
  · omega

theorem m98_ws : m98 (ws, ()) = some (22, (0, ())) := by
  apply ok_eq
  unfold m98
  dsimp only
  refine Ok.cond (fun h => absurd h (by decide)) (fun _ => ?_)
  refine Ok.bind (S := fun r => r = .inl 176) ?_ (fun r hr => by rw [hr]; exact Ok.some rfl)
  refine Ok.loop 5 (fun i x => x = (((at5 i : Nat) : Int), (i : Int))) rfl ?_
  rintro i x hi rfl
  rcases i with _ | _ | _ | _ | _ | _ | i
  · exact Ok.of (r := .inl (8, 1)) rfl ⟨by omega, rfl⟩
  · exact Ok.of (r := .inl (16, 2)) rfl ⟨by omega, rfl⟩
  · exact Ok.of (r := .inl (48, 3)) rfl ⟨by omega, rfl⟩
  · exact Ok.of (r := .inl (112, 4)) rfl ⟨by omega, rfl⟩
  · exact Ok.of (r := .inl (176, 5)) rfl ⟨by omega, rfl⟩
  · exact Ok.of (r := .inr (.inl 176)) rfl rfl
  · omega

def us (b : List Int) (i : Nat) : List Int := (List.range i).map fun j => ((un b (at5 j) (w5 j) : Nat) : Int)

theorem us_succ (b : List Int) (i : Nat) : us b (i + 1) = us b i ++ [((un b (at5 i) (w5 i) : Nat) : Int)] := by
  unfold us; rw [List.range_succ, List.map_append]; rfl

theorem us_len (b : List Int) (i : Nat) : (us b i).length = i := by unfold us; simp

theorem at_succ : ∀ i, i < 5 → at5 (i + 1) = at5 i + w5 i := by decide
theorem w_le : ∀ i, i < 5 → w5 i ≤ 64 := by decide
theorem at_le : ∀ i, i < 5 → at5 i + w5 i ≤ 176 := by decide
theorem ws_get : ∀ i, i < 5 → ws.getD i 0 = ((w5 i : Nat) : Int) := by decide

theorem m82_ws (b : List Int) (hb : Bytes b) (hl : b.length = 22) : m82 (ws, (b, ())) = some (us b 5, (0, ())) := by
  apply ok_eq
  unfold m82
  rw [m98_ws]
  dsimp only [Option.bind_some]
  refine Ok.ncond (fun h => absurd rfl h) (fun _ => Ok.ncond (fun h => absurd (by rw [hl]; rfl) h) (fun _ => ?_))
  refine Ok.bind (S := fun r => r = (us b 5, (176 : Int))) ?_ (fun r hr => ?_)
  · refine Ok.loop 5 (fun i x => x = (us b i, (((at5 i : Nat) : Int), (i : Int)))) rfl ?_
    rintro i x hi rfl
    refine Ok.cond (fun hc => ?_) (fun hc => ?_)
    rotate_left
    · have : ws.length = 5 := rfl
      obtain rfl : i = 5 := by simp only at hc; omega
      exact Ok.inr rfl
    have hwl : ws.length = 5 := rfl
    have hi5 : i < 5 := by simp only at hc; omega
    have hw := w_le i hi5
    have ha := at_le i hi5
    refine Ok.bind (S := fun r => r = (((at5 i + w5 i : Nat) : Int), ((un b (at5 i) (w5 i) : Nat) : Int))) ?_ (fun r hr => ?_)
    · refine Ok.loop (w5 i) (fun j x => x = (((at5 i + j : Nat) : Int), (((un b (at5 i) j : Nat) : Int), (j : Int)))) rfl ?_
      rintro j x hj rfl
      refine Ok.gd (by simp only; omega) (Ok.gd (by simp only; omega) ?_)
      simp only [Int.toNat_natCast, ws_get i hi5]
      refine Ok.cond (fun hc => ?_) (fun hc => ?_)
      rotate_left
      · obtain rfl : j = w5 i := by omega
        exact Ok.inr rfl
      have h7 : IntKind.wrap .u64 ((7 - (at5 i + j) % 8 : Nat) : Int) = ((7 - (at5 i + j) % 8 : Nat) : Int) := wrapU64 (by omega) (by omega)
      rw [wp (by omega), wq, h7]
      simp only [Int.toNat_natCast]
      rw [bit_u b hb (by omega)]
      have hlt := un_lt64 b (at5 i) (show j + 1 ≤ 64 by omega)
      rw [ioru _ _ (bit_lt b _) (by unfold un at hlt; exact hlt), wsucc (by omega), wsucc (by omega)]
      exact Ok.gd (by omega) (Ok.gd (by omega) (Ok.gd (by omega) (Ok.inl ⟨by omega, rfl⟩)))
    · subst hr
      have h5 := us_len b i
      refine Ok.gd ?_ (Ok.gd ?_ (Ok.inl ⟨by omega, ?_⟩))
      · simp only [List.length_cons, List.length_nil]; omega
      · simp only [List.length_cons, List.length_nil]; omega
      · rw [wsucc (by omega), us_succ, at_succ i hi5]
  · subst hr
    refine Ok.bind (S := fun r => r = .inl ()) ?_ (fun r hr => by rw [hr]; exact Ok.some rfl)
    refine Ok.loop 0 (fun i x => x = 176) rfl ?_
    rintro i x hi rfl
    refine Ok.cond (fun h => absurd h (by decide)) (fun _ => Ok.inr rfl)

theorem m75_ws (b : List Int) (hb : Bytes b) (hl : b.length = 22) : m75 (ws, (b, ())) = some (us b 5, (0, ())) := by
  apply ok_eq
  unfold m75
  rw [m94_ws]
  dsimp only [Option.bind_some]
  refine Ok.ncond (fun h => absurd rfl h) (fun _ => Ok.ncond (fun h => absurd (by rw [hl]; rfl) h) (fun _ => ?_))
  refine Ok.bind (S := fun r => r = .inl ()) ?_ (fun r hr => ?_)
  · refine Ok.loop 0 (fun i x => x = 176) rfl ?_
    rintro i x hi rfl
    refine Ok.cond (fun h => absurd h (by rw [hl]; decide)) (fun _ => Ok.inr rfl)
  subst hr
  refine Ok.bind (S := fun r => r = us b 5) ?_ (fun r hr => Ok.some (by rw [hr]))
  refine Ok.loop 5 (fun i x => x = (us b i, (((at5 i : Nat) : Int), (i : Int)))) rfl ?_
  rintro i x hi rfl
  have hwl : ws.length = 5 := rfl
  refine Ok.cond (fun hc => ?_) (fun hc => ?_)
  rotate_left
  · obtain rfl : i = 5 := by simp only at hc; omega
    exact Ok.inr rfl
  have hi5 : i < 5 := by simp only at hc; omega
  have hw := w_le i hi5
  have ha := at_le i hi5
  refine Ok.gd (by simp only; omega) (Ok.gd (by simp only; omega) ?_)
  refine Ok.bind (S := fun r => r = (((at5 i + w5 i : Nat) : Int), ((un b (at5 i) (w5 i) : Nat) : Int))) ?_ (fun r hr => ?_)
  · refine Ok.loop (w5 i) (fun j x => x = (((at5 i + j : Nat) : Int), (((un b (at5 i) j : Nat) : Int), (j : Int)))) rfl ?_
    rintro j x hj rfl
    simp only [Int.toNat_natCast, ws_get i hi5]
    refine Ok.cond (fun hc => ?_) (fun hc => ?_)
    rotate_left
    · obtain rfl : j = w5 i := by omega
      exact Ok.inr rfl
    rw [wp (by omega), wq]
    simp only [Int.toNat_natCast]
    rw [bit_u b hb (by omega)]
    have hlt := un_lt64 b (at5 i) (show j + 1 ≤ 64 by omega)
    rw [ioru _ _ (bit_lt b _) (by unfold un at hlt; exact hlt), wsucc (by omega), wsucc (by omega)]
    exact Ok.gd (by omega) (Ok.gd (by omega) (Ok.gd (by omega) (Ok.inl ⟨by omega, rfl⟩)))
  · subst hr
    have h5 := us_len b i
    refine Ok.gd ?_ (Ok.gd ?_ (Ok.inl ⟨by omega, ?_⟩))
    · simp only [List.length_cons, List.length_nil]; omega
    · simp only [List.length_cons, List.length_nil]; omega
    · rw [wsucc (by omega), us_succ, at_succ i hi5]
end Go.Proofs.Ytefekolpfklhdaa
end

section
namespace Go.Proofs.Ytefekolpfklhdaa
open Go Go.Proofs.AM

theorem put_all : ∀ (x : Fin 256) (j : Fin 8) (c : Fin 2), x.val / 2 ^ j.val % 2 = 0 →
    (0 ≤ ior .u8 ((x.val : Nat) : Int) (ishl .u8 ((c.val : Nat) : Int) ((j.val : Nat) : Int)) ∧ ior .u8 ((x.val : Nat) : Int) (ishl .u8 ((c.val : Nat) : Int) ((j.val : Nat) : Int)) < 256) ∧
      ∀ k : Fin 8, (ior .u8 ((x.val : Nat) : Int) (ishl .u8 ((c.val : Nat) : Int) ((j.val : Nat) : Int))).toNat / 2 ^ k.val % 2 = if k = j then c.val else x.val / 2 ^ k.val % 2 := by decide +kernel

theorem getD_set {l : List Int} {i j : Nat} {y : Int} (h : i < l.length) : (l.set i y).getD j 0 = if j = i then y else l.getD j 0 := by
  rw [List.getD_eq_getElem?_getD, List.getElem?_set]
  by_cases e : i = j
  · subst e; simp [h]
  · rw [if_neg e, if_neg (fun h => e h.symm), List.getD_eq_getElem?_getD]

def put (b : List Int) (p c : Nat) : List Int := b.set (p / 8) (ior .u8 (b.getD (p / 8) 0) (ishl .u8 (c : Int) ((7 - p % 8 : Nat) : Int)))

theorem put_ok {b : List Int} (hb : Bytes b) {p c : Nat} (hp : p / 8 < b.length) (hc : c < 2) (h0 : bit b p = 0) : Bytes (put b p c) ∧ (put b p c).length = b.length ∧ ∀ q, bit (put b p c) q = if q = p then c else bit b q := by
  obtain ⟨g0, g1⟩ := hb _ (getD_mem (z := 0) hp)
  unfold bit at h0
  obtain ⟨n, hn⟩ : ∃ n : Nat, b.getD (p / 8) 0 = n := ⟨(b.getD (p / 8) 0).toNat, by omega⟩
  rw [hn] at h0 g1
  rw [Int.toNat_natCast] at h0
  obtain ⟨h1, h2⟩ := put_all ⟨n, by omega⟩ ⟨7 - p % 8, by omega⟩ ⟨c, hc⟩ h0
  simp only at h1 h2
  refine ⟨fun x hx => ?_, by unfold put; rw [List.length_set], fun q => ?_⟩
  · unfold put at hx
    rcases List.mem_or_eq_of_mem_set hx with h | h
    · exact hb x h
    · rw [h, hn]; exact h1
  · unfold bit put
    rw [getD_set hp, hn]
    by_cases e : q / 8 = p / 8
    · rw [if_pos e]
      have := h2 ⟨7 - q % 8, by omega⟩
      simp only [Fin.mk.injEq] at this
      rw [this]
      by_cases e2 : q = p
      · subst e2; simp
      · rw [if_neg (by omega), if_neg e2, e, hn, Int.toNat_natCast]
    · rw [if_neg e, if_neg (by rintro rfl; exact e rfl)]

def sumb (x : Nat) : Nat := 128 * (x / 2 ^ (7 - 0) % 2) + 64 * (x / 2 ^ (7 - 1) % 2) + 32 * (x / 2 ^ (7 - 2) % 2) + 16 * (x / 2 ^ (7 - 3) % 2) + 8 * (x / 2 ^ (7 - 4) % 2) + 4 * (x / 2 ^ (7 - 5) % 2) + 2 * (x / 2 ^ (7 - 6) % 2) + x / 2 ^ (7 - 7) % 2

theorem sumb_eq : ∀ x : Fin 256, x.val = sumb x.val := by decide +kernel

theorem byte_eq {x y : Nat} (hx : x < 256) (hy : y < 256) (e : ∀ k, k < 8 → x / 2 ^ (7 - k) % 2 = y / 2 ^ (7 - k) % 2) : x = y := by
  have h1 : sumb x = sumb y := by
    unfold sumb
    rw [e 0 (by omega), e 1 (by omega), e 2 (by omega), e 3 (by omega), e 4 (by omega), e 5 (by omega), e 6 (by omega), e 7 (by omega)]
  exact (sumb_eq ⟨x, hx⟩).trans (h1.trans (sumb_eq ⟨y, hy⟩).symm)

theorem bits_eq {a b : List Int} (ha : Bytes a) (hb : Bytes b) (hl : a.length = b.length) (h : ∀ q, q < 8 * a.length → bit a q = bit b q) : a = b := by
  apply ext_getD hl
  intro i hi
  obtain ⟨a0, a1⟩ := ha _ (getD_mem (z := 0) hi)
  obtain ⟨b0, b1⟩ := hb _ (getD_mem (z := 0) (show i < b.length by omega))
  have H : ∀ k, k < 8 → (a.getD i 0).toNat / 2 ^ (7 - k) % 2 = (b.getD i 0).toNat / 2 ^ (7 - k) % 2 := by
    intro k hk
    have := h (8 * i + k) (by omega)
    unfold bit at this
    rw [show (8 * i + k) / 8 = i by omega, show (8 * i + k) % 8 = k by omega] at this
    exact this
  have := byte_eq (by omega) (by omega) H
  omega

theorem un_bit (b : List Int) (at_ : Nat) : ∀ (w q : Nat), q < w → un b at_ w / 2 ^ (w - 1 - q) % 2 = bit b (at_ + q)
  | 0, q, h => by omega
  | w + 1, q, h => by
    have hb := bit_lt b (at_ + w)
    unfold un
    by_cases e : q = w
    · subst e
      rw [show q + 1 - 1 - q = 0 by omega, Nat.pow_zero, Nat.div_one]
      omega
    · have ih := un_bit b at_ w q (by omega)
      rw [show w + 1 - 1 - q = (w - 1 - q) + 1 by omega, Nat.pow_succ', ← Nat.div_div_eq_div_mul, show (2 * un b at_ w + bit b (at_ + w)) / 2 = un b at_ w by omega]
      exact ih

theorem shr64 (v k : Nat) (hk : k ≤ 64) : ishr .u64 (v : Int) (k : Int) = ((v / 2 ^ k : Nat) : Int) := by
  unfold ishr
  have hb : IntKind.u64.bits = 64 := rfl
  rw [hb, Int.toNat_natCast, Nat.min_eq_left hk]
  rw [Int.fdiv_eq_ediv_of_nonneg _ (by exact_mod_cast Nat.zero_le (2 ^ k)), Int.natCast_ediv]
  push_cast
  rfl

theorem and64 (v : Nat) (h : v < 18446744073709551616) : iand .u64 (v : Int) 1 = ((v % 2 : Nat) : Int) := by
  unfold iand
  have e1 : (BitVec.ofInt IntKind.u64.bits (v : Int) &&& BitVec.ofInt IntKind.u64.bits 1).toNat = v % 2 := by
    show (BitVec.ofInt 64 (v : Int) &&& BitVec.ofInt 64 1).toNat = _
    rw [BitVec.toNat_and, BitVec.toNat_ofInt, BitVec.toNat_ofInt]
    rw [show ((1 : Int) % ((2 ^ 64 : Nat) : Int)).toNat = 1 from rfl, Nat.and_one_is_mod]
    omega
  rw [e1, wrapU64 (by omega) (by omega)]

structure Wr (v : Nat → Nat) (i j : Nat) (b : List Int) : Prop where
  bytes : Bytes b
  len : b.length = 22
  done : ∀ f, f < i → ∀ q, q < w5 f → bit b (at5 f + q) = v f / 2 ^ (w5 f - 1 - q) % 2
  part : ∀ q, q < j → bit b (at5 i + q) = v i / 2 ^ (w5 i - 1 - q) % 2
  rest : ∀ p, at5 i + j ≤ p → bit b p = 0

theorem at_mono : ∀ i, i < 5 → ∀ f, f < i → at5 f + w5 f ≤ at5 i := by decide

theorem Wr.step {v : Nat → Nat} {i j : Nat} {b : List Int} (h : Wr v i j b) (hi : i < 5) (hj : j < w5 i) : Wr v i (j + 1) (put b (at5 i + j) (v i / 2 ^ (w5 i - 1 - j) % 2)) := by
  have ha := at_le i hi
  obtain ⟨h1, h2, h3⟩ := put_ok h.bytes (p := at5 i + j) (c := v i / 2 ^ (w5 i - 1 - j) % 2) (by rw [h.len]; omega) (Nat.mod_lt _ (by omega)) (h.rest _ (Nat.le_refl _))
  refine ⟨h1, h2.trans h.len, fun f hf q hq => ?_, fun q hq => ?_, fun p hp => ?_⟩
  · have := at_mono i hi f hf
    rw [h3, if_neg (by omega)]; exact h.done f hf q hq
  · rw [h3]
    by_cases e : q = j
    · subst e; rw [if_pos rfl]
    · rw [if_neg (by omega)]; exact h.part q (by omega)
  · rw [h3, if_neg (by omega)]; exact h.rest p (by omega)

theorem Wr.next {v : Nat → Nat} {i : Nat} {b : List Int} (h : Wr v i (w5 i) b) (hi : i < 5) : Wr v (i + 1) 0 b := by
  refine ⟨h.bytes, h.len, fun f hf q hq => ?_, fun q hq => by omega, fun p hp => h.rest p (by rw [at_succ i hi] at hp; omega)⟩
  by_cases e : f = i
  · subst e; exact h.part q hq
  · exact h.done f (by omega) q hq

theorem bit_zero (p : Nat) : bit (List.replicate 22 0) p = 0 := by
  unfold bit
  have : (List.replicate 22 (0 : Int)).getD (p / 8) 0 = 0 := by
    rw [List.getD_eq_getElem?_getD, List.getElem?_replicate]
    split <;> rfl
  rw [this]; simp

theorem Wr.start (v : Nat → Nat) : Wr v 0 0 (List.replicate 22 0) := by
  refine ⟨fun x hx => ?_, by simp, fun f hf => by omega, fun q hq => by omega, fun p _ => bit_zero p⟩
  rw [List.eq_of_mem_replicate hx]; decide

def vl (v : Nat → Nat) : List Int := (List.range 5).map fun j => ((v j : Nat) : Int)
theorem vl_get (v : Nat → Nat) : ∀ i, i < 5 → (vl v).getD i 0 = ((v i : Nat) : Int) := five rfl rfl rfl rfl rfl

theorem m99_ws (v : Nat → Nat) (hv : ∀ i, i < 5 → v i < 2 ^ w5 i) : Ok (m99 (ws, (vl v, ()))) (fun r => ∃ b, r = (b, (0, ())) ∧ Wr v 5 0 b) := by
  unfold m99
  rw [m98_ws]
  dsimp only [Option.bind_some]
  have hwl : ws.length = 5 := rfl
  have hvl : (vl v).length = 5 := rfl
  refine Ok.ncond (fun h => absurd rfl h) (fun _ => Ok.ncond (fun h => absurd (by rw [hwl, hvl]) h) (fun _ => ?_))
  refine Ok.gd (by omega) (Ok.gd (by omega) (Ok.gd (by omega) ?_))
  refine Ok.bind (S := fun r => ∃ b, r = .inl b ∧ Wr v 5 0 b) ?_ (fun r hr => ?_)
  rotate_left
  · obtain ⟨b, rfl, hb⟩ := hr
    exact Ok.some ⟨b, rfl, hb⟩
  refine Ok.loop 5 (fun i x => ∃ b, x = (((at5 i : Nat) : Int), ((i : Int), b)) ∧ Wr v i 0 b) ⟨_, rfl, Wr.start v⟩ ?_
  rintro i x hi ⟨b, rfl, hb⟩
  refine Ok.cond (fun hc => ?_) (fun hc => ?_)
  rotate_left
  · obtain rfl : i = 5 := by simp only at hc; omega
    exact Ok.inr ⟨b, rfl, hb⟩
  have hi5 : i < 5 := by simp only at hc; omega
  have hw := w_le i hi5
  have ha := at_le i hi5
  have hvi := hv i hi5
  have hwu : IntKind.wrap .u64 ((w5 i : Nat) : Int) = ((w5 i : Nat) : Int) := wrapU64 (by omega) (by omega)
  have hv64 : v i < 18446744073709551616 := Nat.lt_of_lt_of_le hvi (Nat.le_trans (Nat.pow_le_pow_right (by omega) hw) (by decide))
  simp only [Int.toNat_natCast, ws_get i hi5, vl_get v i hi5]
  have inner : ∀ T : (Int × List Int) → Prop, (∀ r, (∃ c, r = (((at5 i + w5 i : Nat) : Int), c) ∧ Wr v i (w5 i) c) → T r) → Ok (loopM (X := (Int × (Int × (List Int)))) (E := (Int × (List Int))) (fun (x3 : (Int × (Int × (List Int)))) =>
      bif (decide (x3.2.1 ≥ (0 : Int))) then
        (gd ((0 : Int) ≤ (Go.IntKind.wrap .i64 (Int.tdiv x3.1 (8 : Int)))) (gd ((Go.IntKind.wrap .i64 (Int.tdiv x3.1 (8 : Int))) < (((List.length x3.2.2) : Nat) : Int)) (gd ((Int.toNat (Go.IntKind.wrap .i64 (Int.tdiv x3.1 (8 : Int)))) < (List.length x3.2.2)) (gd ((0 : Int) ≤ (i : Int)) (gd ((i : Int) < (((List.length (vl v)) : Nat) : Int)) (gd ((0 : Int) ≤ (Go.IntKind.wrap .u64 x3.2.1)) (gd ((0 : Int) ≤ (Go.IntKind.wrap .u64 (Go.IntKind.wrap .i64 ((7 : Int) - (Int.tmod x3.1 (8 : Int)))))) (gd ((0 : Int) ≤ (Go.IntKind.wrap .i64 (Int.tdiv x3.1 (8 : Int)))) (gd ((Go.IntKind.wrap .i64 (Int.tdiv x3.1 (8 : Int))) < (((List.length x3.2.2) : Nat) : Int)) (gd ((Int.toNat (Go.IntKind.wrap .i64 (Int.tdiv x3.1 (8 : Int)))) < (List.length x3.2.2)) (some (Sum.inl ((Go.IntKind.wrap .i64 (x3.1 + (1 : Int))), ((Go.IntKind.wrap .i64 (x3.2.1 - (1 : Int))), (List.set x3.2.2 (Int.toNat (Go.IntKind.wrap .i64 (Int.tdiv x3.1 (8 : Int)))) (ior .u8 (List.getD x3.2.2 (Int.toNat (Go.IntKind.wrap .i64 (Int.tdiv x3.1 (8 : Int)))) (0 : Int)) (ishl .u8 (Go.IntKind.wrap .u8 (iand .u64 (ishr .u64 ((v i : Nat) : Int) (Go.IntKind.wrap .u64 x3.2.1)) (1 : Int))) (Go.IntKind.wrap .u64 (Go.IntKind.wrap .i64 ((7 : Int) - (Int.tmod x3.1 (8 : Int))))))))))))))))))))))
      else
        (some (Sum.inr (x3.1, x3.2.2)))) (((at5 i : Nat) : Int), ((Go.IntKind.wrap .i64 (((w5 i : Nat) : Int) - (1 : Int))), b))) T := by
    intro T hT
    refine Ok.loop (w5 i) (fun j x => ∃ c, x = (((at5 i + j : Nat) : Int), (((w5 i : Nat) : Int) - 1 - (j : Int), c)) ∧ Wr v i j c) ⟨b, ?_, hb⟩ ?_
    · rw [wrap64 (by omega) (by omega)]; simp
    rintro j x hj ⟨c, rfl, hcw⟩
    refine Ok.cond (fun hc => ?_) (fun hc => ?_)
    rotate_left
    · obtain rfl : j = w5 i := by simp only at hc; omega
      exact Ok.inr (hT _ ⟨c, rfl, hcw⟩)
    have hjw : j < w5 i := by simp only at hc; omega
    have hk : ((w5 i : Nat) : Int) - 1 - (j : Int) = ((w5 i - 1 - j : Nat) : Int) := by omega
    have hku : IntKind.wrap .u64 ((w5 i - 1 - j : Nat) : Int) = ((w5 i - 1 - j : Nat) : Int) := wrapU64 (by omega) (by omega)
    have h7 : IntKind.wrap .u64 ((7 - (at5 i + j) % 8 : Nat) : Int) = ((7 - (at5 i + j) % 8 : Nat) : Int) := wrapU64 (by omega) (by omega)
    have hlen := hcw.len
    have hdl : v i / 2 ^ (w5 i - 1 - j) < 18446744073709551616 := Nat.lt_of_le_of_lt (Nat.div_le_self _ _) hv64
    have hw8 : ∀ n : Nat, IntKind.wrap .u8 ((n % 2 : Nat) : Int) = ((n % 2 : Nat) : Int) := by
      intro n
      rcases Nat.mod_two_eq_zero_or_one n with e | e <;> rw [e] <;> rfl
    simp only [hk]
    rw [wp (by omega), wq, h7, hku, shr64 _ _ (by omega), and64 _ hdl, hw8]
    simp only [Int.toNat_natCast]
    refine Ok.gd (by omega) (Ok.gd (by omega) (Ok.gd (by omega) (Ok.gd (by omega) (Ok.gd (by omega) (Ok.gd (by omega) (Ok.gd (by omega) (Ok.gd (by omega) (Ok.gd (by omega) (Ok.gd (by omega) (Ok.inl ⟨by omega, ?_⟩))))))))))
    refine ⟨_, ?_, hcw.step hi5 hjw⟩
    rw [wsucc (by omega), wrap64 (n := ((w5 i - 1 - j : Nat) : Int) - 1) (by omega) (by omega)]
    refine Prod.ext rfl (Prod.ext ?_ rfl)
    show ((w5 i - 1 - j : Nat) : Int) - 1 = _
    push_cast
    omega
  refine Ok.gd (by omega) (Ok.gd (by omega) (Ok.cond (fun hlt => ?_) (fun hge => ?_)))
  · rw [hwu, shr64 _ _ hw, Nat.div_eq_of_lt hvi]
    refine Ok.gd (by omega) (Ok.gd (by omega) (Ok.gd (by omega) (Ok.gd (by omega) (Ok.gd (by omega) (Ok.ncond (fun h => absurd rfl h) (fun _ => Ok.gd (by omega) (Ok.gd (by omega) ?_)))))))
    refine Ok.bind (inner _ fun r hr => hr) (fun r hr => ?_)
    obtain ⟨c, rfl, hc2⟩ := hr
    refine Ok.inl ⟨by omega, c, ?_, hc2.next hi5⟩
    rw [wsucc (by omega), at_succ i hi5]
  · refine Ok.gd (by omega) (Ok.gd (by omega) ?_)
    refine Ok.bind (inner _ fun r hr => hr) (fun r hr => ?_)
    obtain ⟨c, rfl, hc2⟩ := hr
    refine Ok.inl ⟨by omega, c, ?_, hc2.next hi5⟩
    rw [wsucc (by omega), at_succ i hi5]
end Go.Proofs.Ytefekolpfklhdaa
end

section
namespace Go.Proofs.Ytefekolpfklhdaa
open Go Go.Proofs.AM

abbrev Rec := Int × (Int × (Int × Int))
abbrev Ent := (Int × Int) × Rec

def chk (r : Rec) : Bool := decide (1 ≤ r.1 ∧ r.1 ≤ 3 ∧ 0 ≤ r.2.1 ∧ r.2.1 < 1048576 ∧ 1 ≤ r.2.2.1 ∧ r.2.2.1 ≤ r.2.2.2 ∧ r.2.2.2 ≤ 1152921504606846976 ∧ (r.1 = 1 ∨ r.2.2.2 = r.2.2.1))
def okE (P : Int) (e : Ent) : Bool := chk e.2 && decide (¬ e.2.1 = 3 ∧ 0 ≤ e.1.1 ∧ e.1.1 < 256 ∧ 0 ≤ e.1.2 ∧ e.1.2 < P)

theorem m18_eq (r : Rec) : m18 (r, ()) = some (if chk r then 0 else 30, ()) := by
  obtain ⟨a, b, c, d⟩ := r
  unfold m18 chk
  simp only [Bool.cond_eq_ite, Bool.not_eq_true', decide_eq_true_eq, decide_eq_false_iff_not]
  repeat' split
  all_goals first | rfl | (exfalso; omega)

theorem m46_eq (r : Rec) : m46 (r, ()) = some (if chk r then 0 else 30, ()) := by
  obtain ⟨a, b, c, d⟩ := r
  unfold m46 chk
  simp only [Bool.cond_eq_ite, Bool.not_eq_true', decide_eq_true_eq, decide_eq_false_iff_not]
  repeat' split
  all_goals first | rfl | (exfalso; omega)

theorem m48_eq (a b c : Int) : m48 (a, (b, (c, ()))) = some (decide (b ≤ a ∧ a ≤ c), ()) := by
  unfold m48
  simp only [Bool.cond_eq_ite, decide_eq_true_eq]
  split <;> (congr 2; rw [Bool.eq_iff_iff]; simp only [decide_eq_true_eq, Bool.false_eq_true, false_iff]; omega)

theorem m68_eq {P : Int} (h1 : 4 ≤ P) (h2 : P ≤ 32) (e : Ent) : m68 (P, (e, ())) = some (okE P e, ()) := by
  unfold m68
  rw [m46_eq]
  unfold okE
  cases h : chk e.2
  · simp [h]
  · simp only [m48_eq, wrap64 (n := P - 1) (by omega) (by omega), Option.bind_some, if_true, decide_true, Bool.cond_true, Bool.cond_eq_ite, Bool.not_eq_true', decide_eq_true_eq, decide_eq_false_iff_not, Bool.true_and]
    repeat' split
    all_goals (congr 2; rw [Bool.eq_iff_iff]; simp only [decide_eq_true_eq, Bool.false_eq_true, false_iff]; omega)

def newer (a b : Rec) : Bool := decide (a.2.2.1 > b.2.2.1 ∨ (a.2.2.1 = b.2.2.1 ∧ a.2.2.2 < b.2.2.2))
theorem m69_eq (a b : Rec) : m69 (a, (b, ())) = some (newer a b, ()) := by
  unfold m69 newer
  simp only [Bool.cond_eq_ite, Bool.not_eq_true', decide_eq_true_eq, decide_eq_false_iff_not]
  repeat' split
  all_goals (congr 2; rw [Bool.eq_iff_iff]; simp only [decide_eq_true_eq, Bool.false_eq_true, false_iff, true_iff]; omega)
def bt (a b : Ent) : Bool := newer a.2 b.2 || (!newer b.2 a.2 && decide (a.1.1 < b.1.1 ∨ (a.1.1 = b.1.1 ∧ a.1.2 < b.1.2)))
theorem m40_eq (a b : Ent) : m40 (a, (b, ())) = some (bt a b, ()) := by
  unfold m40 bt
  simp only [m69_eq, Option.bind_some]
  cases newer a.2 b.2 <;> cases newer b.2 a.2 <;> simp [Bool.cond_eq_ite]
  by_cases h : a.1.1 = b.1.1 <;> simp [h]
def bestStep (P p : Int) (o : Option Ent) (e : Ent) : Option Ent :=
  if okE P e = true ∧ e.2.2.1 = p then (match o with
    | none => some e
    | some b => if bt e b then some e else some b) else o
def best (P p : Int) (l : List Ent) : Option Ent := l.foldl (bestStep P p) none
def R (P : Int) (l : List Ent) (p : Nat) : Int × Int := match best P p l with
  | none => (-1, 0)
  | some e => e.1

theorem m89_one : ∀ n : Fin 1025, m89 (1, ((n.val : Int), ())) = some (0, ((n.val : Int), ())) := by
  unfold m89; decide +kernel

theorem rep_copy {A : Type} (a z : A) (N b : Nat) (hb : b < N) :
    (List.take b (List.replicate b a ++ List.replicate (N - b) z) ++ List.take (N - b) (List.take b (List.replicate b a ++ List.replicate (N - b) z)) ++ List.drop (b + min b (N - b)) (List.replicate b a ++ List.replicate (N - b) z)) = List.replicate (b + min b (N - b)) a ++ List.replicate (N - (b + min b (N - b))) z := by
  have e1 : List.take b (List.replicate b a ++ List.replicate (N - b) z) = List.replicate b a := by simp [List.take_append]
  rw [e1]
  have e2 : List.take (N - b) (List.replicate b a) = List.replicate (min b (N - b)) a := by rw [List.take_replicate, Nat.min_comm]
  rw [e2, List.replicate_append_replicate]
  congr 1
  rw [List.drop_append]
  simp [List.drop_replicate]
  omega

end Go.Proofs.Ytefekolpfklhdaa

namespace Go.Proofs.Ytefekolpfklhdaa
open Go Go.Proofs.AM

theorem m41_eq (a : Int × Int) (N : Nat) (n1 : 1 ≤ N) (n2 : N ≤ 1024) : m41 ([a], ((N : Int), ())) = some (List.replicate N a) := by
  have hm : m70 ((IntKind.wrap .u64 (((List.length [a]) : Nat) : Int)), ((IntKind.wrap .u64 (N : Int)), ())) = some (0, ((N : Int), ())) := by
    rw [wrapU64 (n := (N : Int)) (by omega) (by omega), wrapU64 (n := ((List.length [a] : Nat) : Int)) (by simp) (by simp)]
    unfold m70
    have := m89_one ⟨N, by omega⟩
    simp only [List.length_singleton] at this ⊢
    rw [show ((1 : Nat) : Int) = 1 from rfl, this]; rfl
  unfold m41
  simp only [hm, Option.bind_some]
  rw [wrap64 (n := (N : Int)) (by omega) (by omega)]
  simp only [Bool.cond_eq_ite, decide_eq_true_eq]
  rw [if_neg (by omega), if_neg (by omega), if_neg (by omega), gd_pos (by omega), gd_pos (by omega), gd_pos (by omega)]
  rw [loop_wf (e := List.replicate N a) (fun x e => ∃ b : Nat, 1 ≤ b ∧ b ≤ N ∧ x = ((b : Int), List.replicate b a ++ List.replicate (N - b) (0, 0)) ∧ e = List.replicate N a) (fun x => N - x.1.toNat)]
  · rfl
  · rintro x e ⟨b, b1, b2, rfl, rfl⟩
    have hl : (List.replicate b a ++ List.replicate (N - b) ((0 : Int), (0 : Int))).length = N := by simp; omega
    simp only [hl]
    by_cases hb : b < N
    · right
      refine ⟨(((b + min b (N - b) : Nat) : Int), _), ?_, ⟨b + min b (N - b), by omega, by omega, rfl, trivial⟩, ?_⟩
      · rw [if_pos (by omega), gd_pos (by omega), gd_pos (by omega), gd_pos (by omega), gd_pos (by omega), gd_pos (by omega)]
        simp only [Int.toNat_natCast, Int.toNat_zero, Nat.sub_zero, List.drop_zero, List.length_take, hl, Nat.min_eq_left b2]
        rw [rep_copy _ _ _ _ hb, wrap64 (by omega) (by omega)]
        congr 4
      · simp only [Int.toNat_natCast]; omega
    · left
      obtain rfl : b = N := by omega
      rw [if_neg (by omega)]
      simp
  · refine ⟨1, by omega, n1, ?_, rfl⟩
    simp only [List.length_singleton, List.length_replicate, Int.toNat_natCast]
    congr 1
    · omega
    · rw [List.drop_replicate, List.take_of_length_le (by simp; omega)]; rfl

theorem m66_eq (a : Int) (N : Nat) (n1 : 1 ≤ N) (n2 : N ≤ 1024) : m66 ([a], ((N : Int), ())) = some (List.replicate N a) := by
  have hm : m70 ((IntKind.wrap .u64 (((List.length [a]) : Nat) : Int)), ((IntKind.wrap .u64 (N : Int)), ())) = some (0, ((N : Int), ())) := by
    rw [wrapU64 (n := (N : Int)) (by omega) (by omega), wrapU64 (n := ((List.length [a] : Nat) : Int)) (by simp) (by simp)]
    unfold m70
    have := m89_one ⟨N, by omega⟩
    simp only [List.length_singleton] at this ⊢
    rw [show ((1 : Nat) : Int) = 1 from rfl, this]; rfl
  unfold m66
  simp only [hm, Option.bind_some]
  rw [wrap64 (n := (N : Int)) (by omega) (by omega)]
  simp only [Bool.cond_eq_ite, decide_eq_true_eq]
  rw [if_neg (by omega), if_neg (by omega), if_neg (by omega), gd_pos (by omega), gd_pos (by omega), gd_pos (by omega)]
  rw [loop_wf (e := List.replicate N a) (fun x e => ∃ b : Nat, 1 ≤ b ∧ b ≤ N ∧ x = ((b : Int), List.replicate b a ++ List.replicate (N - b) 0) ∧ e = List.replicate N a) (fun x => N - x.1.toNat)]
  · rfl
  · rintro x e ⟨b, b1, b2, rfl, rfl⟩
    have hl : (List.replicate b a ++ List.replicate (N - b) (0 : Int)).length = N := by simp; omega
    simp only [hl]
    by_cases hb : b < N
    · right
      refine ⟨(((b + min b (N - b) : Nat) : Int), _), ?_, ⟨b + min b (N - b), by omega, by omega, rfl, trivial⟩, ?_⟩
      · rw [if_pos (by omega), gd_pos (by omega), gd_pos (by omega), gd_pos (by omega), gd_pos (by omega), gd_pos (by omega)]
        simp only [Int.toNat_natCast, Int.toNat_zero, Nat.sub_zero, List.drop_zero, List.length_take, hl, Nat.min_eq_left b2]
        rw [rep_copy _ _ _ _ hb, wrap64 (by omega) (by omega)]
        congr 4
      · simp only [Int.toNat_natCast]; omega
    · left
      obtain rfl : b = N := by omega
      rw [if_neg (by omega)]
      simp
  · refine ⟨1, by omega, n1, ?_, rfl⟩
    simp only [List.length_singleton, List.length_replicate, Int.toNat_natCast]
    congr 1
    · omega
    · rw [List.drop_replicate, List.take_of_length_le (by simp; omega)]; rfl

def shelfOk (P L : Int) : Bool := decide (4 ≤ P ∧ P ≤ 32 ∧ 1 ≤ L ∧ L ≤ 256)

theorem m38_ok {P L : Int} (h : shelfOk P L = true) : ∃ v, m38 (P, (L, (1, ()))) = some (v, (0, ())) := by
  simp only [shelfOk, decide_eq_true_eq] at h
  obtain ⟨N, rfl⟩ : ∃ N : Nat, L = N := ⟨L.toNat, by omega⟩
  have hp : 0 ≤ (N : Int) * P ∧ (N : Int) * P ≤ 256 * 32 := ⟨Int.mul_nonneg (by omega) (by omega), by
    have := Int.mul_le_mul (a := (N : Int)) (b := P) (c := 256) (d := 32) (by omega) (by omega) (by omega) (by omega)
    exact this⟩
  unfold m38
  simp only [Bool.cond_eq_ite, decide_eq_true_eq]
  rw [if_neg (by omega), if_neg (by omega), if_neg (by omega), if_neg (by omega), if_neg (by omega), if_neg (by omega), m66_eq _ _ (by omega) (by omega), wrap64 (n := (N : Int) * P) (by omega) (by omega)]
  simp only [Option.bind_some]
  rw [gd_pos (by omega), gd_pos (by omega), gd_pos (by omega)]
  exact ⟨_, rfl⟩

def great (l : List Ent) : Nat → Int
  | 0 => 0
  | i + 1 => if chk (l.getD i ((0, 0), (0, (0, (0, 0))))).2 = true then (if (l.getD i ((0, 0), (0, (0, (0, 0))))).2.2.2.2 > great l i then (l.getD i ((0, 0), (0, (0, (0, 0))))).2.2.2.2 else great l i) else great l i

theorem m16_eq (l : List Ent) (h : l.length ≤ 1000000) : m16 (l, ()) = some (great l l.length, ()) := by
  unfold m16
  simp only [Bool.cond_eq_ite, decide_eq_true_eq]
  rw [loop_idx' l.length (fun i => (great l i, (i : Int))) ?_ ?_ (e := great l l.length) ?_]
  · rfl
  · rfl
  · intro i hi
    simp only
    rw [if_pos (by omega), gd_pos (by omega), gd_pos (by omega), wrap64 (by omega) (by omega), Int.toNat_natCast, m46_eq]
    simp only [Option.bind_some, great]
    cases chk (l.getD i ((0, 0), (0, (0, (0, 0))))).2 <;> simp
  · simp only
    rw [if_neg (by omega)]

end Go.Proofs.Ytefekolpfklhdaa

namespace Go.Proofs.Ytefekolpfklhdaa
open Go Go.Proofs.AM

def pick (P N : Int) (m : List (Int × Ent)) (e : Ent) : List (Int × Ent) :=
  if okE P e = true ∧ e.2.2.1 < N then (match ifind m e.2.2.1 with
    | none => mset (false, .int .i64) m e.2.2.1 e
    | some b => if bt e b = true then mset (false, .int .i64) m e.2.2.1 e else m) else m
def picks (P N : Int) (l : List Ent) : List (Int × Ent) := l.foldl (pick P N) []

theorem okE_page {P : Int} {e : Ent} (h : okE P e = true) : 0 ≤ e.2.2.1 := by
  simp only [okE, chk, Bool.and_eq_true, decide_eq_true_eq] at h; omega

theorem picks_ok (P N : Int) (l : List Ent) : ((picks P N l).map Prod.fst).Nodup ∧ (∀ k, k ∈ (picks P N l).map Prod.fst → 0 ≤ k ∧ k < N) ∧ ∀ p, p < N → ifind (picks P N l) p = best P p l := by
  suffices H : ∀ (l : List Ent) (m : List (Int × Ent)) (o : Int → Option Ent), ((m.map Prod.fst).Nodup ∧ (∀ k, k ∈ m.map Prod.fst → 0 ≤ k ∧ k < N) ∧ ∀ p, p < N → ifind m p = o p) →
      (((l.foldl (pick P N) m).map Prod.fst).Nodup ∧ (∀ k, k ∈ (l.foldl (pick P N) m).map Prod.fst → 0 ≤ k ∧ k < N) ∧ ∀ p, p < N → ifind (l.foldl (pick P N) m) p = l.foldl (bestStep P p) (o p)) from
    H l [] (fun _ => none) ⟨by simp, by simp, fun p _ => rfl⟩
  intro l
  induction l with
  | nil => intro m o h; exact h
  | cons e l ih =>
    intro m o h
    refine ih (pick P N m e) (fun p => bestStep P p (o p) e) ?_
    obtain ⟨h1, h2, h3⟩ := h
    unfold pick
    by_cases hc : okE P e = true ∧ e.2.2.1 < N
    · have set : ∀ (q : ∀ p, p < N → (if p = e.2.2.1 then some e else ifind m p) = bestStep P p (o p) e), ((mset (false, .int .i64) m e.2.2.1 e).map Prod.fst).Nodup ∧ (∀ k, k ∈ (mset (false, .int .i64) m e.2.2.1 e).map Prod.fst → 0 ≤ k ∧ k < N) ∧ ∀ p, p < N → ifind (mset (false, .int .i64) m e.2.2.1 e) p = bestStep P p (o p) e := by
        intro q
        refine ⟨mset_nodup _ _ _ h1, fun k hk => ?_, fun p hp => ?_⟩
        · rcases mset_keys _ _ _ _ hk with rfl | hk
          · exact ⟨okE_page hc.1, hc.2⟩
          · exact h2 k hk
        · rw [mset_ifind]; exact q p hp
      rw [if_pos hc]
      cases hf : ifind m e.2.2.1 with
      | none =>
        refine set fun p hp => ?_
        unfold bestStep
        by_cases hpe : p = e.2.2.1
        · subst hpe
          rw [if_pos rfl, if_pos ⟨hc.1, rfl⟩, ← h3 _ hp, hf]
        · rw [if_neg hpe, if_neg (fun h => hpe h.2.symm)]; exact h3 p hp
      | some b =>
        by_cases hb : bt e b = true
        · simp only [hb, if_true]
          refine set fun p hp => ?_
          unfold bestStep
          by_cases hpe : p = e.2.2.1
          · subst hpe
            rw [if_pos rfl, if_pos ⟨hc.1, rfl⟩, ← h3 _ hp, hf]; simp [hb]
          · rw [if_neg hpe, if_neg (fun h => hpe h.2.symm)]; exact h3 p hp
        · simp only [hb]
          refine ⟨h1, h2, fun p hp => ?_⟩
          show ifind m p = _
          unfold bestStep
          by_cases hpe : p = e.2.2.1
          · subst hpe
            rw [if_pos ⟨hc.1, rfl⟩, ← h3 _ hp, hf]; simp [hb]
          · rw [if_neg (fun h : okE P e = true ∧ e.2.2.1 = p => hpe h.2.symm)]; exact h3 p hp
    · rw [if_neg hc]
      refine ⟨h1, h2, fun p hp => ?_⟩
      unfold bestStep
      rw [if_neg (fun h : okE P e = true ∧ e.2.2.1 = p => hc ⟨h.1, h.2 ▸ hp⟩)]
      exact h3 p hp

theorem picks_snoc (P N : Int) (l : List Ent) (e : Ent) : picks P N (l ++ [e]) = pick P N (picks P N l) e := by simp [picks, List.foldl_append]

theorem m14_eq' (P L : Int) (l : List Ent) (hs : shelfOk P L = true) (hL : L * P ≤ 1024) (hl : l.length ≤ 1000000) : m14 (P, (L, (l, ()))) = some ((List.range (P * L).toNat).map (R P l), ()) := by
  have hs' := hs
  simp only [shelfOk, decide_eq_true_eq] at hs'
  have hp : 0 < L * P ∧ L * P ≤ 32 * 32 := ⟨Int.mul_pos (by omega) (by omega), by omega⟩
  obtain ⟨v, hv⟩ := m38_ok hs
  have hN : L * P = ((L * P).toNat : Int) := by omega
  have hPL : P * L = L * P := Int.mul_comm _ _
  obtain ⟨k1, k2, k3⟩ := picks_ok P (L * P) l
  unfold m14
  simp only [hv, Option.bind_some, Bool.cond_eq_ite, decide_eq_true_eq, decide_true, Bool.not_true, Bool.false_eq_true, if_false]
  rw [wrap64 (n := L * P) (by omega) (by omega)]
  rw [loop_idx' l.length (fun i => ((i : Int), picks P (L * P) (l.take i))) ?_ ?_ (e := picks P (L * P) l) ?_]
  · simp only [Option.bind_some, m42]
    have h41 := m41_eq (-1, 0) (L * P).toNat (by omega) (by omega)
    rw [← hN] at h41
    rw [h41]
    simp only [Option.bind_some]
    rw [anyM_of (e := (List.range (L * P).toNat).map (R P l)) (fun w (x : List (Int × Int)) => x.length = (L * P).toNat ∧ (w.map Prod.fst).Nodup ∧ (∀ q, q ∈ w → q ∈ picks P (L * P) l) ∧ ∀ p : Nat, p < (L * P).toNat → ((p : Int) ∉ w.map Prod.fst) → x[p]? = some (R P l p))]
    · rw [hPL]; rfl
    · rintro w x ⟨q1, q2, q3, q4⟩ j p hj
      left
      have hm : p ∈ w := List.mem_of_getElem? hj
      have hk := k2 p.1 (List.mem_map_of_mem (f := Prod.fst) (q3 _ hm))
      refine ⟨x.set p.1.toNat p.2.1, ?_, ?_⟩
      · rw [gd_pos (by omega), gd_pos (by omega), gd_pos (by omega)]
      · have hw : w.map Prod.fst = (w.map Prod.fst) := rfl
        refine ⟨by simp [q1], ?_, fun q hq => q3 q (List.mem_of_mem_eraseIdx hq), fun i hi hn => ?_⟩
        · exact q2.sublist ((List.eraseIdx_sublist _ _).map _)
        · rw [List.getElem?_set]
          by_cases hip : p.1.toNat = i
          · rw [if_pos hip, if_pos (by omega)]
            have hf := ifind_mem k1 (show (p.1, p.2) ∈ picks P (L * P) l from q3 _ hm)
            rw [k3 _ hk.2] at hf
            unfold R
            rw [show (i : Int) = p.1 by omega, hf]
          · rw [if_neg hip]
            refine q4 i hi fun hc => ?_
            obtain ⟨q, hq, hqi⟩ := List.mem_map.1 hc
            refine hn (List.mem_map.2 ⟨q, ?_, hqi⟩)
            rw [List.mem_eraseIdx_iff_getElem?]
            obtain ⟨j', hj'⟩ := List.mem_iff_getElem?.1 hq
            refine ⟨j', fun e => ?_, hj'⟩
            subst e
            rw [hj] at hj'
            obtain rfl : p = q := by simpa using hj'
            omega
    · rintro x ⟨q1, -, -, q4⟩
      congr 2
      refine List.ext_getElem? fun i => ?_
      by_cases hi : i < (L * P).toNat
      · rw [q4 i hi (by simp)]; simp [hi]
      · rw [List.getElem?_eq_none (by omega), List.getElem?_eq_none (by simp; omega)]
    · refine ⟨by simp, k1, fun q hq => hq, fun p hp hn => ?_⟩
      rw [List.getElem?_replicate, if_pos hp]
      have := ifind_none hn
      rw [k3 _ (by omega)] at this
      unfold R; rw [this]
  · rfl
  · intro i hi
    simp only
    rw [if_pos (by omega), gd_pos (by omega), gd_pos (by omega), m68_eq (by omega) (by omega)]
    rw [take_snoc l i hi ((0, 0), (0, (0, (0, 0)))), picks_snoc]
    simp only [Int.toNat_natCast]
    generalize l.getD i ((0, 0), (0, (0, (0, 0)))) = e
    simp only [ Option.bind_some, mhas_ifind, mget_ifind, m40_eq, wrap64 (n := (i : Int) + 1) (by omega) (by omega)]
    unfold pick
    by_cases h1 : okE P e = true
    · rw [if_pos h1]
      by_cases h2 : e.2.2.1 < L * P
      · have hc : okE P e = true ∧ e.2.2.1 < L * P := ⟨h1, h2⟩
        rw [if_neg (show ¬ e.2.2.1 ≥ L * P by omega), if_pos hc]
        cases h3 : ifind (picks P (L * P) (l.take i)) e.2.2.1 with
        | none => simp
        | some b =>
          by_cases h4 : bt e b = true <;> simp [h4]
      · rw [if_pos (show e.2.2.1 ≥ L * P by omega), if_neg (fun h : okE P e = true ∧ e.2.2.1 < L * P => h2 h.2)]; rfl
    · rw [if_neg h1, if_neg (fun h : okE P e = true ∧ e.2.2.1 < L * P => h1 h.1)]; rfl
  · simp only [List.take_length]
    rw [if_neg (by omega)]

theorem m14_eq (P L : Int) (l : List Ent) (hs : shelfOk P L = true) (hL : L ≤ 32) (hl : l.length ≤ 1000000) : m14 (P, (L, (l, ()))) = some ((List.range (P * L).toNat).map (R P l), ()) := by
  have hs' := hs
  simp only [shelfOk, decide_eq_true_eq] at hs'
  exact m14_eq' P L l hs (by have := Int.mul_le_mul (a := L) (b := P) (c := 32) (d := 32) (by omega) (by omega) (by omega) (by omega); omega) hl

theorem m11_eq : m11 () = some (true, ()) := by
  unfold m11
  rw [m14_eq 4 2 _ (by decide) (by decide) (by simp), m16_eq _ (by simp)]
  rfl
end Go.Proofs.Ytefekolpfklhdaa
end

section
namespace Go.Proofs.Ytefekolpfklhdaa
open Go Go.Proofs.AM

theorem m83_ws (v : Nat → Nat) (hv : ∀ i, i < 5 → v i < 2 ^ w5 i) (h1 : v 1 = 0) (a b c d : Int) (ha : a = v 0) (hb : b = v 2) (hc : c = v 3) (hd : d = v 4) :
    Ok (m83 ((a, (b, (c, d))), ())) (fun r => ∃ q, r = (q ++ List.replicate 6 0, ()) ∧ Wr v 5 0 q) := by
  subst ha hb hc hd
  unfold m83
  have h0 := hv 0 (by omega); have h2 := hv 2 (by omega); have h3 := hv 3 (by omega); have h4 := hv 4 (by omega)
  simp only [w5, List.getD_cons_zero, List.getD_cons_succ] at h0 h2 h3 h4
  have e : ((8 : Int) :: ((8 : Int) :: ((32 : Int) :: ((64 : Int) :: ((64 : Int) :: ([] : List Int)))))) = ws := rfl
  have e2 : (IntKind.wrap .u64 ((v 0 : Nat) : Int) :: ((0 : Int) :: (IntKind.wrap .u64 ((v 2 : Nat) : Int) :: (IntKind.wrap .u64 ((v 3 : Nat) : Int) :: (IntKind.wrap .u64 ((v 4 : Nat) : Int) :: ([] : List Int)))))) = vl v := by
    have : (2 : Nat) ^ 8 = 256 := rfl
    have : (2 : Nat) ^ 32 = 4294967296 := rfl
    have : (2 : Nat) ^ 64 = 18446744073709551616 := rfl
    rw [wrapU64 (by omega) (by omega), wrapU64 (by omega) (by omega), wrapU64 (by omega) (by omega), wrapU64 (by omega) (by omega)]
    unfold vl
    rw [show ((0 : Int)) = ((v 1 : Nat) : Int) by rw [h1]; rfl]
    rfl
  simp only [e, e2]
  refine Ok.bind (m99_ws v hv) (fun r hr => ?_)
  obtain ⟨q, rfl, hq⟩ := hr
  have hl := hq.len
  refine Ok.bind (S := fun r => r = q ++ List.replicate 6 0) ?_ (fun r hr => Ok.some ⟨q, by rw [hr], hq⟩)
  refine Ok.loop 6 (fun i x => x = q ++ List.replicate i 0) (by simp) ?_
  rintro i x hi rfl
  have hlen : (q ++ List.replicate i (0 : Int)).length = 22 + i := by simp [hl]
  refine Ok.cond (fun hc => ?_) (fun hc => ?_)
  · rw [hlen] at hc
    refine Ok.gd ?_ (Ok.gd ?_ (Ok.inl ⟨by omega, ?_⟩))
    · rw [hlen]; simp only [List.length_cons, List.length_nil]; omega
    · rw [hlen]; simp only [List.length_cons, List.length_nil]; omega
    · rw [List.replicate_succ', List.append_assoc]
  · rw [hlen] at hc
    obtain rfl : i = 6 := by omega
    exact Ok.inr rfl

theorem streq_iff (a b : ByteArray) : streq a b = true ↔ a = b := by
  obtain ⟨a⟩ := a
  obtain ⟨b⟩ := b
  show (a == b) = true ↔ _
  rw [beq_iff_eq]
  simp

theorem ofNums_inj {a b : List Int} (ha : Bytes a) (hb : Bytes b) : streq (strOfNums a) (strOfNums b) = true ↔ a = b := by
  constructor
  · intro h
    have h2 : strOfNums a = strOfNums b := (streq_iff _ _).1 h
    have h3 : (strOfNums a).data.toList = (strOfNums b).data.toList := by rw [h2]
    rw [strOfNums_data, strOfNums_data] at h3
    have hl : a.length = b.length := by have := congrArg List.length h3; simpa using this
    apply List.ext_getElem hl
    intro i i1 i2
    have h4 : (a.map fun n => UInt8.ofNat n.toNat)[i]'(by simpa using i1) = (b.map fun n => UInt8.ofNat n.toNat)[i]'(by simpa using i2) := by simp only [h3]
    rw [List.getElem_map, List.getElem_map] at h4
    have h5 := congrArg UInt8.toNat h4
    obtain ⟨a0, a1⟩ := ha _ (List.getElem_mem i1)
    obtain ⟨b0, b1⟩ := hb _ (List.getElem_mem i2)
    simp only [UInt8.toNat_ofNat'] at h5
    omega
  · rintro rfl
    exact (streq_iff _ _).2 rfl

def Hd (o : List Int) : Rec := (((un (o.take 22) 0 8 : Nat) : Int), (((un (o.take 22) 16 32 : Nat) : Int), (((un (o.take 22) 48 64 : Nat) : Int), ((un (o.take 22) 112 64 : Nat) : Int))))

structure Good (d o : List Int) : Prop where
  st : stv (d ++ o) = 0
  v1 : un (o.take 22) 8 8 = 0
  v3 : un (o.take 22) 48 64 ≤ 1152921504606846976
  v4 : un (o.take 22) 112 64 ≤ 1152921504606846976
  zs : ∀ i, i < 6 → o.getD (22 + i) 0 = 0
  ch : chk (Hd o) = true

def Ans (d o : List Int) (h : Rec) (e : Int) : Prop := (e = 0 ↔ Good d o) ∧ (Good d o → h = Hd o)

theorem Ans.no {d o : List Int} {h : Rec} {e : Int} (he : e ≠ 0) (hg : ¬ Good d o) : Ans d o h e := ⟨⟨fun x => absurd x he, fun x => absurd x hg⟩, fun x => absurd x hg⟩

theorem getD_drop (l : List Int) (a n i : Nat) (h : i < n) : ((l.drop a).take n).getD i 0 = l.getD (a + i) 0 := by
  rw [List.getD_eq_getElem?_getD, List.getElem?_take, if_pos h, List.getElem?_drop, ← List.getD_eq_getElem?_getD]

theorem m79_eq (d : List Int) (hd : d.length = 256) : m79 (d, ()) = some d := by
  unfold m79
  have e : (gd ((((List.length ([] : List Int)) + (List.length d)) * 1) ≤ 140737488355328) (gd (((List.length ([] : List Int)) + (List.length d)) ≤ 140737488355328) (some (([] : List Int) ++ d)))) = some d := by
    rw [gd_pos (by simp only [List.length_nil]; omega), gd_pos (by simp only [List.length_nil]; omega)]; rfl
  simp only [e]
  rw [decide_eq_false (by omega)]
  simp [both]

theorem take_self' (d : List Int) (n : Nat) (h : d.length = n) : List.take (Int.toNat ((n : Nat) : Int) - Int.toNat 0) (List.drop (Int.toNat 0) d) = d := by
  show List.take (n - 0) d = d
  exact List.take_of_length_le (by omega)

theorem m57_ok (d o : List Int) (hd : d.length = 256) (ho : o.length = 32) (bd : Bytes d) (bo : Bytes o) : Ok (m57 ((d, o), ())) (fun r => Ans d o r.1 r.2.2.1) := by
  unfold m57
  have hb : Bytes (d ++ o) := fun x hx => (List.mem_append.1 hx).elim (bd x) (bo x)
  have hl : (d ++ o).length = 288 := by rw [List.length_append]; omega
  have e1 : List.take (Int.toNat 256 - Int.toNat 0) (List.drop (Int.toNat 0) d) = d := take_self' d 256 hd
  have e2 : List.take (Int.toNat 32 - Int.toNat 0) (List.drop (Int.toNat 0) o) = o := take_self' o 32 ho
  have e3 : List.take (Int.toNat 22 - Int.toNat 0) (List.drop (Int.toNat 0) o) = o.take 22 := rfl
  have e4 : List.take (Int.toNat 28 - Int.toNat 22) (List.drop (Int.toNat 22) o) = (o.drop 22).take 6 := rfl
  have e6 : ((o.drop 22).take 6).length = 6 := by simp [ho]
  have h22 : (o.take 22).length = 22 := by simp [ho]
  simp only [e1, e2, e3, e4, e6]
  rw [m74_eq d o hd ho]
  dsimp only [Option.bind_some]
  obtain ⟨r, hr, hs⟩ := m73_eq (d ++ o) hl hb
  subst hs
  rw [hr]
  dsimp only [Option.bind_some]
  refine Ok.ncond (fun h => Ok.some (Ans.no h (fun g => h g.st))) (fun hst => ?_)
  have hm76 : m76 () = some (ws, ()) := rfl
  rw [hm76]
  dsimp only [Option.bind_some]
  rw [m75_ws (o.take 22) (take_bytes bo 22) h22]
  dsimp only [Option.bind_some]
  have l5 : ((us (o.take 22) 5).length : Int) = 5 := rfl
  have g0 : (us (o.take 22) 5).getD (Int.toNat 0) 0 = ((un (o.take 22) 0 8 : Nat) : Int) := rfl
  have g1 : (us (o.take 22) 5).getD (Int.toNat 1) 0 = ((un (o.take 22) 8 8 : Nat) : Int) := rfl
  have g2 : (us (o.take 22) 5).getD (Int.toNat 2) 0 = ((un (o.take 22) 16 32 : Nat) : Int) := rfl
  have g3 : (us (o.take 22) 5).getD (Int.toNat 3) 0 = ((un (o.take 22) 48 64 : Nat) : Int) := rfl
  have g4 : (us (o.take 22) 5).getD (Int.toNat 4) 0 = ((un (o.take 22) 112 64 : Nat) : Int) := rfl
  simp only [l5, g0, g1, g2, g3, g4]
  have b0 : un (o.take 22) 0 8 < 256 := un_lt _ _ 8
  have b2 : un (o.take 22) 16 32 < 4294967296 := un_lt _ _ 32
  refine Ok.ncond (fun h => absurd trivial h) (fun _ => Ok.gd (by decide) (Ok.ncond (fun h => Ok.some (Ans.no (by show (30 : Int) ≠ 0; decide) (fun g => h (by rw [g.v1]; rfl)))) (fun h1 => ?_)))
  refine Ok.gd (by decide) (Ok.cond (fun h => Ok.some (Ans.no (by show (30 : Int) ≠ 0; decide) (fun g => by have := g.v3; omega))) (fun h3 => ?_))
  refine Ok.gd (by decide) (Ok.cond (fun h => Ok.some (Ans.no (by show (30 : Int) ≠ 0; decide) (fun g => by have := g.v4; omega))) (fun h4 => ?_))
  have w0 : IntKind.wrap .i64 ((un (o.take 22) 0 8 : Nat) : Int) = ((un (o.take 22) 0 8 : Nat) : Int) := wrap64 (by omega) (by omega)
  have w2 : IntKind.wrap .i64 ((un (o.take 22) 16 32 : Nat) : Int) = ((un (o.take 22) 16 32 : Nat) : Int) := wrap64 (by omega) (by omega)
  have w3 : IntKind.wrap .i64 ((un (o.take 22) 48 64 : Nat) : Int) = ((un (o.take 22) 48 64 : Nat) : Int) := wrap64 (by omega) (by omega)
  have w4 : IntKind.wrap .i64 ((un (o.take 22) 112 64 : Nat) : Int) = ((un (o.take 22) 112 64 : Nat) : Int) := wrap64 (by omega) (by omega)
  simp only [w0, w2, w3, w4]
  have eH : ((((un (o.take 22) 0 8 : Nat) : Int), (((un (o.take 22) 16 32 : Nat) : Int), (((un (o.take 22) 48 64 : Nat) : Int), ((un (o.take 22) 112 64 : Nat) : Int)))) : Rec) = Hd o := rfl
  simp only [eH, m46_eq, m79_eq d hd]
  refine Ok.bind (S := fun r => (r = .inl () ∧ ∀ i, i < 6 → o.getD (22 + i) 0 = 0) ∨ (∃ y, r = .inr y ∧ 0 ≤ y ∧ ¬ ∀ i, i < 6 → o.getD (22 + i) 0 = 0)) ?_ ?_
  · refine Ok.loop 6 (fun i x => x = (i : Int) ∧ ∀ j, j < i → o.getD (22 + j) 0 = 0) ⟨rfl, fun j hj => by omega⟩ ?_
    rintro i x hi ⟨rfl, h⟩
    refine Ok.cond (fun hc => ?_) (fun hc => Ok.inr (.inl ⟨rfl, fun j hj => h j (by omega)⟩))
    have hgd := getD_drop o 22 6 i (by omega)
    simp only [Int.toNat_natCast, hgd]
    refine Ok.gd (by omega) (Ok.gd hc (Ok.ncond (fun hne => Ok.inr (.inr ⟨_, rfl, by omega, fun hh => hne (hh i (by omega))⟩)) (fun he => Ok.inl ⟨by omega, wsucc (by omega), fun j hj => ?_⟩)))
    by_cases e : j = i
    · subst e; exact he
    · exact h j (by omega)
  · rintro r (⟨rfl, hz⟩ | ⟨y, rfl, hy, hz⟩)
    · dsimp only [Sum.elim_inl]
      refine Ok.cond (fun h => absurd h (by decide)) (fun _ => ?_)
      refine Ok.gd (by decide) (Ok.gd (by decide) (Ok.gd (by decide) (Ok.gd (by decide) ?_)))
      dsimp only [Option.bind_some]
      cases hch : chk (Hd o)
      · simp only [Bool.false_eq_true, if_false]
        exact Ok.ncond (fun _ => Ok.some (Ans.no (by show (30 : Int) ≠ 0; decide) (fun g => by have := g.ch; rw [hch] at this; exact absurd this (by simp)))) (fun h => absurd h (by decide))
      · simp only [if_true]
        refine Ok.ncond (fun h => absurd trivial h) (fun _ => Ok.some ⟨⟨fun _ => ⟨hst, by omega, by omega, by omega, hz, hch⟩, fun _ => rfl⟩, fun _ => rfl⟩)
    · dsimp only [Sum.elim_inr]
      refine Ok.cond (fun _ => Ok.some (Ans.no (by show (30 : Int) ≠ 0; decide) (fun g => hz g.zs))) (fun h => absurd hy h)

theorem zeros_iff (o : List Int) (ho : o.length = 32) : (o.drop 22).take 6 = List.replicate 6 0 ↔ ∀ i, i < 6 → o.getD (22 + i) 0 = 0 := by
  constructor
  · intro h i hi
    rw [← getD_drop o 22 6 i hi, h, List.getD_eq_getElem?_getD, List.getElem?_replicate, if_pos hi]; rfl
  · intro h
    apply ext_getD (by simp [ho])
    intro i hi
    have hi6 : i < 6 := by simp [ho] at hi; omega
    rw [getD_drop o 22 6 i hi6, h i hi6, List.getD_eq_getElem?_getD, List.getElem?_replicate, if_pos hi6]; rfl

def vs (b : List Int) (i : Nat) : Nat := if i = 1 then 0 else un b (at5 i) (w5 i)

theorem vs_lt (b : List Int) (i : Nat) : vs b i < 2 ^ w5 i := by
  unfold vs
  split
  · exact Nat.two_pow_pos _
  · exact un_lt _ _ _

theorem un_zero (b : List Int) (a : Nat) : ∀ w, (∀ q, q < w → bit b (a + q) = 0) → un b a w = 0
  | 0, _ => rfl
  | w + 1, h => by
    unfold un
    rw [un_zero b a w fun q hq => h q (by omega), h w (by omega)]

theorem field (p : Nat) (h : p < 176) : ∃ f, f < 5 ∧ ∃ q, q < w5 f ∧ p = at5 f + q := by
  by_cases h0 : p < 8
  · exact ⟨0, by omega, p, h0, by simp [at5]⟩
  by_cases h1 : p < 16
  · exact ⟨1, by omega, p - 8, by show p - 8 < 8; omega, by show p = 8 + (p - 8); omega⟩
  by_cases h2 : p < 48
  · exact ⟨2, by omega, p - 16, by show p - 16 < 32; omega, by show p = 16 + (p - 16); omega⟩
  by_cases h3 : p < 112
  · exact ⟨3, by omega, p - 48, by show p - 48 < 64; omega, by show p = 48 + (p - 48); omega⟩
  · exact ⟨4, by omega, p - 112, by show p - 112 < 64; omega, by show p = 112 + (p - 112); omega⟩

theorem packed {b q : List Int} (hb : Bytes b) (hl : b.length = 22) (hq : Wr (vs b) 5 0 q) : q = b ↔ un b 8 8 = 0 := by
  constructor
  · intro e
    subst e
    refine un_zero _ _ _ fun j hj => ?_
    rw [show 8 + j = at5 1 + j from rfl, hq.done 1 (by omega) j hj]
    simp [vs]
  · intro e
    apply bits_eq hq.bytes hb (hq.len.trans hl.symm)
    intro p hp
    rw [hq.len] at hp
    obtain ⟨f, hf, j, hj, rfl⟩ := field p (by omega)
    rw [hq.done f hf j hj]
    have hv : vs b f = un b (at5 f) (w5 f) := by
      unfold vs
      split
      · rename_i h1; subst h1; exact e.symm
      · rfl
    rw [hv]
    exact un_bit b (at5 f) (w5 f) j hj

theorem m58_ok (d o : List Int) (hd : d.length = 256) (ho : o.length = 32) (bd : Bytes d) (bo : Bytes o) : Ok (m58 ((d, o), ())) (fun r => Ans d o r.1 r.2.2.1) := by
  unfold m58
  have hb : Bytes (d ++ o) := fun x hx => (List.mem_append.1 hx).elim (bd x) (bo x)
  have hl : (d ++ o).length = 288 := by rw [List.length_append]; omega
  have h22 : (o.take 22).length = 22 := by simp [ho]
  rw [m81_eq d o hd ho]
  dsimp only [Option.bind_some]
  rw [m80_eq (d ++ o) hl hb]
  dsimp only [Option.bind_some]
  by_cases hst : stv (d ++ o) = 0
  rotate_left
  · rw [if_neg hst]
    refine Ok.ncond (fun h => Ok.some (Ans.no hst (fun g => hst g.st))) (fun h => absurd h hst)
  rw [if_pos hst]
  have hlt : ((d ++ o).take 284).length = 284 := by rw [List.length_take]; omega
  have hli : ((((d ++ o).take 284).length : Nat) : Int) = 284 := by rw [hlt]; rfl
  have e1 : List.take (Int.toNat 284 - Int.toNat 256) (List.drop (Int.toNat 256) ((d ++ o).take 284)) = o.take 28 := by
    show List.take 28 (List.drop 256 ((d ++ o).take 284)) = o.take 28
    rw [List.drop_take, List.drop_append_of_le_length (by omega), List.drop_eq_nil_of_le (by omega), List.nil_append, List.take_take]
    rfl
  have e2 : List.take (Int.toNat 22 - Int.toNat 0) (List.drop (Int.toNat 0) (o.take 28)) = o.take 22 := by
    show List.take 22 (o.take 28) = o.take 22
    rw [List.take_take]; rfl
  have l28 : (((o.take 28).length : Nat) : Int) = 28 := by simp [ho]
  have e7 : ((8 : Int) :: ((8 : Int) :: ((32 : Int) :: ((64 : Int) :: ((64 : Int) :: ([] : List Int)))))) = ws := rfl
  simp only [hli, e1, e2, l28, e7]
  refine Ok.ncond (fun h => absurd trivial h) (fun _ => Ok.gd (by decide) (Ok.gd (by decide) (Ok.gd (by decide) ?_)))
  rw [m82_ws (o.take 22) (take_bytes bo 22) h22]
  dsimp only [Option.bind_some]
  have l5 : ((us (o.take 22) 5).length : Int) = 5 := rfl
  have g0 : (us (o.take 22) 5).getD (Int.toNat 0) 0 = ((un (o.take 22) 0 8 : Nat) : Int) := rfl
  have g2 : (us (o.take 22) 5).getD (Int.toNat 2) 0 = ((un (o.take 22) 16 32 : Nat) : Int) := rfl
  have g3 : (us (o.take 22) 5).getD (Int.toNat 3) 0 = ((un (o.take 22) 48 64 : Nat) : Int) := rfl
  have g4 : (us (o.take 22) 5).getD (Int.toNat 4) 0 = ((un (o.take 22) 112 64 : Nat) : Int) := rfl
  simp only [l5, g0, g2, g3, g4]
  have b0 : un (o.take 22) 0 8 < 256 := un_lt _ _ 8
  have b2 : un (o.take 22) 16 32 < 4294967296 := un_lt _ _ 32
  refine Ok.gd (by decide) (Ok.cond (fun h => Ok.some (Ans.no (by show (30 : Int) ≠ 0; decide) (fun g => by have := g.v3; omega))) (fun h3 => ?_))
  refine Ok.gd (by decide) (Ok.cond (fun h => Ok.some (Ans.no (by show (30 : Int) ≠ 0; decide) (fun g => by have := g.v4; omega))) (fun h4 => ?_))
  have w0 : IntKind.wrap .i64 ((un (o.take 22) 0 8 : Nat) : Int) = ((un (o.take 22) 0 8 : Nat) : Int) := wrap64 (by omega) (by omega)
  have w2 : IntKind.wrap .i64 ((un (o.take 22) 16 32 : Nat) : Int) = ((un (o.take 22) 16 32 : Nat) : Int) := wrap64 (by omega) (by omega)
  have w3 : IntKind.wrap .i64 ((un (o.take 22) 48 64 : Nat) : Int) = ((un (o.take 22) 48 64 : Nat) : Int) := wrap64 (by omega) (by omega)
  have w4 : IntKind.wrap .i64 ((un (o.take 22) 112 64 : Nat) : Int) = ((un (o.take 22) 112 64 : Nat) : Int) := wrap64 (by omega) (by omega)
  simp only [w0, w2, w3, w4]
  have eH : ((((un (o.take 22) 0 8 : Nat) : Int), (((un (o.take 22) 16 32 : Nat) : Int), (((un (o.take 22) 48 64 : Nat) : Int), ((un (o.take 22) 112 64 : Nat) : Int)))) : Rec) = Hd o := rfl
  simp only [eH, m18_eq]
  refine Ok.gd (by decide) (Ok.gd (by decide) (Ok.gd (by decide) (Ok.gd (by decide) ?_)))
  dsimp only [Option.bind_some]
  cases hch : chk (Hd o)
  · simp only [Bool.false_eq_true, if_false]
    exact Ok.ncond (fun _ => Ok.some (Ans.no (by show (30 : Int) ≠ 0; decide) (fun g => by have := g.ch; rw [hch] at this; exact absurd this (by simp)))) (fun h => absurd h (by decide))
  simp only [if_true]
  refine Ok.ncond (fun h => absurd trivial h) (fun _ => ?_)
  refine Ok.bind (m83_ws (vs (o.take 22)) (fun i _ => vs_lt _ i) rfl _ _ _ _ rfl rfl rfl rfl) (fun r hr => ?_)
  obtain ⟨q, rfl, hq⟩ := hr
  have hpk := packed (take_bytes bo 22) h22 hq
  have hB : Bytes (q ++ List.replicate 6 0) := fun x hx => (List.mem_append.1 hx).elim (hq.bytes x) (fun h => by rw [List.eq_of_mem_replicate h]; decide)
  have hstr := ofNums_inj hB (take_bytes bo 28)
  have h28 : o.take 28 = o.take 22 ++ (o.drop 22).take 6 := by rw [show (28 : Nat) = 22 + 6 from rfl, List.take_add]
  have hiff : q ++ List.replicate 6 0 = o.take 28 ↔ un (o.take 22) 8 8 = 0 ∧ ∀ i, i < 6 → o.getD (22 + i) 0 = 0 := by
    rw [h28]
    constructor
    · intro h
      obtain ⟨a, b⟩ := List.append_inj h (hq.len.trans h22.symm)
      exact ⟨hpk.1 a, (zeros_iff o ho).1 b.symm⟩
    · rintro ⟨a, b⟩
      rw [hpk.2 a, (zeros_iff o ho).2 b]
  cases he : streq (strOfNums (q ++ List.replicate 6 0)) (strOfNums (o.take 28))
  · refine Ok.some (Ans.no (by show (30 : Int) ≠ 0; decide) (fun g => ?_))
    have := hstr.2 (hiff.2 ⟨g.v1, g.zs⟩)
    rw [he] at this
    exact absurd this (by simp)
  · obtain ⟨a, b⟩ := hiff.1 (hstr.1 he)
    refine Ok.gd (by decide) (Ok.some ⟨⟨fun _ => ⟨hst, a, by omega, by omega, b, hch⟩, fun _ => rfl⟩, fun _ => rfl⟩)
end Go.Proofs.Ytefekolpfklhdaa
end

section
namespace Go.Proofs.Ytefekolpfklhdaa
open Go Go.Proofs.AM

abbrev Pg := List Int × List Int
def PgOk (p : Pg) : Prop := p.1.length = 256 ∧ p.2.length = 32 ∧ Bytes p.1 ∧ Bytes p.2

section
open Classical
noncomputable def found (blk : Int) (ps : List Pg) : Nat → List Ent
  | 0 => []
  | i + 1 => if Good (ps.getD i ([], [])).1 (ps.getD i ([], [])).2 then found blk ps i ++ [((blk, (i : Int)), Hd (ps.getD i ([], [])).2)] else found blk ps i
end

theorem found_len (blk : Int) (ps : List Pg) : ∀ i, (found blk ps i).length ≤ i
  | 0 => Nat.le_refl _
  | i + 1 => by
    have := found_len blk ps i
    unfold found
    split
    · rw [List.length_append]; simp only [List.length_cons, List.length_nil]; omega
    · omega

theorem pg_mem {ps : List Pg} (h : ∀ p ∈ ps, PgOk p) {i : Nat} (hi : i < ps.length) : PgOk (ps.getD i ([], [])) := h _ (getD_mem hi)

theorem m29_eq (blk : Int) (ps : List Pg) (hl : ps.length ≤ 8) (h : ∀ p ∈ ps, PgOk p) : m29 (blk, (ps, ())) = some (found blk ps ps.length, ()) := by
  apply ok_eq
  unfold m29
  dsimp only
  refine Ok.bind (S := fun r => r = found blk ps ps.length) ?_ (fun r hr => Ok.some (by rw [hr]))
  refine Ok.loop ps.length (fun i x => x = (found blk ps i, (i : Int))) rfl ?_
  rintro i x hi rfl
  refine Ok.cond (fun hc => ?_) (fun hc => ?_)
  rotate_left
  · simp only at hc
    obtain rfl : i = ps.length := by omega
    exact Ok.inr rfl
  simp only at hc
  have hi' : i < ps.length := by omega
  have hp := pg_mem h hi'
  refine Ok.gd (by simp only; omega) (Ok.gd hc ?_)
  simp only [Int.toNat_natCast]
  obtain ⟨h1, h2, h3, h4⟩ := hp
  have hf := found_len blk ps i
  refine Ok.bind (m58_ok (ps.getD i ([], [])).1 (ps.getD i ([], [])).2 h1 h2 h3 h4) (fun r hr => ?_)
  refine Ok.cond (fun e => ?_) (fun e => Ok.inl ⟨by omega, ?_⟩)
  · have hg := hr.1.1 e
    refine Ok.gd ?_ (Ok.gd ?_ (Ok.inl ⟨by omega, ?_⟩))
    · simp only [List.length_cons, List.length_nil]; omega
    · simp only [List.length_cons, List.length_nil]; omega
    · rw [wsucc (by omega), found, if_pos hg, hr.2 hg]
  · rw [wsucc (by omega), found, if_neg (fun g => e (hr.1.2 g))]

theorem m28_self (l : List Ent) (hl : l.length ≤ 100000) : m28 (l, (l, ())) = some (true, ()) := by
  apply ok_eq
  unfold m28
  dsimp only
  refine Ok.ncond (fun h => absurd rfl h) (fun _ => ?_)
  refine Ok.bind (S := fun r => r = .inl ()) ?_ (fun r hr => by rw [hr]; exact Ok.some rfl)
  refine Ok.loop l.length (fun i x => x = (i : Int)) rfl ?_
  rintro i x hi rfl
  refine Ok.cond (fun hc => ?_) (fun hc => Ok.inr rfl)
  refine Ok.gd (by omega) (Ok.gd hc (Ok.gd (by omega) (Ok.gd hc ?_)))
  simp only [decide_true, Bool.and_self, Bool.not_true, Bool.cond_false]
  exact Ok.inl ⟨by omega, wsucc (by omega)⟩

theorem ScanFinds_pure : ∀ x : AM.PDen [(false, (.int .i64)), (false, (.sl (.pair (.ar 256 (.int .u8)) (.ar 32 (.int .u8)))))], AM.PWf _ x → m8 x = some (true, ()) := by
  suffices H : ∀ (blk : Int) (ps : List Pg), (∀ p ∈ ps, PgOk p) → m8 (blk, (ps, ())) = some (true, ()) by
    rintro ⟨blk, ps, ⟨⟩⟩ hw
    refine H blk ps fun p hp => ?_
    have hws : ∀ x ∈ ps, (K.pair (.ar 256 (.int .u8)) (.ar 32 (.int .u8))).wf x := hw.2.1.2
    have hwp : (List.length p.1 = 256 ∧ ∀ y ∈ p.1, (Lit.int .u8 y).wf = true) ∧ (List.length p.2 = 32 ∧ ∀ y ∈ p.2, (Lit.int .u8 y).wf = true) := hws p hp
    have hby : ∀ y : Int, (Lit.int .u8 y).wf = true → 0 ≤ y ∧ y < 256 := by
      intro y hy
      simp only [Lit.wf, IntKind.min, IntKind.max, IntKind.signed, IntKind.bits, Bool.and_eq_true, decide_eq_true_eq, if_true, Bool.false_eq_true, if_false] at hy
      omega
    exact ⟨hwp.1.1, hwp.2.1, fun y hy => hby y (hwp.1.2 y hy), fun y hy => hby y (hwp.2.2 y hy)⟩
  intro blk qs hq
  apply ok_eq
  unfold m8
  rw [m11_eq]
  dsimp only [Option.bind_some]
  refine Ok.condb (fun h => absurd h (by decide)) (fun _ => ?_)
  have hm : (0 : Int) ≤ (if (8 : Int) < (((List.length qs) : Nat) : Int) then (8 : Int) else (((List.length qs) : Nat) : Int)) ∧ (if (8 : Int) < (((List.length qs) : Nat) : Int) then (8 : Int) else (((List.length qs) : Nat) : Int)) ≤ (((List.length qs) : Nat) : Int) ∧
      (if (8 : Int) < (((List.length qs) : Nat) : Int) then (8 : Int) else (((List.length qs) : Nat) : Int)) ≤ 8 := by
    split <;> omega
  generalize (if (8 : Int) < (((List.length qs) : Nat) : Int) then (8 : Int) else (((List.length qs) : Nat) : Int)) = m at hm ⊢
  refine Ok.gd hm.1 (Ok.gd hm.2.1 ?_)
  have hl : (List.take (Int.toNat m - Int.toNat 0) (List.drop (Int.toNat 0) qs)).length ≤ 8 := by
    rw [List.length_take]
    show min (m.toNat - 0) _ ≤ 8
    omega
  have h : ∀ p ∈ List.take (Int.toNat m - Int.toNat 0) (List.drop (Int.toNat 0) qs), PgOk p := fun p hp => hq p (List.mem_of_mem_drop (List.mem_of_mem_take hp))
  generalize List.take (Int.toNat m - Int.toNat 0) (List.drop (Int.toNat 0) qs) = ps at hl h ⊢
  refine Ok.bind (S := fun r => r = found blk ps ps.length) ?_ (fun r hr => ?_)
  · refine Ok.loop ps.length (fun i x => x = ((i : Int), found blk ps i)) rfl ?_
    rintro i x hi rfl
    refine Ok.cond (fun hc => ?_) (fun hc => ?_)
    rotate_left
    · simp only at hc
      obtain rfl : i = ps.length := by omega
      exact Ok.inr rfl
    simp only at hc
    have hi' : i < ps.length := by omega
    have hp := pg_mem h hi'
    refine Ok.gd (by simp only; omega) (Ok.gd hc ?_)
    simp only [Int.toNat_natCast]
    obtain ⟨h1, h2, h3, h4⟩ := hp
    have hf := found_len blk ps i
    refine Ok.bind (m57_ok (ps.getD i ([], [])).1 (ps.getD i ([], [])).2 h1 h2 h3 h4) (fun r hr => ?_)
    refine Ok.cond (fun e => ?_) (fun e => Ok.inl ⟨by omega, ?_⟩)
    · have hg := hr.1.1 e
      refine Ok.gd ?_ (Ok.gd ?_ (Ok.inl ⟨by omega, ?_⟩))
      · simp only [List.length_cons, List.length_nil]; omega
      · simp only [List.length_cons, List.length_nil]; omega
      · rw [wsucc (by omega), found, if_pos hg, hr.2 hg]
    · rw [wsucc (by omega), found, if_neg (fun g => e (hr.1.2 g))]
  · subst hr
    rw [m29_eq blk ps hl h]
    dsimp only [Option.bind_some]
    have := found_len blk ps ps.length
    rw [m28_self _ (by omega)]
    exact Ok.some rfl
end Go.Proofs.Ytefekolpfklhdaa
end
