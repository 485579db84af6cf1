/- What the functions of this claim compute, each shown by the kernel, and what that comes to, with no program in sight. No condition. -/
import Derived.Test.YtjleeabhpfmhaaaProg
import Derived.Test.YtjleeabhpfmhaaaAmd
import Derived.KernelRfl
import Derived.Shelf.Spec.SlicesGrow
import Derived.Shelf.Sort.Plain
import Derived.Shelf.Slices.In.SortNone
import Derived.Test.YtjleeabhpfmhaaaAme
set_option maxRecDepth 2000
set_option linter.unusedVariables false
set_option linter.unusedSimpArgs false
section
namespace Go.Proofs.Ytjleeabhpfmhaaa
open Go Go.Proofs.AM
abbrev TyD : Type := ((List (List Int)) × ((List Bool) × (Bool × (Bool × (Int × (Int × (List (Int × (List Int)))))))))
abbrev TyT : Type := (Int × ((List (Int × (List Int))) × (List Int)))
end Go.Proofs.Ytjleeabhpfmhaaa
end
section
namespace Go.Proofs.Ytjleeabhpfmhaaa
theorem Try.follows : Try.prog.follows .mixedOrders = true := by kernel_rfl
end Go.Proofs.Ytjleeabhpfmhaaa
end

section
open Go Go.Proofs.AM
namespace Go.Proofs.Ytjleeabhpfmhaaa

noncomputable def m10 (x : Int × Int × Int × Unit) : Option (Int × Unit) :=
 bif (decide (x.1 < (2 : Int))) then
 (some ((0 : Int), ()))
 else
 (bif (decide (x.2.1 < (1 : Int))) then
 (some ((0 : Int), ()))
 else
 (bif (decide (x.2.1 > (Go.IntKind.wrap .i64 (x.1 - (1 : Int))))) then
 (some ((0 : Int), ()))
 else
 (bif (decide (x.2.2.1 < (0 : Int))) then
 (some ((0 : Int), ()))
 else
 (bif (decide (x.2.2.1 > (Go.IntKind.wrap .i64 (x.1 - (2 : Int))))) then
 (some ((0 : Int), ()))
 else
 (if (Go.IntKind.wrap .i64 (x.1 - (1 : Int))) = (0 : Int) then
 (none)
 else
 (some ((Go.IntKind.wrap .i64 ((1 : Int) + (Int.tmod (Go.IntKind.wrap .i64 ((Go.IntKind.wrap .i64 (x.2.1 - (1 : Int))) + x.2.2.1)) (Go.IntKind.wrap .i64 (x.1 - (1 : Int)))))), ())))))))

noncomputable def r10 : PDen [(false, (.int .i64)), (false, (.int .i64)), (false, (.int .i64))] → Option (PDen [(false, (.int .i64))]) := fun x => afun Try.prog (envOf [] [] [] []) ⟨[], []⟩ Try.f10 [(false, (.int .i64)), (false, (.int .i64)), (false, (.int .i64))] [(false, (.int .i64))] false x
theorem r10_eq : r10 = m10 := by kernel_rfl

theorem c10 : CS.Sound Try.prog 10 ⟨[(false, (.int .i64)), (false, (.int .i64)), (false, (.int .i64))], [(false, (.int .i64))], false, m10⟩ := afun_sound' (envOf_sound (CSs.nil) (HDs.nil) (IDs.nil)) rfl Try.follows (f := 10) (fn := Try.f10) Try.func10 (by kernel_rfl) (by kernel_rfl) r10_eq
end Go.Proofs.Ytjleeabhpfmhaaa
end

section
open Go Go.Proofs.AM
namespace Go.Proofs.Ytjleeabhpfmhaaa

noncomputable def m35 (x : (List Int) × Int × Unit) : Option (Int × ((List Int) × Unit)) :=
 gd ((0 : Int) ≤ x.2.1) (gd (x.2.1 ≤ (((List.length x.1) : Nat) : Int)) (Option.bind (loopM (X := (Int × Int)) (E := Int) (fun (x1 : (Int × Int)) =>
 bif (decide (x1.2 < (((List.length (List.take ((Int.toNat x.2.1) - (Int.toNat (0 : Int))) (List.drop (Int.toNat (0 : Int)) x.1))) : Nat) : Int))) then
 (gd ((0 : Int) ≤ x1.2) (gd (x1.2 < (((List.length (List.take ((Int.toNat x.2.1) - (Int.toNat (0 : Int))) (List.drop (Int.toNat (0 : Int)) x.1))) : Nat) : Int)) (some (Sum.inl ((ior .u64 (ishl .u64 x1.1 (8 : Int)) (Go.IntKind.wrap .u64 (List.getD (List.take ((Int.toNat x.2.1) - (Int.toNat (0 : Int))) (List.drop (Int.toNat (0 : Int)) x.1)) (Int.toNat x1.2) (0 : Int)))), (Go.IntKind.wrap .i64 (x1.2 + (1 : Int))))))))
 else
 (some (Sum.inr x1.1))) ((0 : Int), (0 : Int))) fun (y1 : Int) =>
 gd ((0 : Int) ≤ x.2.1) (gd (x.2.1 ≤ (((List.length x.1) : Nat) : Int)) (gd ((((List.length x.1) : Nat) : Int) ≤ (((List.length x.1) : Nat) : Int)) (some (y1, ((List.take ((Int.toNat (((List.length x.1) : Nat) : Int)) - (Int.toNat x.2.1)) (List.drop (Int.toNat x.2.1) x.1)), ())))))))

noncomputable def r35 : PDen [(false, (.sl (.int .u8))), (false, (.int .i64))] → Option (PDen [(false, (.int .u64)), (false, (.sl (.int .u8)))]) := fun x => afun Try.prog (envOf [] [] [] []) ⟨[(0, ⟨[.slot 6 (.d false (.int .u64) true), .slot 13 (.d false (.int .i64) true)], [], [(some 0, [.slot 6 (.d false (.int .u64) true)])], none⟩)], []⟩ Try.f35 [(false, (.sl (.int .u8))), (false, (.int .i64))] [(false, (.int .u64)), (false, (.sl (.int .u8)))] true x
theorem r35_eq : r35 = m35 := by kernel_rfl

theorem c35 : CS.Sound Try.prog 35 ⟨[(false, (.sl (.int .u8))), (false, (.int .i64))], [(false, (.int .u64)), (false, (.sl (.int .u8)))], true, m35⟩ := afun_sound' (envOf_sound (CSs.nil) (HDs.nil) (IDs.nil)) rfl Try.follows (f := 35) (fn := Try.f35) Try.func35 (by kernel_rfl) (by kernel_rfl) r35_eq
end Go.Proofs.Ytjleeabhpfmhaaa
end

section
open Go Go.Proofs.AM
namespace Go.Proofs.Ytjleeabhpfmhaaa

noncomputable def m58 (x : Int × Unit) : Option (Bool × Unit) :=
 bif (decide (x.1 ≥ (1 : Int))) then
 (some ((decide (x.1 ≤ (281474976710656 : Int))), ()))
 else
 (some (false, ()))

noncomputable def r58 : PDen [(false, (.int .i64))] → Option (PDen [(false, .bool)]) := fun x => afun Try.prog (envOf [] [] [] []) ⟨[], []⟩ Try.f58 [(false, (.int .i64))] [(false, .bool)] false x
theorem r58_eq : r58 = m58 := by kernel_rfl

theorem c58 : CS.Sound Try.prog 58 ⟨[(false, (.int .i64))], [(false, .bool)], false, m58⟩ := afun_sound' (envOf_sound (CSs.nil) (HDs.nil) (IDs.nil)) rfl Try.follows (f := 58) (fn := Try.f58) Try.func58 (by kernel_rfl) (by kernel_rfl) r58_eq
end Go.Proofs.Ytjleeabhpfmhaaa
end

section
namespace Go.Proofs
open Go.Shelf
def Try.growBytes_ren : Go.Shelf.Ren := ⟨fun | 4 => 91 | n => n, fun | 22 => 33 | 25 => 5 | 3 => 3 | 4 => 4 | 9 => 9 | 20 => 20 | 0 => 0 | n => n, fun | n => n⟩
theorem Try.growBytes : Go.Proofs.Lays8.n4 Try.prog Try.growBytes_ren := {
  mixed := by kernel_rfl
  f4 := ⟨Try.f91.name, by decide, Try.func91.trans (congrArg some (by kernel_rfl))⟩
  t0 := Try.underlying0
  a0 := Try.isAgg0
  z0 := Try.sizeOf0
  v0 := Try.zeroValue0
  t3 := Try.underlying3
  a3 := Try.isAgg3
  z3 := Try.sizeOf3
  v3 := Try.zeroValue3
  t4 := Try.underlying4
  a4 := Try.isAgg4
  z4 := Try.sizeOf4
  v4 := Try.zeroValue4
  t9 := Try.underlying9
  a9 := Try.isAgg9
  z9 := Try.sizeOf9
  v9 := Try.zeroValue9
  t20 := Try.underlying20
  a20 := Try.isAgg20
  z20 := Try.sizeOf20
  v20 := Try.zeroValue20
  t22 := Try.underlying33
  a22 := Try.isAgg33
  z22 := Try.sizeOf33
  v22 := Try.zeroValue33 }
end Go.Proofs
end

section
open Go Go.Proofs.AM
namespace Go.Proofs.Ytjleeabhpfmhaaa
theorem g91 : (growHD 5 (.int .u8) 1).Sound Try.prog 91 := by
  have h : (Try.prog.info? 5).map (fun i => (i.size, i.bytes, i.zero)) = some (1, 1, some (.int .u8 0)) := by kernel_rfl
  obtain ⟨i, hi, hs⟩ := Option.map_eq_some_iff.1 h
  simp only [Prod.mk.injEq] at hs
  exact growHD_sound Try.growBytes rfl rfl (fun args w => enters_of Try.func91 (by kernel_rfl) rfl args w) hi hs.2.2 rfl hs.1 (by decide) hs.2.1
end Go.Proofs.Ytjleeabhpfmhaaa
end

section
open Go Go.Proofs.AM
namespace Go.Proofs.Ytjleeabhpfmhaaa

noncomputable def m80 (x : (List (List Int)) × Unit) : Option ((List Int) × Unit) :=
 Option.bind (loopM (X := (Int × Int)) (E := Int) (fun (x1 : (Int × Int)) =>
 bif (decide (x1.2 < (((List.length x.1) : Nat) : Int))) then
 (gd ((0 : Int) ≤ x1.2) (gd (x1.2 < (((List.length x.1) : Nat) : Int)) (bif (decide ((Go.IntKind.wrap .i64 (x1.1 + (((List.length (List.getD x.1 (Int.toNat x1.2) ([] : List Int))) : Nat) : Int))) < (0 : Int))) then
 (none)
 else
 (some (Sum.inl ((Go.IntKind.wrap .i64 (x1.1 + (((List.length (List.getD x.1 (Int.toNat x1.2) ([] : List Int))) : Nat) : Int))), (Go.IntKind.wrap .i64 (x1.2 + (1 : Int)))))))))
 else
 (some (Sum.inr x1.1))) ((0 : Int), (0 : Int))) fun (y1 : Int) =>
 Option.bind (gd ((0 : Int) ≤ y1) (gd ((y1 * (1 : Int)) ≤ (140737488355328 : Int)) (gd (y1 ≤ (4611686018427387904 : Int)) (some ())))) fun (y2 : Unit) =>
 Option.bind (loopM (X := ((List Int) × Int)) (E := (List Int)) (fun (x3 : ((List Int) × Int)) =>
 bif (decide (x3.2 < (((List.length x.1) : Nat) : Int))) then
 (gd ((0 : Int) ≤ x3.2) (gd (x3.2 < (((List.length x.1) : Nat) : Int)) (gd ((((List.length x3.1) + (List.length (List.getD x.1 (Int.toNat x3.2) ([] : List Int)))) * 1) ≤ 140737488355328) (gd (((List.length x3.1) + (List.length (List.getD x.1 (Int.toNat x3.2) ([] : List Int)))) ≤ 140737488355328) (some (Sum.inl ((x3.1 ++ (List.getD x.1 (Int.toNat x3.2) ([] : List Int))), (Go.IntKind.wrap .i64 (x3.2 + (1 : Int))))))))))
 else
 (some (Sum.inr x3.1))) (([] : List Int), (0 : Int))) fun (y3 : (List Int)) =>
 some (y3, ())

noncomputable def r80 : PDen [(false, (.sl (.sl (.int .u8))))] → Option (PDen [(false, (.sl (.int .u8)))]) := fun x => afun Try.prog (envOf [] [(91, growHD 5 (.int .u8) 1)] [] []) ⟨[(0, ⟨[.slot 3 (.d false (.int .i64) true), .slot 11 (.d false (.int .i64) true)], [], [(some 0, [.slot 3 (.d false (.int .i64) true)])], none⟩), (2, ⟨[.slot 6 (.v 5 (.int .u8) true), .slot 27 (.d false (.int .i64) true)], [0], [(some 2, [.slot 6 (.v 5 (.int .u8) true)])], none⟩)], []⟩ Try.f80 [(false, (.sl (.sl (.int .u8))))] [(false, (.sl (.int .u8)))] false x
theorem r80_eq : r80 = m80 := by kernel_rfl

theorem c80 : CS.Sound Try.prog 80 ⟨[(false, (.sl (.sl (.int .u8))))], [(false, (.sl (.int .u8)))], false, m80⟩ := afun_sound' (envOf_sound (CSs.nil) (HDs.cons g91 (HDs.nil)) (IDs.nil)) rfl Try.follows (f := 80) (fn := Try.f80) Try.func80 (by kernel_rfl) (by kernel_rfl) r80_eq
end Go.Proofs.Ytjleeabhpfmhaaa
end

section
open Go Go.Proofs.AM
namespace Go.Proofs.Ytjleeabhpfmhaaa

noncomputable def m92 (x : (List Int) × Unit) : Option (Int × Unit) :=
 Option.bind (loopM (X := (Int × Int)) (E := Int) (fun (x1 : (Int × Int)) =>
 bif (decide (x1.2 < (((List.length x.1) : Nat) : Int))) then
 (gd ((0 : Int) ≤ x1.2) (gd (x1.2 < (((List.length x.1) : Nat) : Int)) (Option.bind (loopM (X := (Int × Int)) (E := Int) (fun (x2 : (Int × Int)) =>
 bif (decide (x2.2 < (8 : Int))) then
 (gd ((0 : Int) ≤ x2.2) (bif (decide ((iand .u8 (ishr .u8 (List.getD x.1 (Int.toNat x1.2) (0 : Int)) x2.2) (1 : Int)) = (0 : Int))) then
 (some (Sum.inl ((Go.IntKind.wrap .i64 (x2.1 + (1 : Int))), (Go.IntKind.wrap .i64 (x2.2 + (1 : Int))))))
 else
 (some (Sum.inl (x2.1, (Go.IntKind.wrap .i64 (x2.2 + (1 : Int))))))))
 else
 (some (Sum.inr x2.1))) (x1.1, (0 : Int))) fun (y2 : Int) =>
 some (Sum.inl (y2, (Go.IntKind.wrap .i64 (x1.2 + (1 : Int))))))))
 else
 (some (Sum.inr x1.1))) ((0 : Int), (0 : Int))) fun (y1 : Int) =>
 some (y1, ())

noncomputable def r92 : PDen [(false, (.sl (.int .u8)))] → Option (PDen [(false, (.int .i64))]) := fun x => afun Try.prog (envOf [] [] [] []) ⟨[(0, ⟨[.slot 3 (.d false (.int .i64) true), .slot 9 (.d false (.int .i64) true)], [], [(some 0, [.slot 3 (.d false (.int .i64) true)])], none⟩), (2, ⟨[.slot 3 (.d false (.int .i64) true), .slot 13 (.d false (.int .i64) true)], [], [(some 2, [.slot 3 (.d false (.int .i64) true)])], none⟩)], []⟩ Try.f92 [(false, (.sl (.int .u8)))] [(false, (.int .i64))] false x
theorem r92_eq : r92 = m92 := by kernel_rfl

theorem c92 : CS.Sound Try.prog 92 ⟨[(false, (.sl (.int .u8)))], [(false, (.int .i64))], false, m92⟩ := afun_sound' (envOf_sound (CSs.nil) (HDs.nil) (IDs.nil)) rfl Try.follows (f := 92) (fn := Try.f92) Try.func92 (by kernel_rfl) (by kernel_rfl) r92_eq
end Go.Proofs.Ytjleeabhpfmhaaa
end

section
open Go Go.Proofs.AM
namespace Go.Proofs.Ytjleeabhpfmhaaa

noncomputable def m81 (x : (List Int) × Unit) : Option ((List Int) × Unit) :=
 Option.bind (m92 (x.1, ())) fun (y1 : (Int × Unit)) =>
 some (((Go.IntKind.wrap .u8 (ishr .i64 y1.1 (24 : Int))) :: ((Go.IntKind.wrap .u8 (ishr .i64 y1.1 (16 : Int))) :: ((Go.IntKind.wrap .u8 (ishr .i64 y1.1 (8 : Int))) :: ((Go.IntKind.wrap .u8 y1.1) :: ([] : List Int))))), ())

noncomputable def r81 : PDen [(false, (.sl (.int .u8)))] → Option (PDen [(false, (.sl (.int .u8)))]) := fun x => afun Try.prog (envOf [(92, ⟨[(false, (.sl (.int .u8)))], [(false, (.int .i64))], false, m92⟩)] [] [] []) ⟨[], []⟩ Try.f81 [(false, (.sl (.int .u8)))] [(false, (.sl (.int .u8)))] false x
theorem r81_eq : r81 = m81 := by kernel_rfl

theorem c81 : CS.Sound Try.prog 81 ⟨[(false, (.sl (.int .u8)))], [(false, (.sl (.int .u8)))], false, m81⟩ := afun_sound' (envOf_sound (CSs.cons c92 (CSs.nil)) (HDs.nil) (IDs.nil)) rfl Try.follows (f := 81) (fn := Try.f81) Try.func81 (by kernel_rfl) (by kernel_rfl) r81_eq
end Go.Proofs.Ytjleeabhpfmhaaa
end

section
open Go Go.Proofs.AM
namespace Go.Proofs.Ytjleeabhpfmhaaa

noncomputable def m59 (x : (List Int) × Unit) : Option ((List Int) × (Int × Unit)) :=
 bif (decide ((((List.length x.1) : Nat) : Int) > (1048576 : Int))) then
 (some (([] : List Int), ((3 : Int), ())))
 else
 (Option.bind (m81 (x.1, ())) fun (y1 : ((List Int) × Unit)) =>
 Option.bind (m80 ((x.1 :: (y1.1 :: ([] : List (List Int)))), ())) fun (y2 : ((List Int) × Unit)) =>
 some (y2.1, ((0 : Int), ())))

noncomputable def r59 : PDen [(false, (.sl (.int .u8)))] → Option (PDen [(false, (.sl (.int .u8))), (false, (.int .i64))]) := fun x => afun Try.prog (envOf [(80, ⟨[(false, (.sl (.sl (.int .u8))))], [(false, (.sl (.int .u8)))], false, m80⟩), (81, ⟨[(false, (.sl (.int .u8)))], [(false, (.sl (.int .u8)))], false, m81⟩)] [] [] []) ⟨[], []⟩ Try.f59 [(false, (.sl (.int .u8)))] [(false, (.sl (.int .u8))), (false, (.int .i64))] false x
theorem r59_eq : r59 = m59 := by kernel_rfl

theorem c59 : CS.Sound Try.prog 59 ⟨[(false, (.sl (.int .u8)))], [(false, (.sl (.int .u8))), (false, (.int .i64))], false, m59⟩ := afun_sound' (envOf_sound (CSs.cons c80 (CSs.cons c81 (CSs.nil))) (HDs.nil) (IDs.nil)) rfl Try.follows (f := 59) (fn := Try.f59) Try.func59 (by kernel_rfl) (by kernel_rfl) r59_eq
end Go.Proofs.Ytjleeabhpfmhaaa
end

section
open Go Go.Proofs.AM
namespace Go.Proofs.Ytjleeabhpfmhaaa

noncomputable def m60 (x : (List Int) × Int × Unit) : Option (List Int) :=
 gd ((0 : Int) ≤ (Go.IntKind.wrap .i64 (x.2.1 - (((List.length x.1) : Nat) : Int)))) (gd ((((List.length x.1) + (List.length (List.replicate (Int.toNat (Go.IntKind.wrap .i64 (x.2.1 - (((List.length x.1) : Nat) : Int)))) (0 : Int)))) * 1) ≤ 140737488355328) (gd (((List.length x.1) + (List.length (List.replicate (Int.toNat (Go.IntKind.wrap .i64 (x.2.1 - (((List.length x.1) : Nat) : Int)))) (0 : Int)))) ≤ 140737488355328) (some (x.1 ++ (List.replicate (Int.toNat (Go.IntKind.wrap .i64 (x.2.1 - (((List.length x.1) : Nat) : Int)))) (0 : Int))))))

noncomputable def r60 : PDen ((false, (.sl (.int .u8))) :: [(false, (.int .i64))]) → Option (List (K.den (.int .u8))) := fun x => afunCO Try.prog (envOf [] [] [] []) ⟨[], []⟩ Try.f60 5 (.int .u8) [(false, (.int .i64))] x
theorem r60_eq : r60 = m60 := by kernel_rfl

theorem c60 : COc.Sound Try.prog 60 ⟨5, (.int .u8), [(false, (.int .i64))], m60⟩ := afunCO_sound' (envOf_sound (CSs.nil) (HDs.nil) (IDs.nil)) rfl Try.follows (f := 60) (fn := Try.f60) Try.func60 (by kernel_rfl) (by kernel_rfl) r60_eq
end Go.Proofs.Ytjleeabhpfmhaaa
end

section
open Go Go.Proofs.AM
namespace Go.Proofs.Ytjleeabhpfmhaaa

noncomputable def m61 (x : (List Int) × Int × Int × Unit) : Option (List Int) :=
 Option.bind (loopM (X := ((List Int) × Int)) (E := (List Int)) (fun (x1 : ((List Int) × Int)) =>
 bif (decide (x1.2 ≥ (0 : Int))) then
 (gd ((0 : Int) ≤ (Go.IntKind.wrap .i64 ((8 : Int) * x1.2))) (gd ((((List.length x1.1) + (List.length ((Go.IntKind.wrap .u8 (ishr .u64 x.2.1 (Go.IntKind.wrap .i64 ((8 : Int) * x1.2)))) :: ([] : List Int)))) * 1) ≤ 140737488355328) (gd (((List.length x1.1) + (List.length ((Go.IntKind.wrap .u8 (ishr .u64 x.2.1 (Go.IntKind.wrap .i64 ((8 : Int) * x1.2)))) :: ([] : List Int)))) ≤ 140737488355328) (some (Sum.inl ((x1.1 ++ ((Go.IntKind.wrap .u8 (ishr .u64 x.2.1 (Go.IntKind.wrap .i64 ((8 : Int) * x1.2)))) :: ([] : List Int))), (Go.IntKind.wrap .i64 (x1.2 - (1 : Int)))))))))
 else
 (some (Sum.inr x1.1))) (x.1, (Go.IntKind.wrap .i64 (x.2.2.1 - (1 : Int))))) fun (y1 : (List Int)) =>
 some y1

noncomputable def r61 : PDen ((false, (.sl (.int .u8))) :: [(false, (.int .u64)), (false, (.int .i64))]) → Option (List (K.den (.int .u8))) := fun x => afunCO Try.prog (envOf [] [] [] []) ⟨[(0, ⟨[.slot 0 (.v 5 (.int .u8) true), .slot 7 (.d false (.int .i64) true)], [0], [(some 0, [.slot 0 (.v 5 (.int .u8) true)])], none⟩)], []⟩ Try.f61 5 (.int .u8) [(false, (.int .u64)), (false, (.int .i64))] x
theorem r61_eq : r61 = m61 := by kernel_rfl

theorem c61 : COc.Sound Try.prog 61 ⟨5, (.int .u8), [(false, (.int .u64)), (false, (.int .i64))], m61⟩ := afunCO_sound' (envOf_sound (CSs.nil) (HDs.nil) (IDs.nil)) rfl Try.follows (f := 61) (fn := Try.f61) Try.func61 (by kernel_rfl) (by kernel_rfl) r61_eq
end Go.Proofs.Ytjleeabhpfmhaaa
end

section
open Go Go.Proofs.AM
namespace Go.Proofs.Ytjleeabhpfmhaaa

noncomputable def m36 (x : (Int × Int) × Unit) : Option ((List Int) × (Int × Unit)) :=
 bif (decide (x.1.1 < (0 : Int))) then
 (some (([] : List Int), ((1 : Int), ())))
 else
 (bif (decide (x.1.1 ≥ (64 : Int))) then
 (some (([] : List Int), ((1 : Int), ())))
 else
 (Option.bind (m58 (x.1.2, ())) fun (y1 : (Bool × Unit)) =>
 bif (!y1.1) then
 (some (([] : List Int), ((1 : Int), ())))
 else
 (Option.bind (m61 (([] : List Int), ((1397508656 : Int), ((4 : Int), ())))) fun (y2 : (List Int)) =>
 Option.bind (m61 (y2, ((Go.IntKind.wrap .u64 x.1.1), ((4 : Int), ())))) fun (y3 : (List Int)) =>
 Option.bind (m61 (y3, ((Go.IntKind.wrap .u64 x.1.2), ((8 : Int), ())))) fun (y4 : (List Int)) =>
 Option.bind (m60 (y4, ((252 : Int), ()))) fun (y5 : (List Int)) =>
 Option.bind (m59 (y5, ())) fun (y6 : ((List Int) × (Int × Unit))) =>
 some (y6.1, (y6.2.1, ())))))

noncomputable def r36 : PDen [(true, (.pair (.int .i64) (.int .i64)))] → Option (PDen [(false, (.sl (.int .u8))), (false, (.int .i64))]) := fun x => afun Try.prog (envOf [(58, ⟨[(false, (.int .i64))], [(false, .bool)], false, m58⟩), (59, ⟨[(false, (.sl (.int .u8)))], [(false, (.sl (.int .u8))), (false, (.int .i64))], false, m59⟩)] [(60, COc.hd ⟨5, (.int .u8), [(false, (.int .i64))], m60⟩), (61, COc.hd ⟨5, (.int .u8), [(false, (.int .u64)), (false, (.int .i64))], m61⟩)] [] []) ⟨[], []⟩ Try.f36 [(true, (.pair (.int .i64) (.int .i64)))] [(false, (.sl (.int .u8))), (false, (.int .i64))] false x
theorem r36_eq : r36 = m36 := by kernel_rfl

theorem c36 : CS.Sound Try.prog 36 ⟨[(true, (.pair (.int .i64) (.int .i64)))], [(false, (.sl (.int .u8))), (false, (.int .i64))], false, m36⟩ := afun_sound' (envOf_sound (CSs.cons c58 (CSs.cons c59 (CSs.nil))) (HDs.cons (COc.Sound.hd c60) (HDs.cons (COc.Sound.hd c61) (HDs.nil))) (IDs.nil)) rfl Try.follows (f := 36) (fn := Try.f36) Try.func36 (by kernel_rfl) (by kernel_rfl) r36_eq
end Go.Proofs.Ytjleeabhpfmhaaa
end

section
open Go Go.Proofs.AM
namespace Go.Proofs.Ytjleeabhpfmhaaa

noncomputable def m37 (x : (List Int) × (List Int) × Unit) : Option (Bool × Unit) :=
 some ((streq (Go.strOfNums x.1) (Go.strOfNums x.2.1)), ())

noncomputable def r37 : PDen [(false, (.sl (.int .u8))), (false, (.sl (.int .u8)))] → Option (PDen [(false, .bool)]) := fun x => afun Try.prog (envOf [] [] [] []) ⟨[], []⟩ Try.f37 [(false, (.sl (.int .u8))), (false, (.sl (.int .u8)))] [(false, .bool)] false x
theorem r37_eq : r37 = m37 := by kernel_rfl

theorem c37 : CS.Sound Try.prog 37 ⟨[(false, (.sl (.int .u8))), (false, (.sl (.int .u8)))], [(false, .bool)], false, m37⟩ := afun_sound' (envOf_sound (CSs.nil) (HDs.nil) (IDs.nil)) rfl Try.follows (f := 37) (fn := Try.f37) Try.func37 (by kernel_rfl) (by kernel_rfl) r37_eq
end Go.Proofs.Ytjleeabhpfmhaaa
end

section
open Go Go.Proofs.AM
namespace Go.Proofs.Ytjleeabhpfmhaaa

noncomputable def m23 (x : (List Int) × Unit) : Option ((Int × Int) × (Int × Unit)) :=
 bif (!(decide ((((List.length x.1) : Nat) : Int) = (256 : Int)))) then
 (some (((0 : Int), (0 : Int)), ((170 : Int), ())))
 else
 (gd ((4 : Int) ≤ (((List.length x.1) : Nat) : Int)) (gd ((((List.length x.1) : Nat) : Int) ≤ (((List.length x.1) : Nat) : Int)) (Option.bind (m35 ((List.take ((Int.toNat (((List.length x.1) : Nat) : Int)) - (Int.toNat (4 : Int))) (List.drop (Int.toNat (4 : Int)) x.1)), ((4 : Int), ()))) fun (y1 : (Int × ((List Int) × Unit))) =>
 Option.bind (m35 (y1.2.1, ((8 : Int), ()))) fun (y2 : (Int × ((List Int) × Unit))) =>
 Option.bind (m36 (((Go.IntKind.wrap .i64 y1.1), (Go.IntKind.wrap .i64 y2.1)), ())) fun (y3 : ((List Int) × (Int × Unit))) =>
 bif (!(decide (y3.2.1 = (0 : Int)))) then
 (some (((0 : Int), (0 : Int)), ((170 : Int), ())))
 else
 (Option.bind (m37 (y3.1, (x.1, ()))) fun (y4 : (Bool × Unit)) =>
 bif (!y4.1) then
 (some (((0 : Int), (0 : Int)), ((170 : Int), ())))
 else
 (some (((Go.IntKind.wrap .i64 y1.1), (Go.IntKind.wrap .i64 y2.1)), ((0 : Int), ())))))))

noncomputable def r23 : PDen [(false, (.sl (.int .u8)))] → Option (PDen [(true, (.pair (.int .i64) (.int .i64))), (false, (.int .i64))]) := fun x => afun Try.prog (envOf [(35, ⟨[(false, (.sl (.int .u8))), (false, (.int .i64))], [(false, (.int .u64)), (false, (.sl (.int .u8)))], true, m35⟩), (36, ⟨[(true, (.pair (.int .i64) (.int .i64)))], [(false, (.sl (.int .u8))), (false, (.int .i64))], false, m36⟩), (37, ⟨[(false, (.sl (.int .u8))), (false, (.sl (.int .u8)))], [(false, .bool)], false, m37⟩)] [] [] []) ⟨[], []⟩ Try.f23 [(false, (.sl (.int .u8)))] [(true, (.pair (.int .i64) (.int .i64))), (false, (.int .i64))] false x
theorem r23_eq : r23 = m23 := by kernel_rfl

theorem c23 : CS.Sound Try.prog 23 ⟨[(false, (.sl (.int .u8)))], [(true, (.pair (.int .i64) (.int .i64))), (false, (.int .i64))], false, m23⟩ := afun_sound' (envOf_sound (CSs.cons c35 (CSs.cons c36 (CSs.cons c37 (CSs.nil)))) (HDs.nil) (IDs.nil)) rfl Try.follows (f := 23) (fn := Try.f23) Try.func23 (by kernel_rfl) (by kernel_rfl) r23_eq
end Go.Proofs.Ytjleeabhpfmhaaa
end

section
open Go Go.Proofs.AM
namespace Go.Proofs.Ytjleeabhpfmhaaa

noncomputable def m75 (x : Int × Unit) : Option (Bool × Unit) :=
 bif (decide (x.1 ≥ (0 : Int))) then
 (some ((decide (x.1 < (8192 : Int))), ()))
 else
 (some (false, ()))

noncomputable def r75 : PDen [(false, (.int .i64))] → Option (PDen [(false, .bool)]) := fun x => afun Try.prog (envOf [] [] [] []) ⟨[], []⟩ Try.f75 [(false, (.int .i64))] [(false, .bool)] false x
theorem r75_eq : r75 = m75 := by kernel_rfl

theorem c75 : CS.Sound Try.prog 75 ⟨[(false, (.int .i64))], [(false, .bool)], false, m75⟩ := afun_sound' (envOf_sound (CSs.nil) (HDs.nil) (IDs.nil)) rfl Try.follows (f := 75) (fn := Try.f75) Try.func75 (by kernel_rfl) (by kernel_rfl) r75_eq
end Go.Proofs.Ytjleeabhpfmhaaa
end

section
open Go Go.Proofs.AM
namespace Go.Proofs.Ytjleeabhpfmhaaa

noncomputable def m82 (x : (Int × (Int × ((List (Int × Bool)) × ((List Int) × Int)))) × Unit) : Option (Bool × Unit) :=
 Option.bind (m58 (x.1.2.1, ())) fun (y1 : (Bool × Unit)) =>
 bif (!y1.1) then
 (some (false, ()))
 else
 (bif (decide (x.1.1 = (1 : Int))) then
 (bif (decide ((((List.length x.1.2.2.2.1) : Nat) : Int) = (0 : Int))) then
 (bif (decide (x.1.2.2.2.2 = (0 : Int))) then
 (bif (decide ((((List.length x.1.2.2.1) : Nat) : Int) ≥ (1 : Int))) then
 (bif (decide ((((List.length x.1.2.2.1) : Nat) : Int) ≤ (48 : Int))) then
 (Option.bind (loopM (X := Int) (E := (Unit ⊕ Int)) (fun (x2 : Int) =>
 bif (decide (x2 < (((List.length x.1.2.2.1) : Nat) : Int))) then
 (gd ((0 : Int) ≤ x2) (gd (x2 < (((List.length x.1.2.2.1) : Nat) : Int)) (Option.bind (m75 ((List.getD x.1.2.2.1 (Int.toNat x2) ((0 : Int), false)).1, ())) fun (y3 : (Bool × Unit)) =>
 bif (!y3.1) then
 (some (Sum.inr (Sum.inr x2)))
 else
 (some (Sum.inl (Go.IntKind.wrap .i64 (x2 + (1 : Int))))))))
 else
 (some (Sum.inr (Sum.inl ())))) (0 : Int)) fun (y2 : (Unit ⊕ Int)) =>
 Sum.elim (fun y3 =>
 some ((!(decide ((-1 : Int) ≥ (0 : Int)))), ())) (fun y3 =>
 some ((!(decide (y3 ≥ (0 : Int)))), ())) y2)
 else
 (some (false, ())))
 else
 (some (false, ())))
 else
 (some (false, ())))
 else
 (some (false, ())))
 else
 (bif (decide (x.1.1 = (3 : Int))) then
 (bif (decide ((((List.length x.1.2.2.1) : Nat) : Int) = (0 : Int))) then
 (bif (decide (x.1.2.2.2.2 = (0 : Int))) then
 (bif (decide ((((List.length x.1.2.2.2.1) : Nat) : Int) ≥ (1 : Int))) then
 (bif (decide ((((List.length x.1.2.2.2.1) : Nat) : Int) ≤ (60 : Int))) then
 (Option.bind (loopM (X := Int) (E := (Unit ⊕ Int)) (fun (x2 : Int) =>
 bif (decide (x2 < (((List.length x.1.2.2.2.1) : Nat) : Int))) then
 (gd ((0 : Int) ≤ x2) (gd (x2 < (((List.length x.1.2.2.2.1) : Nat) : Int)) (Option.bind (m75 ((List.getD x.1.2.2.2.1 (Int.toNat x2) (0 : Int)), ())) fun (y3 : (Bool × Unit)) =>
 bif (!y3.1) then
 (some (Sum.inr (Sum.inr x2)))
 else
 (some (Sum.inl (Go.IntKind.wrap .i64 (x2 + (1 : Int))))))))
 else
 (some (Sum.inr (Sum.inl ())))) (0 : Int)) fun (y2 : (Unit ⊕ Int)) =>
 Sum.elim (fun y3 =>
 some ((!(decide ((-1 : Int) ≥ (0 : Int)))), ())) (fun y3 =>
 some ((!(decide (y3 ≥ (0 : Int)))), ())) y2)
 else
 (some (false, ())))
 else
 (some (false, ())))
 else
 (some (false, ())))
 else
 (some (false, ())))
 else
 (bif (decide (x.1.1 = (2 : Int))) then
 (bif (decide ((((List.length x.1.2.2.1) : Nat) : Int) = (0 : Int))) then
 (bif (decide ((((List.length x.1.2.2.2.1) : Nat) : Int) = (0 : Int))) then
 (bif (decide (x.1.2.2.2.2 ≥ (1 : Int))) then
 (some ((decide (x.1.2.2.2.2 ≤ (64 : Int))), ()))
 else
 (some (false, ())))
 else
 (some (false, ())))
 else
 (some (false, ())))
 else
 (some (false, ())))))

noncomputable def i82_94 : ID := aInl Try.prog (envOf [(75, ⟨[(false, (.int .i64))], [(false, .bool)], false, m75⟩)] [] [] []) ⟨[], []⟩ Try.f94
noncomputable def i82_108 : ID := aInl Try.prog (envOf [] [] [] [(94, i82_94)]) ⟨[(2000, ⟨[.slot 8 (.d false (.int .i64) true)], [], [(some 0, []), (none, [.slot 4 (.d false (.int .i64) true)])], none⟩)], []⟩ Try.f108
noncomputable def i82_93 : ID := aInl Try.prog (envOf [] [] [] [(108, i82_108)]) ⟨[], []⟩ Try.f93
noncomputable def i82_96 : ID := aInl Try.prog (envOf [(75, ⟨[(false, (.int .i64))], [(false, .bool)], false, m75⟩)] [] [] []) ⟨[], []⟩ Try.f96
noncomputable def i82_109 : ID := aInl Try.prog (envOf [] [] [] [(96, i82_96)]) ⟨[(2000, ⟨[.slot 8 (.d false (.int .i64) true)], [], [(some 0, []), (none, [.slot 4 (.d false (.int .i64) true)])], none⟩)], []⟩ Try.f109
noncomputable def i82_95 : ID := aInl Try.prog (envOf [] [] [] [(109, i82_109)]) ⟨[], []⟩ Try.f95
noncomputable def r82 : PDen [(true, (.pair (.int .i64) (.pair (.int .i64) (.pair (.sl (.pair (.int .i64) .bool)) (.pair (.sl (.int .i64)) (.int .i64))))))] → Option (PDen [(false, .bool)]) := fun x => afun Try.prog (envOf [(58, ⟨[(false, (.int .i64))], [(false, .bool)], false, m58⟩)] [] [] [(93, i82_93), (95, i82_95)]) ⟨[], []⟩ Try.f82 [(true, (.pair (.int .i64) (.pair (.int .i64) (.pair (.sl (.pair (.int .i64) .bool)) (.pair (.sl (.int .i64)) (.int .i64))))))] [(false, .bool)] false x
theorem r82_eq : r82 = m82 := by kernel_rfl

theorem i82_94_sound : i82_94.Sound Try.prog 94 := aInl_sound' (envOf_sound (CSs.cons c75 (CSs.nil)) (HDs.nil) (IDs.nil)) Try.follows (f := 94) (fn := Try.f94) Try.func94 (by kernel_rfl) (by kernel_rfl)
theorem i82_108_sound : i82_108.Sound Try.prog 108 := aInl_sound' (envOf_sound (CSs.nil) (HDs.nil) (IDs.cons i82_94_sound (IDs.nil))) Try.follows (f := 108) (fn := Try.f108) Try.func108 (by kernel_rfl) (by kernel_rfl)
theorem i82_93_sound : i82_93.Sound Try.prog 93 := aInl_sound' (envOf_sound (CSs.nil) (HDs.nil) (IDs.cons i82_108_sound (IDs.nil))) Try.follows (f := 93) (fn := Try.f93) Try.func93 (by kernel_rfl) (by kernel_rfl)
theorem i82_96_sound : i82_96.Sound Try.prog 96 := aInl_sound' (envOf_sound (CSs.cons c75 (CSs.nil)) (HDs.nil) (IDs.nil)) Try.follows (f := 96) (fn := Try.f96) Try.func96 (by kernel_rfl) (by kernel_rfl)
theorem i82_109_sound : i82_109.Sound Try.prog 109 := aInl_sound' (envOf_sound (CSs.nil) (HDs.nil) (IDs.cons i82_96_sound (IDs.nil))) Try.follows (f := 109) (fn := Try.f109) Try.func109 (by kernel_rfl) (by kernel_rfl)
theorem i82_95_sound : i82_95.Sound Try.prog 95 := aInl_sound' (envOf_sound (CSs.nil) (HDs.nil) (IDs.cons i82_109_sound (IDs.nil))) Try.follows (f := 95) (fn := Try.f95) Try.func95 (by kernel_rfl) (by kernel_rfl)
theorem c82 : CS.Sound Try.prog 82 ⟨[(true, (.pair (.int .i64) (.pair (.int .i64) (.pair (.sl (.pair (.int .i64) .bool)) (.pair (.sl (.int .i64)) (.int .i64))))))], [(false, .bool)], false, m82⟩ := afun_sound' (envOf_sound (CSs.cons c58 (CSs.nil)) (HDs.nil) (IDs.cons i82_93_sound (IDs.cons i82_95_sound (IDs.nil)))) rfl Try.follows (f := 82) (fn := Try.f82) Try.func82 (by kernel_rfl) (by kernel_rfl) r82_eq
end Go.Proofs.Ytjleeabhpfmhaaa
end

section
open Go Go.Proofs.AM
namespace Go.Proofs.Ytjleeabhpfmhaaa

noncomputable def m62 (x : (Int × (Int × ((List (Int × Bool)) × ((List Int) × Int)))) × Unit) : Option ((List Int) × (Int × Unit)) :=
 Option.bind (m82 (x.1, ())) fun (y1 : (Bool × Unit)) =>
 bif (!y1.1) then
 (some (([] : List Int), ((170 : Int), ())))
 else
 (Option.bind (m61 (([] : List Int), ((1397508641 : Int), ((4 : Int), ())))) fun (y2 : (List Int)) =>
 Option.bind (m61 (y2, ((Go.IntKind.wrap .u64 x.1.1), ((1 : Int), ())))) fun (y3 : (List Int)) =>
 Option.bind (m61 (y3, ((Go.IntKind.wrap .u64 x.1.2.1), ((8 : Int), ())))) fun (y4 : (List Int)) =>
 Option.bind (m61 (y4, ((Go.IntKind.wrap .u64 (Go.IntKind.wrap .i64 ((Go.IntKind.wrap .i64 ((((List.length x.1.2.2.1) : Nat) : Int) + (((List.length x.1.2.2.2.1) : Nat) : Int))) + x.1.2.2.2.2))), ((1 : Int), ())))) fun (y5 : (List Int)) =>
 Option.bind (loopM (X := ((List Int) × Int)) (E := (List Int)) (fun (x6 : ((List Int) × Int)) =>
 bif (decide (x6.2 < (((List.length x.1.2.2.1) : Nat) : Int))) then
 (gd ((0 : Int) ≤ x6.2) (gd (x6.2 < (((List.length x.1.2.2.1) : Nat) : Int)) (bif (List.getD x.1.2.2.1 (Int.toNat x6.2) ((0 : Int), false)).2 then
 (Option.bind (m61 (x6.1, ((Go.IntKind.wrap .u64 (List.getD x.1.2.2.1 (Int.toNat x6.2) ((0 : Int), false)).1), ((4 : Int), ())))) fun (y7 : (List Int)) =>
 Option.bind (m61 (y7, ((1 : Int), ((1 : Int), ())))) fun (y8 : (List Int)) =>
 some (Sum.inl (y8, (Go.IntKind.wrap .i64 (x6.2 + (1 : Int))))))
 else
 (Option.bind (m61 (x6.1, ((Go.IntKind.wrap .u64 (List.getD x.1.2.2.1 (Int.toNat x6.2) ((0 : Int), false)).1), ((4 : Int), ())))) fun (y7 : (List Int)) =>
 Option.bind (m61 (y7, ((0 : Int), ((1 : Int), ())))) fun (y8 : (List Int)) =>
 some (Sum.inl (y8, (Go.IntKind.wrap .i64 (x6.2 + (1 : Int)))))))))
 else
 (some (Sum.inr x6.1))) (y5, (0 : Int))) fun (y6 : (List Int)) =>
 Option.bind (loopM (X := ((List Int) × Int)) (E := (List Int)) (fun (x7 : ((List Int) × Int)) =>
 bif (decide (x7.2 < (((List.length x.1.2.2.2.1) : Nat) : Int))) then
 (gd ((0 : Int) ≤ x7.2) (gd (x7.2 < (((List.length x.1.2.2.2.1) : Nat) : Int)) (Option.bind (m61 (x7.1, ((Go.IntKind.wrap .u64 (List.getD x.1.2.2.2.1 (Int.toNat x7.2) (0 : Int))), ((4 : Int), ())))) fun (y8 : (List Int)) =>
 some (Sum.inl (y8, (Go.IntKind.wrap .i64 (x7.2 + (1 : Int))))))))
 else
 (some (Sum.inr x7.1))) (y6, (0 : Int))) fun (y7 : (List Int)) =>
 Option.bind (m60 (y7, ((256 : Int), ()))) fun (y8 : (List Int)) =>
 some (y8, ((0 : Int), ())))

noncomputable def r62 : PDen [(true, (.pair (.int .i64) (.pair (.int .i64) (.pair (.sl (.pair (.int .i64) .bool)) (.pair (.sl (.int .i64)) (.int .i64))))))] → Option (PDen [(false, (.sl (.int .u8))), (false, (.int .i64))]) := fun x => afun Try.prog (envOf [(82, ⟨[(true, (.pair (.int .i64) (.pair (.int .i64) (.pair (.sl (.pair (.int .i64) .bool)) (.pair (.sl (.int .i64)) (.int .i64))))))], [(false, .bool)], false, m82⟩)] [(60, COc.hd ⟨5, (.int .u8), [(false, (.int .i64))], m60⟩), (61, COc.hd ⟨5, (.int .u8), [(false, (.int .u64)), (false, (.int .i64))], m61⟩)] [] []) ⟨[(0, ⟨[.slot 4 (.v 5 (.int .u8) true), .slot 38 (.d false (.int .i64) true)], [4], [(some 0, [.slot 4 (.v 5 (.int .u8) true)])], none⟩), (2, ⟨[.slot 4 (.v 5 (.int .u8) true), .slot 55 (.d false (.int .i64) true)], [5], [(some 2, [.slot 4 (.v 5 (.int .u8) true)])], none⟩)], []⟩ Try.f62 [(true, (.pair (.int .i64) (.pair (.int .i64) (.pair (.sl (.pair (.int .i64) .bool)) (.pair (.sl (.int .i64)) (.int .i64))))))] [(false, (.sl (.int .u8))), (false, (.int .i64))] false x
theorem r62_eq : r62 = m62 := by kernel_rfl

theorem c62 : CS.Sound Try.prog 62 ⟨[(true, (.pair (.int .i64) (.pair (.int .i64) (.pair (.sl (.pair (.int .i64) .bool)) (.pair (.sl (.int .i64)) (.int .i64))))))], [(false, (.sl (.int .u8))), (false, (.int .i64))], false, m62⟩ := afun_sound' (envOf_sound (CSs.cons c82 (CSs.nil)) (HDs.cons (COc.Sound.hd c60) (HDs.cons (COc.Sound.hd c61) (HDs.nil))) (IDs.nil)) rfl Try.follows (f := 62) (fn := Try.f62) Try.func62 (by kernel_rfl) (by kernel_rfl) r62_eq
end Go.Proofs.Ytjleeabhpfmhaaa
end

section
open Go Go.Proofs.AM
namespace Go.Proofs.Ytjleeabhpfmhaaa

noncomputable def m38 (x : (List Int) × Unit) : Option ((Int × (Int × ((List (Int × Bool)) × ((List Int) × Int)))) × (Int × Unit)) :=
 bif (!(decide ((((List.length x.1) : Nat) : Int) = (256 : Int)))) then
 (some (((0 : Int), ((0 : Int), (([] : List (Int × Bool)), (([] : List Int), (0 : Int))))), ((170 : Int), ())))
 else
 (gd ((4 : Int) ≤ (((List.length x.1) : Nat) : Int)) (gd ((((List.length x.1) : Nat) : Int) ≤ (((List.length x.1) : Nat) : Int)) (Option.bind (m35 ((List.take ((Int.toNat (((List.length x.1) : Nat) : Int)) - (Int.toNat (4 : Int))) (List.drop (Int.toNat (4 : Int)) x.1)), ((1 : Int), ()))) fun (y1 : (Int × ((List Int) × Unit))) =>
 Option.bind (m35 (y1.2.1, ((8 : Int), ()))) fun (y2 : (Int × ((List Int) × Unit))) =>
 Option.bind (m35 (y2.2.1, ((1 : Int), ()))) fun (y3 : (Int × ((List Int) × Unit))) =>
 bif (decide ((Go.IntKind.wrap .i64 y1.1) = (1 : Int))) then
 (bif (decide (y3.1 ≤ (48 : Int))) then
 (Option.bind (loopM (X := ((List Int) × (Int × (Int × (Int × ((List (Int × Bool)) × ((List Int) × Int))))))) (E := (Int × (Int × ((List (Int × Bool)) × ((List Int) × Int))))) (fun (x4 : ((List Int) × (Int × (Int × (Int × ((List (Int × Bool)) × ((List Int) × Int))))))) =>
 bif (decide (x4.2.1 < y3.1)) then
 (Option.bind (m35 (x4.1, ((4 : Int), ()))) fun (y5 : (Int × ((List Int) × Unit))) =>
 Option.bind (m35 (y5.2.1, ((1 : Int), ()))) fun (y6 : (Int × ((List Int) × Unit))) =>
 gd ((((List.length x4.2.2.2.2.1) + (List.length (((Go.IntKind.wrap .i64 y5.1), (decide (y6.1 = (1 : Int)))) :: ([] : List (Int × Bool))))) * 16) ≤ 140737488355328) (gd (((List.length x4.2.2.2.2.1) + (List.length (((Go.IntKind.wrap .i64 y5.1), (decide (y6.1 = (1 : Int)))) :: ([] : List (Int × Bool))))) ≤ 140737488355328) (some (Sum.inl (y6.2.1, ((Go.IntKind.wrap .u64 (x4.2.1 + (1 : Int))), (x4.2.2.1, (x4.2.2.2.1, ((x4.2.2.2.2.1 ++ (((Go.IntKind.wrap .i64 y5.1), (decide (y6.1 = (1 : Int)))) :: ([] : List (Int × Bool)))), (x4.2.2.2.2.2.1, x4.2.2.2.2.2.2))))))))))
 else
 (some (Sum.inr (x4.2.2.1, (x4.2.2.2.1, (x4.2.2.2.2.1, (x4.2.2.2.2.2.1, x4.2.2.2.2.2.2))))))) (y3.2.1, ((0 : Int), ((Go.IntKind.wrap .i64 y1.1), ((Go.IntKind.wrap .i64 y2.1), (([] : List (Int × Bool)), (([] : List Int), (0 : Int)))))))) fun (y4 : (Int × (Int × ((List (Int × Bool)) × ((List Int) × Int))))) =>
 Option.bind (m62 (y4, ())) fun (y5 : ((List Int) × (Int × Unit))) =>
 bif (!(decide (y5.2.1 = (0 : Int)))) then
 (some (((0 : Int), ((0 : Int), (([] : List (Int × Bool)), (([] : List Int), (0 : Int))))), ((170 : Int), ())))
 else
 (Option.bind (m37 (y5.1, (x.1, ()))) fun (y6 : (Bool × Unit)) =>
 bif (!y6.1) then
 (some (((0 : Int), ((0 : Int), (([] : List (Int × Bool)), (([] : List Int), (0 : Int))))), ((170 : Int), ())))
 else
 (some (y4, ((0 : Int), ())))))
 else
 (bif (decide ((Go.IntKind.wrap .i64 y1.1) = (3 : Int))) then
 (bif (decide (y3.1 ≤ (60 : Int))) then
 (Option.bind (loopM (X := ((List Int) × (Int × (Int × (Int × ((List (Int × Bool)) × ((List Int) × Int))))))) (E := (Int × (Int × ((List (Int × Bool)) × ((List Int) × Int))))) (fun (x4 : ((List Int) × (Int × (Int × (Int × ((List (Int × Bool)) × ((List Int) × Int))))))) =>
 bif (decide (x4.2.1 < y3.1)) then
 (Option.bind (m35 (x4.1, ((4 : Int), ()))) fun (y5 : (Int × ((List Int) × Unit))) =>
 gd ((((List.length x4.2.2.2.2.2.1) + (List.length ((Go.IntKind.wrap .i64 y5.1) :: ([] : List Int)))) * 8) ≤ 140737488355328) (gd (((List.length x4.2.2.2.2.2.1) + (List.length ((Go.IntKind.wrap .i64 y5.1) :: ([] : List Int)))) ≤ 140737488355328) (some (Sum.inl (y5.2.1, ((Go.IntKind.wrap .u64 (x4.2.1 + (1 : Int))), (x4.2.2.1, (x4.2.2.2.1, (x4.2.2.2.2.1, ((x4.2.2.2.2.2.1 ++ ((Go.IntKind.wrap .i64 y5.1) :: ([] : List Int))), x4.2.2.2.2.2.2))))))))))
 else
 (some (Sum.inr (x4.2.2.1, (x4.2.2.2.1, (x4.2.2.2.2.1, (x4.2.2.2.2.2.1, x4.2.2.2.2.2.2))))))) (y3.2.1, ((0 : Int), ((Go.IntKind.wrap .i64 y1.1), ((Go.IntKind.wrap .i64 y2.1), (([] : List (Int × Bool)), (([] : List Int), (0 : Int)))))))) fun (y4 : (Int × (Int × ((List (Int × Bool)) × ((List Int) × Int))))) =>
 Option.bind (m62 (y4, ())) fun (y5 : ((List Int) × (Int × Unit))) =>
 bif (!(decide (y5.2.1 = (0 : Int)))) then
 (some (((0 : Int), ((0 : Int), (([] : List (Int × Bool)), (([] : List Int), (0 : Int))))), ((170 : Int), ())))
 else
 (Option.bind (m37 (y5.1, (x.1, ()))) fun (y6 : (Bool × Unit)) =>
 bif (!y6.1) then
 (some (((0 : Int), ((0 : Int), (([] : List (Int × Bool)), (([] : List Int), (0 : Int))))), ((170 : Int), ())))
 else
 (some (y4, ((0 : Int), ())))))
 else
 (Option.bind (m62 (((Go.IntKind.wrap .i64 y1.1), ((Go.IntKind.wrap .i64 y2.1), (([] : List (Int × Bool)), (([] : List Int), (Go.IntKind.wrap .i64 y3.1))))), ())) fun (y4 : ((List Int) × (Int × Unit))) =>
 bif (!(decide (y4.2.1 = (0 : Int)))) then
 (some (((0 : Int), ((0 : Int), (([] : List (Int × Bool)), (([] : List Int), (0 : Int))))), ((170 : Int), ())))
 else
 (Option.bind (m37 (y4.1, (x.1, ()))) fun (y5 : (Bool × Unit)) =>
 bif (!y5.1) then
 (some (((0 : Int), ((0 : Int), (([] : List (Int × Bool)), (([] : List Int), (0 : Int))))), ((170 : Int), ())))
 else
 (some (((Go.IntKind.wrap .i64 y1.1), ((Go.IntKind.wrap .i64 y2.1), (([] : List (Int × Bool)), (([] : List Int), (Go.IntKind.wrap .i64 y3.1))))), ((0 : Int), ()))))))
 else
 (Option.bind (m62 (((Go.IntKind.wrap .i64 y1.1), ((Go.IntKind.wrap .i64 y2.1), (([] : List (Int × Bool)), (([] : List Int), (Go.IntKind.wrap .i64 y3.1))))), ())) fun (y4 : ((List Int) × (Int × Unit))) =>
 bif (!(decide (y4.2.1 = (0 : Int)))) then
 (some (((0 : Int), ((0 : Int), (([] : List (Int × Bool)), (([] : List Int), (0 : Int))))), ((170 : Int), ())))
 else
 (Option.bind (m37 (y4.1, (x.1, ()))) fun (y5 : (Bool × Unit)) =>
 bif (!y5.1) then
 (some (((0 : Int), ((0 : Int), (([] : List (Int × Bool)), (([] : List Int), (0 : Int))))), ((170 : Int), ())))
 else
 (some (((Go.IntKind.wrap .i64 y1.1), ((Go.IntKind.wrap .i64 y2.1), (([] : List (Int × Bool)), (([] : List Int), (Go.IntKind.wrap .i64 y3.1))))), ((0 : Int), ())))))))
 else
 (bif (decide ((Go.IntKind.wrap .i64 y1.1) = (3 : Int))) then
 (bif (decide (y3.1 ≤ (60 : Int))) then
 (Option.bind (loopM (X := ((List Int) × (Int × (Int × (Int × ((List (Int × Bool)) × ((List Int) × Int))))))) (E := (Int × (Int × ((List (Int × Bool)) × ((List Int) × Int))))) (fun (x4 : ((List Int) × (Int × (Int × (Int × ((List (Int × Bool)) × ((List Int) × Int))))))) =>
 bif (decide (x4.2.1 < y3.1)) then
 (Option.bind (m35 (x4.1, ((4 : Int), ()))) fun (y5 : (Int × ((List Int) × Unit))) =>
 gd ((((List.length x4.2.2.2.2.2.1) + (List.length ((Go.IntKind.wrap .i64 y5.1) :: ([] : List Int)))) * 8) ≤ 140737488355328) (gd (((List.length x4.2.2.2.2.2.1) + (List.length ((Go.IntKind.wrap .i64 y5.1) :: ([] : List Int)))) ≤ 140737488355328) (some (Sum.inl (y5.2.1, ((Go.IntKind.wrap .u64 (x4.2.1 + (1 : Int))), (x4.2.2.1, (x4.2.2.2.1, (x4.2.2.2.2.1, ((x4.2.2.2.2.2.1 ++ ((Go.IntKind.wrap .i64 y5.1) :: ([] : List Int))), x4.2.2.2.2.2.2))))))))))
 else
 (some (Sum.inr (x4.2.2.1, (x4.2.2.2.1, (x4.2.2.2.2.1, (x4.2.2.2.2.2.1, x4.2.2.2.2.2.2))))))) (y3.2.1, ((0 : Int), ((Go.IntKind.wrap .i64 y1.1), ((Go.IntKind.wrap .i64 y2.1), (([] : List (Int × Bool)), (([] : List Int), (0 : Int)))))))) fun (y4 : (Int × (Int × ((List (Int × Bool)) × ((List Int) × Int))))) =>
 Option.bind (m62 (y4, ())) fun (y5 : ((List Int) × (Int × Unit))) =>
 bif (!(decide (y5.2.1 = (0 : Int)))) then
 (some (((0 : Int), ((0 : Int), (([] : List (Int × Bool)), (([] : List Int), (0 : Int))))), ((170 : Int), ())))
 else
 (Option.bind (m37 (y5.1, (x.1, ()))) fun (y6 : (Bool × Unit)) =>
 bif (!y6.1) then
 (some (((0 : Int), ((0 : Int), (([] : List (Int × Bool)), (([] : List Int), (0 : Int))))), ((170 : Int), ())))
 else
 (some (y4, ((0 : Int), ())))))
 else
 (Option.bind (m62 (((Go.IntKind.wrap .i64 y1.1), ((Go.IntKind.wrap .i64 y2.1), (([] : List (Int × Bool)), (([] : List Int), (Go.IntKind.wrap .i64 y3.1))))), ())) fun (y4 : ((List Int) × (Int × Unit))) =>
 bif (!(decide (y4.2.1 = (0 : Int)))) then
 (some (((0 : Int), ((0 : Int), (([] : List (Int × Bool)), (([] : List Int), (0 : Int))))), ((170 : Int), ())))
 else
 (Option.bind (m37 (y4.1, (x.1, ()))) fun (y5 : (Bool × Unit)) =>
 bif (!y5.1) then
 (some (((0 : Int), ((0 : Int), (([] : List (Int × Bool)), (([] : List Int), (0 : Int))))), ((170 : Int), ())))
 else
 (some (((Go.IntKind.wrap .i64 y1.1), ((Go.IntKind.wrap .i64 y2.1), (([] : List (Int × Bool)), (([] : List Int), (Go.IntKind.wrap .i64 y3.1))))), ((0 : Int), ()))))))
 else
 (Option.bind (m62 (((Go.IntKind.wrap .i64 y1.1), ((Go.IntKind.wrap .i64 y2.1), (([] : List (Int × Bool)), (([] : List Int), (Go.IntKind.wrap .i64 y3.1))))), ())) fun (y4 : ((List Int) × (Int × Unit))) =>
 bif (!(decide (y4.2.1 = (0 : Int)))) then
 (some (((0 : Int), ((0 : Int), (([] : List (Int × Bool)), (([] : List Int), (0 : Int))))), ((170 : Int), ())))
 else
 (Option.bind (m37 (y4.1, (x.1, ()))) fun (y5 : (Bool × Unit)) =>
 bif (!y5.1) then
 (some (((0 : Int), ((0 : Int), (([] : List (Int × Bool)), (([] : List Int), (0 : Int))))), ((170 : Int), ())))
 else
 (some (((Go.IntKind.wrap .i64 y1.1), ((Go.IntKind.wrap .i64 y2.1), (([] : List (Int × Bool)), (([] : List Int), (Go.IntKind.wrap .i64 y3.1))))), ((0 : Int), ())))))))))

noncomputable def r38 : PDen [(false, (.sl (.int .u8)))] → Option (PDen [(true, (.pair (.int .i64) (.pair (.int .i64) (.pair (.sl (.pair (.int .i64) .bool)) (.pair (.sl (.int .i64)) (.int .i64)))))), (false, (.int .i64))]) := fun x => afun Try.prog (envOf [(35, ⟨[(false, (.sl (.int .u8))), (false, (.int .i64))], [(false, (.int .u64)), (false, (.sl (.int .u8)))], true, m35⟩), (37, ⟨[(false, (.sl (.int .u8))), (false, (.sl (.int .u8)))], [(false, .bool)], false, m37⟩), (62, ⟨[(true, (.pair (.int .i64) (.pair (.int .i64) (.pair (.sl (.pair (.int .i64) .bool)) (.pair (.sl (.int .i64)) (.int .i64))))))], [(false, (.sl (.int .u8))), (false, (.int .i64))], false, m62⟩)] [] [] []) ⟨[(1, ⟨[.slot 5 (.d false (.sl (.int .u8)) false), .slot 51 (.d false (.int .u64) true), .cell 1 0 (.d false (.int .i64) true), .cell 1 1 (.d false (.int .i64) true), .cell 1 2 (.v 90 (.pair (.int .i64) .bool) true), .cell 1 3 (.v 3 (.int .i64) true), .cell 1 4 (.d false (.int .i64) true)], [], [(some 1, [.cell 1 0 (.d false (.int .i64) true), .cell 1 1 (.d false (.int .i64) true), .cell 1 2 (.v 90 (.pair (.int .i64) .bool) true), .cell 1 3 (.v 3 (.int .i64) true), .cell 1 4 (.d false (.int .i64) true)])], none⟩), (3, ⟨[.slot 5 (.d false (.sl (.int .u8)) false), .slot 83 (.d false (.int .u64) true), .cell 1 0 (.d false (.int .i64) true), .cell 1 1 (.d false (.int .i64) true), .cell 1 2 (.v 90 (.pair (.int .i64) .bool) true), .cell 1 3 (.v 3 (.int .i64) true), .cell 1 4 (.d false (.int .i64) true)], [], [(some 3, [.cell 1 0 (.d false (.int .i64) true), .cell 1 1 (.d false (.int .i64) true), .cell 1 2 (.v 90 (.pair (.int .i64) .bool) true), .cell 1 3 (.v 3 (.int .i64) true), .cell 1 4 (.d false (.int .i64) true)])], none⟩)], []⟩ Try.f38 [(false, (.sl (.int .u8)))] [(true, (.pair (.int .i64) (.pair (.int .i64) (.pair (.sl (.pair (.int .i64) .bool)) (.pair (.sl (.int .i64)) (.int .i64)))))), (false, (.int .i64))] false x
theorem r38_eq : r38 = m38 := by kernel_rfl

theorem c38 : CS.Sound Try.prog 38 ⟨[(false, (.sl (.int .u8)))], [(true, (.pair (.int .i64) (.pair (.int .i64) (.pair (.sl (.pair (.int .i64) .bool)) (.pair (.sl (.int .i64)) (.int .i64)))))), (false, (.int .i64))], false, m38⟩ := afun_sound' (envOf_sound (CSs.cons c35 (CSs.cons c37 (CSs.cons c62 (CSs.nil)))) (HDs.nil) (IDs.nil)) rfl Try.follows (f := 38) (fn := Try.f38) Try.func38 (by kernel_rfl) (by kernel_rfl) r38_eq
end Go.Proofs.Ytjleeabhpfmhaaa
end

section
open Go Go.Proofs.AM
namespace Go.Proofs.Ytjleeabhpfmhaaa

noncomputable def m63 (x : Unit) : Option ((List Int) × Unit) :=
 Option.bind (m61 (([] : List Int), ((1397508641 : Int), ((4 : Int), ())))) fun (y1 : (List Int)) =>
 some (y1, ())

noncomputable def r63 : PDen [] → Option (PDen [(false, (.sl (.int .u8)))]) := fun x => afun Try.prog (envOf [] [(61, COc.hd ⟨5, (.int .u8), [(false, (.int .u64)), (false, (.int .i64))], m61⟩)] [] []) ⟨[], []⟩ Try.f63 [] [(false, (.sl (.int .u8)))] false x
theorem r63_eq : r63 = m63 := by kernel_rfl

theorem c63 : CS.Sound Try.prog 63 ⟨[], [(false, (.sl (.int .u8)))], false, m63⟩ := afun_sound' (envOf_sound (CSs.nil) (HDs.cons (COc.Sound.hd c61) (HDs.nil)) (IDs.nil)) rfl Try.follows (f := 63) (fn := Try.f63) Try.func63 (by kernel_rfl) (by kernel_rfl) r63_eq
end Go.Proofs.Ytjleeabhpfmhaaa
end

section
open Go Go.Proofs.AM
namespace Go.Proofs.Ytjleeabhpfmhaaa

noncomputable def m52 (x : (List Int) × Unit) : Option ((List Int) × Unit) :=
 both (bif (decide ((((List.length x.1) : Nat) : Int) = (0 : Int))) then
 (some (([] : List Int), ()))
 else
 (gd ((((List.length ([] : List Int)) + (List.length x.1)) * 1) ≤ 140737488355328) (gd (((List.length ([] : List Int)) + (List.length x.1)) ≤ 140737488355328) (some ((([] : List Int) ++ x.1), ()))))) (gd ((((List.length ([] : List Int)) + (List.length x.1)) * 1) ≤ 140737488355328) (gd (((List.length ([] : List Int)) + (List.length x.1)) ≤ 140737488355328) (some ((([] : List Int) ++ x.1), ()))))

noncomputable def r52 : PDen [(false, (.sl (.int .u8)))] → Option (PDen [(false, (.sl (.int .u8)))]) := fun x => afunM Try.prog (envOf [] [] [] []) ⟨[], []⟩ Try.f52 [(false, (.sl (.int .u8)))] [(false, (.sl (.int .u8)))] [(.s 5)] false x
theorem r52_eq : r52 = m52 := by kernel_rfl

theorem c52 : OM.Sound Try.prog 52 ⟨[(false, (.sl (.int .u8)))], [(false, (.sl (.int .u8)))], [(.s 5)], false, m52⟩ := afunM_sound' (envOf_sound (CSs.nil) (HDs.nil) (IDs.nil)) rfl Try.follows (f := 52) (fn := Try.f52) Try.func52 (by kernel_rfl) (by kernel_rfl) r52_eq
end Go.Proofs.Ytjleeabhpfmhaaa
end

section
open Go Go.Proofs.AM
namespace Go.Proofs.Ytjleeabhpfmhaaa

noncomputable def m39 (x : (List Int) × Bool × Unit) : Option ((List Int) × Unit) :=
 Option.bind (m52 (x.1, ())) fun (y1 : ((List Int) × Unit)) =>
 bif x.2.1 then
 (bif (decide ((((List.length y1.1) : Nat) : Int) ≥ (4 : Int))) then
 (Option.bind (m63 ()) fun (y2 : ((List Int) × Unit)) =>
 some (((List.take (List.length y1.1) y2.1) ++ (List.drop (List.length y2.1) y1.1)), ()))
 else
 (some (y1.1, ())))
 else
 (some (y1.1, ()))

noncomputable def r39 : PDen [(false, (.sl (.int .u8))), (false, .bool)] → Option (PDen [(false, (.sl (.int .u8)))]) := fun x => afun Try.prog (envOf [(63, ⟨[], [(false, (.sl (.int .u8)))], false, m63⟩)] [(52, OM.hd ⟨[(false, (.sl (.int .u8)))], [(false, (.sl (.int .u8)))], [(.s 5)], false, m52⟩)] [] []) ⟨[], []⟩ Try.f39 [(false, (.sl (.int .u8))), (false, .bool)] [(false, (.sl (.int .u8)))] false x
theorem r39_eq : r39 = m39 := by kernel_rfl

theorem c39 : CS.Sound Try.prog 39 ⟨[(false, (.sl (.int .u8))), (false, .bool)], [(false, (.sl (.int .u8)))], false, m39⟩ := afun_sound' (envOf_sound (CSs.cons c63 (CSs.nil)) (HDs.cons (OM.Sound.hd c52) (HDs.nil)) (IDs.nil)) rfl Try.follows (f := 39) (fn := Try.f39) Try.func39 (by kernel_rfl) (by kernel_rfl) r39_eq
end Go.Proofs.Ytjleeabhpfmhaaa
end

section
open Go Go.Proofs.AM
namespace Go.Proofs.Ytjleeabhpfmhaaa

noncomputable def m87 (x : Int × Int × Unit) : Option (Int × Unit) :=
 if x.2.1 = (0 : Int) then
 (none)
 else
 (some ((Go.IntKind.wrap .i64 (Int.tdiv (Go.IntKind.wrap .i64 ((Go.IntKind.wrap .i64 (x.1 + x.2.1)) - (1 : Int))) x.2.1)), ()))

noncomputable def r87 : PDen [(false, (.int .i64)), (false, (.int .i64))] → Option (PDen [(false, (.int .i64))]) := fun x => afun Try.prog (envOf [] [] [] []) ⟨[], []⟩ Try.f87 [(false, (.int .i64)), (false, (.int .i64))] [(false, (.int .i64))] false x
theorem r87_eq : r87 = m87 := by kernel_rfl

theorem c87 : CS.Sound Try.prog 87 ⟨[(false, (.int .i64)), (false, (.int .i64))], [(false, (.int .i64))], false, m87⟩ := afun_sound' (envOf_sound (CSs.nil) (HDs.nil) (IDs.nil)) rfl Try.follows (f := 87) (fn := Try.f87) Try.func87 (by kernel_rfl) (by kernel_rfl) r87_eq
end Go.Proofs.Ytjleeabhpfmhaaa
end

section
open Go Go.Proofs.AM
namespace Go.Proofs.Ytjleeabhpfmhaaa

noncomputable def m73 (x : TyT × Unit) : Option (Int × Unit) :=
 Option.bind (m87 ((((List.length x.1.2.2) : Nat) : Int), ((60 : Int), ()))) fun (y1 : (Int × Unit)) =>
 Option.bind (m87 ((((List.length x.1.2.1) : Nat) : Int), ((48 : Int), ()))) fun (y2 : (Int × Unit)) =>
 some ((Go.IntKind.wrap .i64 ((Go.IntKind.wrap .i64 ((Go.IntKind.wrap .i64 (y1.1 + y2.1)) + (((List.length x.1.2.1) : Nat) : Int))) + (1 : Int))), ())

noncomputable def r73 : PDen [(true, (.pair (.int .i64) (.pair (.sl (.pair (.int .i64) (.sl (.int .u8)))) (.sl (.int .i64)))))] → Option (PDen [(false, (.int .i64))]) := fun x => afun Try.prog (envOf [(87, ⟨[(false, (.int .i64)), (false, (.int .i64))], [(false, (.int .i64))], false, m87⟩)] [] [] []) ⟨[], []⟩ Try.f73 [(true, (.pair (.int .i64) (.pair (.sl (.pair (.int .i64) (.sl (.int .u8)))) (.sl (.int .i64)))))] [(false, (.int .i64))] false x
theorem r73_eq : r73 = m73 := by kernel_rfl

theorem c73 : CS.Sound Try.prog 73 ⟨[(true, (.pair (.int .i64) (.pair (.sl (.pair (.int .i64) (.sl (.int .u8)))) (.sl (.int .i64)))))], [(false, (.int .i64))], false, m73⟩ := afun_sound' (envOf_sound (CSs.cons c87 (CSs.nil)) (HDs.nil) (IDs.nil)) rfl Try.follows (f := 73) (fn := Try.f73) Try.func73 (by kernel_rfl) (by kernel_rfl) r73_eq
end Go.Proofs.Ytjleeabhpfmhaaa
end

section
open Go Go.Proofs.AM
namespace Go.Proofs.Ytjleeabhpfmhaaa

noncomputable def m51 (x : TyT × Unit) : Option (Int × Unit) :=
 Option.bind (m58 (x.1.1, ())) fun (y1 : (Bool × Unit)) =>
 bif (!y1.1) then
 (some ((171 : Int), ()))
 else
 (bif (decide ((Go.IntKind.wrap .i64 ((((List.length x.1.2.1) : Nat) : Int) + (((List.length x.1.2.2) : Nat) : Int))) = (0 : Int))) then
 (some ((171 : Int), ()))
 else
 (Option.bind (m73 (x.1, ())) fun (y2 : (Int × Unit)) =>
 bif (decide (y2.1 > (63 : Int))) then
 (some ((171 : Int), ()))
 else
 (Option.bind (loopM (X := (Int × (List (Int × Bool)))) (E := ((List (Int × Bool)) ⊕ (Int × (List (Int × Bool))))) (fun (x3 : (Int × (List (Int × Bool)))) =>
 bif (decide (x3.1 < (((List.length x.1.2.1) : Nat) : Int))) then
 (gd ((0 : Int) ≤ x3.1) (gd (x3.1 < (((List.length x.1.2.1) : Nat) : Int)) (Option.bind (m75 ((List.getD x.1.2.1 (Int.toNat x3.1) ((0 : Int), ([] : List Int))).1, ())) fun (y4 : (Bool × Unit)) =>
 bif y4.1 then
 (bif (!(!(mget (false, (.int .i64)) x3.2 (List.getD x.1.2.1 (Int.toNat x3.1) ((0 : Int), ([] : List Int))).1 false))) then
 (some (Sum.inr (Sum.inr ((171 : Int), (mset (false, (.int .i64)) x3.2 (List.getD x.1.2.1 (Int.toNat x3.1) ((0 : Int), ([] : List Int))).1 true)))))
 else
 (bif (!(decide ((((List.length (List.getD x.1.2.1 (Int.toNat x3.1) ((0 : Int), ([] : List Int))).2) : Nat) : Int) = (256 : Int)))) then
 (some (Sum.inr (Sum.inr ((171 : Int), (mset (false, (.int .i64)) x3.2 (List.getD x.1.2.1 (Int.toNat x3.1) ((0 : Int), ([] : List Int))).1 true)))))
 else
 (some (Sum.inl ((Go.IntKind.wrap .i64 (x3.1 + (1 : Int))), (mset (false, (.int .i64)) x3.2 (List.getD x.1.2.1 (Int.toNat x3.1) ((0 : Int), ([] : List Int))).1 true))))))
 else
 (some (Sum.inr (Sum.inr ((171 : Int), (mset (false, (.int .i64)) x3.2 (List.getD x.1.2.1 (Int.toNat x3.1) ((0 : Int), ([] : List Int))).1 true))))))))
 else
 (some (Sum.inr (Sum.inl x3.2)))) ((0 : Int), ([] : List (Int × Bool)))) fun (y3 : ((List (Int × Bool)) ⊕ (Int × (List (Int × Bool))))) =>
 Sum.elim (fun y4 =>
 Option.bind (loopM (X := (Int × (List (Int × Bool)))) (E := ((List (Int × Bool)) ⊕ (Int × (List (Int × Bool))))) (fun (x5 : (Int × (List (Int × Bool)))) =>
 bif (decide (x5.1 < (((List.length x.1.2.2) : Nat) : Int))) then
 (gd ((0 : Int) ≤ x5.1) (gd (x5.1 < (((List.length x.1.2.2) : Nat) : Int)) (Option.bind (m75 ((List.getD x.1.2.2 (Int.toNat x5.1) (0 : Int)), ())) fun (y6 : (Bool × Unit)) =>
 bif y6.1 then
 (bif (!(!(mget (false, (.int .i64)) x5.2 (List.getD x.1.2.2 (Int.toNat x5.1) (0 : Int)) false))) then
 (some (Sum.inr (Sum.inr ((171 : Int), (mset (false, (.int .i64)) x5.2 (List.getD x.1.2.2 (Int.toNat x5.1) (0 : Int)) true)))))
 else
 (some (Sum.inl ((Go.IntKind.wrap .i64 (x5.1 + (1 : Int))), (mset (false, (.int .i64)) x5.2 (List.getD x.1.2.2 (Int.toNat x5.1) (0 : Int)) true)))))
 else
 (some (Sum.inr (Sum.inr ((171 : Int), (mset (false, (.int .i64)) x5.2 (List.getD x.1.2.2 (Int.toNat x5.1) (0 : Int)) true))))))))
 else
 (some (Sum.inr (Sum.inl x5.2)))) ((0 : Int), y4)) fun (y5 : ((List (Int × Bool)) ⊕ (Int × (List (Int × Bool))))) =>
 Sum.elim (fun y6 =>
 some ((0 : Int), ())) (fun y6 =>
 some (y6.1, ())) y5) (fun y4 =>
 some (y4.1, ())) y3)))

noncomputable def i51_74 : ID := aInl Try.prog (envOf [(75, ⟨[(false, (.int .i64))], [(false, .bool)], false, m75⟩)] [] [] []) ⟨[], []⟩ Try.f74
noncomputable def r51 : PDen [(true, (.pair (.int .i64) (.pair (.sl (.pair (.int .i64) (.sl (.int .u8)))) (.sl (.int .i64)))))] → Option (PDen [(false, (.int .i64))]) := fun x => afun Try.prog (envOf [(58, ⟨[(false, (.int .i64))], [(false, .bool)], false, m58⟩), (73, ⟨[(true, (.pair (.int .i64) (.pair (.sl (.pair (.int .i64) (.sl (.int .u8)))) (.sl (.int .i64)))))], [(false, (.int .i64))], false, m73⟩)] [] [] [(74, i51_74)]) ⟨[(0, ⟨[.slot 33 (.d false (.int .i64) true), .map 1 (false, (.int .i64)) (false, .bool) true], [], [(some 0, [.map 1 (false, (.int .i64)) (false, .bool) true]), (none, [.slot 2 (.d false (.int .i64) true), .map 1 (false, (.int .i64)) (false, .bool) true])], none⟩), (2, ⟨[.slot 52 (.d false (.int .i64) true), .map 1 (false, (.int .i64)) (false, .bool) true], [], [(some 2, [.map 1 (false, (.int .i64)) (false, .bool) true]), (none, [.slot 2 (.d false (.int .i64) true), .map 1 (false, (.int .i64)) (false, .bool) true])], none⟩)], []⟩ Try.f51 [(true, (.pair (.int .i64) (.pair (.sl (.pair (.int .i64) (.sl (.int .u8)))) (.sl (.int .i64)))))] [(false, (.int .i64))] false x
theorem r51_eq : r51 = m51 := by kernel_rfl

theorem i51_74_sound : i51_74.Sound Try.prog 74 := aInl_sound' (envOf_sound (CSs.cons c75 (CSs.nil)) (HDs.nil) (IDs.nil)) Try.follows (f := 74) (fn := Try.f74) Try.func74 (by kernel_rfl) (by kernel_rfl)
theorem c51 : CS.Sound Try.prog 51 ⟨[(true, (.pair (.int .i64) (.pair (.sl (.pair (.int .i64) (.sl (.int .u8)))) (.sl (.int .i64)))))], [(false, (.int .i64))], false, m51⟩ := afun_sound' (envOf_sound (CSs.cons c58 (CSs.cons c73 (CSs.nil))) (HDs.nil) (IDs.cons i51_74_sound (IDs.nil))) rfl Try.follows (f := 51) (fn := Try.f51) Try.func51 (by kernel_rfl) (by kernel_rfl) r51_eq
end Go.Proofs.Ytjleeabhpfmhaaa
end

section
open Go Go.Proofs.AM
namespace Go.Proofs.Ytjleeabhpfmhaaa

noncomputable def m85 (x : (List Int) × (List Int) × Unit) : Option (Bool × Unit) :=
 bif (decide ((((List.length x.1) : Nat) : Int) ≥ (((List.length x.2.1) : Nat) : Int))) then
 (gd ((0 : Int) ≤ (((List.length x.2.1) : Nat) : Int)) (gd ((((List.length x.2.1) : Nat) : Int) ≤ (((List.length x.1) : Nat) : Int)) (Option.bind (m37 ((List.take ((Int.toNat (((List.length x.2.1) : Nat) : Int)) - (Int.toNat (0 : Int))) (List.drop (Int.toNat (0 : Int)) x.1)), (x.2.1, ()))) fun (y1 : (Bool × Unit)) =>
 some (y1.1, ()))))
 else
 (some (false, ()))

noncomputable def r85 : PDen [(false, (.sl (.int .u8))), (false, (.sl (.int .u8)))] → Option (PDen [(false, .bool)]) := fun x => afun Try.prog (envOf [(37, ⟨[(false, (.sl (.int .u8))), (false, (.sl (.int .u8)))], [(false, .bool)], false, m37⟩)] [] [] []) ⟨[], []⟩ Try.f85 [(false, (.sl (.int .u8))), (false, (.sl (.int .u8)))] [(false, .bool)] false x
theorem r85_eq : r85 = m85 := by kernel_rfl

theorem c85 : CS.Sound Try.prog 85 ⟨[(false, (.sl (.int .u8))), (false, (.sl (.int .u8)))], [(false, .bool)], false, m85⟩ := afun_sound' (envOf_sound (CSs.cons c37 (CSs.nil)) (HDs.nil) (IDs.nil)) rfl Try.follows (f := 85) (fn := Try.f85) Try.func85 (by kernel_rfl) (by kernel_rfl) r85_eq
end Go.Proofs.Ytjleeabhpfmhaaa
end

section
open Go Go.Proofs.AM
namespace Go.Proofs.Ytjleeabhpfmhaaa

noncomputable def m67 (x : (List Int) × Unit) : Option ((List Int) × (Bool × Unit)) :=
 Option.bind (m52 (x.1, ())) fun (y1 : ((List Int) × Unit)) =>
 Option.bind (m63 ()) fun (y2 : ((List Int) × Unit)) =>
 Option.bind (m85 (x.1, (y2.1, ()))) fun (y3 : (Bool × Unit)) =>
 bif (!y3.1) then
 (some (y1.1, (false, ())))
 else
 (gd ((4 : Int) ≤ (((List.length y1.1) : Nat) : Int)) (gd (((Int.toNat (0 : Int)) + ((Int.toNat (4 : Int)) - (Int.toNat (0 : Int)))) ≤ (List.length y1.1)) (some ((((List.take (Int.toNat (0 : Int)) y1.1) ++ (List.replicate ((Int.toNat (4 : Int)) - (Int.toNat (0 : Int))) (0 : Int))) ++ (List.drop ((Int.toNat (0 : Int)) + ((Int.toNat (4 : Int)) - (Int.toNat (0 : Int)))) y1.1)), (true, ())))))

noncomputable def r67 : PDen [(false, (.sl (.int .u8)))] → Option (PDen [(false, (.sl (.int .u8))), (false, .bool)]) := fun x => afun Try.prog (envOf [(63, ⟨[], [(false, (.sl (.int .u8)))], false, m63⟩), (85, ⟨[(false, (.sl (.int .u8))), (false, (.sl (.int .u8)))], [(false, .bool)], false, m85⟩)] [(52, OM.hd ⟨[(false, (.sl (.int .u8)))], [(false, (.sl (.int .u8)))], [(.s 5)], false, m52⟩)] [] []) ⟨[], []⟩ Try.f67 [(false, (.sl (.int .u8)))] [(false, (.sl (.int .u8))), (false, .bool)] false x
theorem r67_eq : r67 = m67 := by kernel_rfl

theorem c67 : CS.Sound Try.prog 67 ⟨[(false, (.sl (.int .u8)))], [(false, (.sl (.int .u8))), (false, .bool)], false, m67⟩ := afun_sound' (envOf_sound (CSs.cons c63 (CSs.cons c85 (CSs.nil))) (HDs.cons (OM.Sound.hd c52) (HDs.nil)) (IDs.nil)) rfl Try.follows (f := 67) (fn := Try.f67) Try.func67 (by kernel_rfl) (by kernel_rfl) r67_eq
end Go.Proofs.Ytjleeabhpfmhaaa
end

section
open Go Go.Proofs.AM
namespace Go.Proofs.Ytjleeabhpfmhaaa

noncomputable def m40 (x : TyT × Unit) : Option ((List (List Int)) × (Int × Unit)) :=
 Option.bind (m51 (x.1, ())) fun (y1 : (Int × Unit)) =>
 bif (!(decide (y1.1 = (0 : Int)))) then
 (some (([] : List (List Int)), (y1.1, ())))
 else
 (bif (decide ((60 : Int) < (1 : Int))) then
 (none)
 else
 (Option.bind (loopM (X := (Int × (List (List Int)))) (E := (List (List Int))) (fun (x2 : (Int × (List (List Int)))) =>
 bif (decide (x2.1 < (((List.length x.1.2.2) : Nat) : Int))) then
 (gd ((0 : Int) ≤ x2.1) (gd (x2.1 ≤ (((List.length x.1.2.2) : Nat) : Int)) (gd ((((List.length x.1.2.2) : Nat) : Int) ≤ (((List.length x.1.2.2) : Nat) : Int)) (gd ((0 : Int) ≤ x2.1) (gd (x2.1 ≤ (Go.IntKind.wrap .i64 (x2.1 + (if (((List.length (List.take ((Int.toNat (((List.length x.1.2.2) : Nat) : Int)) - (Int.toNat x2.1)) (List.drop (Int.toNat x2.1) x.1.2.2))) : Nat) : Int) < (60 : Int) then (((List.length (List.take ((Int.toNat (((List.length x.1.2.2) : Nat) : Int)) - (Int.toNat x2.1)) (List.drop (Int.toNat x2.1) x.1.2.2))) : Nat) : Int) else (60 : Int))))) (gd ((Go.IntKind.wrap .i64 (x2.1 + (if (((List.length (List.take ((Int.toNat (((List.length x.1.2.2) : Nat) : Int)) - (Int.toNat x2.1)) (List.drop (Int.toNat x2.1) x.1.2.2))) : Nat) : Int) < (60 : Int) then (((List.length (List.take ((Int.toNat (((List.length x.1.2.2) : Nat) : Int)) - (Int.toNat x2.1)) (List.drop (Int.toNat x2.1) x.1.2.2))) : Nat) : Int) else (60 : Int)))) ≤ (Go.IntKind.wrap .i64 (x2.1 + (if (((List.length (List.take ((Int.toNat (((List.length x.1.2.2) : Nat) : Int)) - (Int.toNat x2.1)) (List.drop (Int.toNat x2.1) x.1.2.2))) : Nat) : Int) < (60 : Int) then (((List.length (List.take ((Int.toNat (((List.length x.1.2.2) : Nat) : Int)) - (Int.toNat x2.1)) (List.drop (Int.toNat x2.1) x.1.2.2))) : Nat) : Int) else (60 : Int))))) (gd ((Go.IntKind.wrap .i64 (x2.1 + (if (((List.length (List.take ((Int.toNat (((List.length x.1.2.2) : Nat) : Int)) - (Int.toNat x2.1)) (List.drop (Int.toNat x2.1) x.1.2.2))) : Nat) : Int) < (60 : Int) then (((List.length (List.take ((Int.toNat (((List.length x.1.2.2) : Nat) : Int)) - (Int.toNat x2.1)) (List.drop (Int.toNat x2.1) x.1.2.2))) : Nat) : Int) else (60 : Int)))) ≤ (((List.length x.1.2.2) : Nat) : Int)) (Option.bind (m62 (((3 : Int), (x.1.1, (([] : List (Int × Bool)), ((List.take ((Int.toNat (Go.IntKind.wrap .i64 (x2.1 + (if (((List.length (List.take ((Int.toNat (((List.length x.1.2.2) : Nat) : Int)) - (Int.toNat x2.1)) (List.drop (Int.toNat x2.1) x.1.2.2))) : Nat) : Int) < (60 : Int) then (((List.length (List.take ((Int.toNat (((List.length x.1.2.2) : Nat) : Int)) - (Int.toNat x2.1)) (List.drop (Int.toNat x2.1) x.1.2.2))) : Nat) : Int) else (60 : Int))))) - (Int.toNat x2.1)) (List.drop (Int.toNat x2.1) x.1.2.2)), (0 : Int))))), ())) fun (y3 : ((List Int) × (Int × Unit))) =>
 bif (decide (y3.2.1 = (0 : Int))) then
 (gd ((((List.length x2.2) + (List.length (y3.1 :: ([] : List (List Int))))) * 24) ≤ 140737488355328) (gd (((List.length x2.2) + (List.length (y3.1 :: ([] : List (List Int))))) ≤ 140737488355328) (some (Sum.inl ((Go.IntKind.wrap .i64 (x2.1 + (60 : Int))), (x2.2 ++ (y3.1 :: ([] : List (List Int)))))))))
 else
 (some (Sum.inl ((Go.IntKind.wrap .i64 (x2.1 + (60 : Int))), x2.2)))))))))))
 else
 (some (Sum.inr x2.2))) ((0 : Int), ([] : List (List Int)))) fun (y2 : (List (List Int))) =>
 bif (decide ((48 : Int) < (1 : Int))) then
 (none)
 else
 (Option.bind (loopM (X := (Int × (List (List Int)))) (E := (List (List Int))) (fun (x3 : (Int × (List (List Int)))) =>
 bif (decide (x3.1 < (((List.length x.1.2.1) : Nat) : Int))) then
 (gd ((0 : Int) ≤ x3.1) (gd (x3.1 ≤ (((List.length x.1.2.1) : Nat) : Int)) (gd ((((List.length x.1.2.1) : Nat) : Int) ≤ (((List.length x.1.2.1) : Nat) : Int)) (gd ((0 : Int) ≤ x3.1) (gd (x3.1 ≤ (Go.IntKind.wrap .i64 (x3.1 + (if (((List.length (List.take ((Int.toNat (((List.length x.1.2.1) : Nat) : Int)) - (Int.toNat x3.1)) (List.drop (Int.toNat x3.1) x.1.2.1))) : Nat) : Int) < (48 : Int) then (((List.length (List.take ((Int.toNat (((List.length x.1.2.1) : Nat) : Int)) - (Int.toNat x3.1)) (List.drop (Int.toNat x3.1) x.1.2.1))) : Nat) : Int) else (48 : Int))))) (gd ((Go.IntKind.wrap .i64 (x3.1 + (if (((List.length (List.take ((Int.toNat (((List.length x.1.2.1) : Nat) : Int)) - (Int.toNat x3.1)) (List.drop (Int.toNat x3.1) x.1.2.1))) : Nat) : Int) < (48 : Int) then (((List.length (List.take ((Int.toNat (((List.length x.1.2.1) : Nat) : Int)) - (Int.toNat x3.1)) (List.drop (Int.toNat x3.1) x.1.2.1))) : Nat) : Int) else (48 : Int)))) ≤ (Go.IntKind.wrap .i64 (x3.1 + (if (((List.length (List.take ((Int.toNat (((List.length x.1.2.1) : Nat) : Int)) - (Int.toNat x3.1)) (List.drop (Int.toNat x3.1) x.1.2.1))) : Nat) : Int) < (48 : Int) then (((List.length (List.take ((Int.toNat (((List.length x.1.2.1) : Nat) : Int)) - (Int.toNat x3.1)) (List.drop (Int.toNat x3.1) x.1.2.1))) : Nat) : Int) else (48 : Int))))) (gd ((Go.IntKind.wrap .i64 (x3.1 + (if (((List.length (List.take ((Int.toNat (((List.length x.1.2.1) : Nat) : Int)) - (Int.toNat x3.1)) (List.drop (Int.toNat x3.1) x.1.2.1))) : Nat) : Int) < (48 : Int) then (((List.length (List.take ((Int.toNat (((List.length x.1.2.1) : Nat) : Int)) - (Int.toNat x3.1)) (List.drop (Int.toNat x3.1) x.1.2.1))) : Nat) : Int) else (48 : Int)))) ≤ (((List.length x.1.2.1) : Nat) : Int)) (Option.bind (loopM (X := ((List (Int × Bool)) × ((List (List Int)) × Int))) (E := ((List (Int × Bool)) × (List (List Int)))) (fun (x4 : ((List (Int × Bool)) × ((List (List Int)) × Int))) =>
 bif (decide (x4.2.2 < (((List.length (List.take ((Int.toNat (Go.IntKind.wrap .i64 (x3.1 + (if (((List.length (List.take ((Int.toNat (((List.length x.1.2.1) : Nat) : Int)) - (Int.toNat x3.1)) (List.drop (Int.toNat x3.1) x.1.2.1))) : Nat) : Int) < (48 : Int) then (((List.length (List.take ((Int.toNat (((List.length x.1.2.1) : Nat) : Int)) - (Int.toNat x3.1)) (List.drop (Int.toNat x3.1) x.1.2.1))) : Nat) : Int) else (48 : Int))))) - (Int.toNat x3.1)) (List.drop (Int.toNat x3.1) x.1.2.1))) : Nat) : Int))) then
 (gd ((0 : Int) ≤ x4.2.2) (gd (x4.2.2 < (((List.length (List.take ((Int.toNat (Go.IntKind.wrap .i64 (x3.1 + (if (((List.length (List.take ((Int.toNat (((List.length x.1.2.1) : Nat) : Int)) - (Int.toNat x3.1)) (List.drop (Int.toNat x3.1) x.1.2.1))) : Nat) : Int) < (48 : Int) then (((List.length (List.take ((Int.toNat (((List.length x.1.2.1) : Nat) : Int)) - (Int.toNat x3.1)) (List.drop (Int.toNat x3.1) x.1.2.1))) : Nat) : Int) else (48 : Int))))) - (Int.toNat x3.1)) (List.drop (Int.toNat x3.1) x.1.2.1))) : Nat) : Int)) (Option.bind (m67 ((List.getD (List.take ((Int.toNat (Go.IntKind.wrap .i64 (x3.1 + (if (((List.length (List.take ((Int.toNat (((List.length x.1.2.1) : Nat) : Int)) - (Int.toNat x3.1)) (List.drop (Int.toNat x3.1) x.1.2.1))) : Nat) : Int) < (48 : Int) then (((List.length (List.take ((Int.toNat (((List.length x.1.2.1) : Nat) : Int)) - (Int.toNat x3.1)) (List.drop (Int.toNat x3.1) x.1.2.1))) : Nat) : Int) else (48 : Int))))) - (Int.toNat x3.1)) (List.drop (Int.toNat x3.1) x.1.2.1)) (Int.toNat x4.2.2) ((0 : Int), ([] : List Int))).2, ())) fun (y5 : ((List Int) × (Bool × Unit))) =>
 gd ((((List.length x4.1) + (List.length (((List.getD (List.take ((Int.toNat (Go.IntKind.wrap .i64 (x3.1 + (if (((List.length (List.take ((Int.toNat (((List.length x.1.2.1) : Nat) : Int)) - (Int.toNat x3.1)) (List.drop (Int.toNat x3.1) x.1.2.1))) : Nat) : Int) < (48 : Int) then (((List.length (List.take ((Int.toNat (((List.length x.1.2.1) : Nat) : Int)) - (Int.toNat x3.1)) (List.drop (Int.toNat x3.1) x.1.2.1))) : Nat) : Int) else (48 : Int))))) - (Int.toNat x3.1)) (List.drop (Int.toNat x3.1) x.1.2.1)) (Int.toNat x4.2.2) ((0 : Int), ([] : List Int))).1, y5.2.1) :: ([] : List (Int × Bool))))) * 16) ≤ 140737488355328) (gd (((List.length x4.1) + (List.length (((List.getD (List.take ((Int.toNat (Go.IntKind.wrap .i64 (x3.1 + (if (((List.length (List.take ((Int.toNat (((List.length x.1.2.1) : Nat) : Int)) - (Int.toNat x3.1)) (List.drop (Int.toNat x3.1) x.1.2.1))) : Nat) : Int) < (48 : Int) then (((List.length (List.take ((Int.toNat (((List.length x.1.2.1) : Nat) : Int)) - (Int.toNat x3.1)) (List.drop (Int.toNat x3.1) x.1.2.1))) : Nat) : Int) else (48 : Int))))) - (Int.toNat x3.1)) (List.drop (Int.toNat x3.1) x.1.2.1)) (Int.toNat x4.2.2) ((0 : Int), ([] : List Int))).1, y5.2.1) :: ([] : List (Int × Bool))))) ≤ 140737488355328) (gd ((((List.length x4.2.1) + (List.length (y5.1 :: ([] : List (List Int))))) * 24) ≤ 140737488355328) (gd (((List.length x4.2.1) + (List.length (y5.1 :: ([] : List (List Int))))) ≤ 140737488355328) (some (Sum.inl ((x4.1 ++ (((List.getD (List.take ((Int.toNat (Go.IntKind.wrap .i64 (x3.1 + (if (((List.length (List.take ((Int.toNat (((List.length x.1.2.1) : Nat) : Int)) - (Int.toNat x3.1)) (List.drop (Int.toNat x3.1) x.1.2.1))) : Nat) : Int) < (48 : Int) then (((List.length (List.take ((Int.toNat (((List.length x.1.2.1) : Nat) : Int)) - (Int.toNat x3.1)) (List.drop (Int.toNat x3.1) x.1.2.1))) : Nat) : Int) else (48 : Int))))) - (Int.toNat x3.1)) (List.drop (Int.toNat x3.1) x.1.2.1)) (Int.toNat x4.2.2) ((0 : Int), ([] : List Int))).1, y5.2.1) :: ([] : List (Int × Bool)))), ((x4.2.1 ++ (y5.1 :: ([] : List (List Int)))), (Go.IntKind.wrap .i64 (x4.2.2 + (1 : Int)))))))))))))
 else
 (some (Sum.inr (x4.1, x4.2.1)))) (([] : List (Int × Bool)), (([] : List (List Int)), (0 : Int)))) fun (y4 : ((List (Int × Bool)) × (List (List Int)))) =>
 Option.bind (m62 (((1 : Int), (x.1.1, (y4.1, (([] : List Int), (0 : Int))))), ())) fun (y5 : ((List Int) × (Int × Unit))) =>
 bif (decide (y5.2.1 = (0 : Int))) then
 (gd ((((List.length x3.2) + (List.length (y5.1 :: ([] : List (List Int))))) * 24) ≤ 140737488355328) (gd (((List.length x3.2) + (List.length (y5.1 :: ([] : List (List Int))))) ≤ 140737488355328) (gd ((((List.length (x3.2 ++ (y5.1 :: ([] : List (List Int))))) + (List.length y4.2)) * 24) ≤ 140737488355328) (gd (((List.length (x3.2 ++ (y5.1 :: ([] : List (List Int))))) + (List.length y4.2)) ≤ 140737488355328) (some (Sum.inl ((Go.IntKind.wrap .i64 (x3.1 + (48 : Int))), ((x3.2 ++ (y5.1 :: ([] : List (List Int)))) ++ y4.2))))))))
 else
 (gd ((((List.length x3.2) + (List.length y4.2)) * 24) ≤ 140737488355328) (gd (((List.length x3.2) + (List.length y4.2)) ≤ 140737488355328) (some (Sum.inl ((Go.IntKind.wrap .i64 (x3.1 + (48 : Int))), (x3.2 ++ y4.2))))))))))))))
 else
 (some (Sum.inr x3.2))) ((0 : Int), y2)) fun (y3 : (List (List Int))) =>
 Option.bind (m62 (((2 : Int), (x.1.1, (([] : List (Int × Bool)), (([] : List Int), (Go.IntKind.wrap .i64 ((((List.length y3) : Nat) : Int) + (1 : Int))))))), ())) fun (y4 : ((List Int) × (Int × Unit))) =>
 bif (decide (y4.2.1 = (0 : Int))) then
 (gd ((((List.length y3) + (List.length (y4.1 :: ([] : List (List Int))))) * 24) ≤ 140737488355328) (gd (((List.length y3) + (List.length (y4.1 :: ([] : List (List Int))))) ≤ 140737488355328) (some ((y3 ++ (y4.1 :: ([] : List (List Int)))), ((0 : Int), ())))))
 else
 (some (y3, ((0 : Int), ()))))))

noncomputable def i40_64 : ID := aInl Try.prog (envOf [(62, ⟨[(true, (.pair (.int .i64) (.pair (.int .i64) (.pair (.sl (.pair (.int .i64) .bool)) (.pair (.sl (.int .i64)) (.int .i64))))))], [(false, (.sl (.int .u8))), (false, (.int .i64))], false, m62⟩)] [] [] []) ⟨[], []⟩ Try.f64
noncomputable def i40_65 : ID := aInl Try.prog (envOf [] [] [] []) ⟨[], []⟩ Try.f65
noncomputable def i40_66 : ID := aInl Try.prog (envOf [] [] [] []) ⟨[], []⟩ Try.f66
noncomputable def i40_83 : ID := aInl Try.prog (envOf [] [] [] []) ⟨[(8000, ⟨[.slot 4 (.d false (.int .i64) true), .cell 1 0 (.v 33 (.sl (.int .u8)) true)], [], [(some 0, [.cell 1 0 (.v 33 (.sl (.int .u8)) true)])], none⟩)], []⟩ Try.f83
noncomputable def i40_84 : ID := aInl Try.prog (envOf [] [] [] []) ⟨[(13000, ⟨[.slot 4 (.d false (.int .i64) true), .cell 1 0 (.v 33 (.sl (.int .u8)) true)], [7], [(some 0, [.cell 1 0 (.v 33 (.sl (.int .u8)) true)])], none⟩)], []⟩ Try.f84
noncomputable def r40 : PDen [(true, (.pair (.int .i64) (.pair (.sl (.pair (.int .i64) (.sl (.int .u8)))) (.sl (.int .i64)))))] → Option (PDen [(false, (.sl (.sl (.int .u8)))), (false, (.int .i64))]) := fun x => afun Try.prog (envOf [(51, ⟨[(true, (.pair (.int .i64) (.pair (.sl (.pair (.int .i64) (.sl (.int .u8)))) (.sl (.int .i64)))))], [(false, (.int .i64))], false, m51⟩), (67, ⟨[(false, (.sl (.int .u8)))], [(false, (.sl (.int .u8))), (false, .bool)], false, m67⟩)] [] [] [(64, i40_64), (65, i40_65), (66, i40_66), (83, i40_83), (84, i40_84)]) ⟨[(4, ⟨[.slot 9 (.v 90 (.pair (.int .i64) .bool) true), .slot 10 (.v 33 (.sl (.int .u8)) true), .slot 35 (.d false (.int .i64) true)], [], [(some 4, [.slot 9 (.v 90 (.pair (.int .i64) .bool) true), .slot 10 (.v 33 (.sl (.int .u8)) true)])], none⟩)], []⟩ Try.f40 [(true, (.pair (.int .i64) (.pair (.sl (.pair (.int .i64) (.sl (.int .u8)))) (.sl (.int .i64)))))] [(false, (.sl (.sl (.int .u8)))), (false, (.int .i64))] false x
theorem r40_eq : r40 = m40 := by kernel_rfl

theorem i40_64_sound : i40_64.Sound Try.prog 64 := aInl_sound' (envOf_sound (CSs.cons c62 (CSs.nil)) (HDs.nil) (IDs.nil)) Try.follows (f := 64) (fn := Try.f64) Try.func64 (by kernel_rfl) (by kernel_rfl)
theorem i40_65_sound : i40_65.Sound Try.prog 65 := aInl_sound' (envOf_sound (CSs.nil) (HDs.nil) (IDs.nil)) Try.follows (f := 65) (fn := Try.f65) Try.func65 (by kernel_rfl) (by kernel_rfl)
theorem i40_66_sound : i40_66.Sound Try.prog 66 := aInl_sound' (envOf_sound (CSs.nil) (HDs.nil) (IDs.nil)) Try.follows (f := 66) (fn := Try.f66) Try.func66 (by kernel_rfl) (by kernel_rfl)
theorem i40_83_sound : i40_83.Sound Try.prog 83 := aInl_sound' (envOf_sound (CSs.nil) (HDs.nil) (IDs.nil)) Try.follows (f := 83) (fn := Try.f83) Try.func83 (by kernel_rfl) (by kernel_rfl)
theorem i40_84_sound : i40_84.Sound Try.prog 84 := aInl_sound' (envOf_sound (CSs.nil) (HDs.nil) (IDs.nil)) Try.follows (f := 84) (fn := Try.f84) Try.func84 (by kernel_rfl) (by kernel_rfl)
theorem c40 : CS.Sound Try.prog 40 ⟨[(true, (.pair (.int .i64) (.pair (.sl (.pair (.int .i64) (.sl (.int .u8)))) (.sl (.int .i64)))))], [(false, (.sl (.sl (.int .u8)))), (false, (.int .i64))], false, m40⟩ := afun_sound' (envOf_sound (CSs.cons c51 (CSs.cons c67 (CSs.nil))) (HDs.nil) (IDs.cons i40_64_sound (IDs.cons i40_65_sound (IDs.cons i40_66_sound (IDs.cons i40_83_sound (IDs.cons i40_84_sound (IDs.nil))))))) rfl Try.follows (f := 40) (fn := Try.f40) Try.func40 (by kernel_rfl) (by kernel_rfl) r40_eq
end Go.Proofs.Ytjleeabhpfmhaaa
end

section
open Go Go.Proofs.AM
namespace Go.Proofs.Ytjleeabhpfmhaaa

noncomputable def m24 (x : Int × (List (List Int)) × Unit) : Option (TyT × (Int × (Int × Unit))) :=
 Option.bind (loopM (X := (Int × TyT)) (E := TyT) (fun (x1 : (Int × TyT)) =>
 bif (decide (x1.1 < (((List.length x.2.1) : Nat) : Int))) then
 (gd ((0 : Int) ≤ x1.1) (gd (x1.1 < (((List.length x.2.1) : Nat) : Int)) (Option.bind (m38 ((List.getD x.2.1 (Int.toNat x1.1) ([] : List Int)), ())) fun (y2 : ((Int × (Int × ((List (Int × Bool)) × ((List Int) × Int)))) × (Int × Unit))) =>
 bif (!(decide (y2.2.1 = (0 : Int)))) then
 (some (Sum.inr (x1.2.1, (x1.2.2.1, x1.2.2.2))))
 else
 (bif (!(decide (y2.1.2.1 = x.1))) then
 (some (Sum.inr (x1.2.1, (x1.2.2.1, x1.2.2.2))))
 else
 (bif (decide (y2.1.1 = (2 : Int))) then
 (some (Sum.inr (x1.2.1, (x1.2.2.1, x1.2.2.2))))
 else
 (bif (decide (y2.1.1 = (3 : Int))) then
 (gd ((((List.length x1.2.2.2) + (List.length y2.1.2.2.2.1)) * 8) ≤ 140737488355328) (gd (((List.length x1.2.2.2) + (List.length y2.1.2.2.2.1)) ≤ 140737488355328) (some (Sum.inl ((Go.IntKind.wrap .i64 (x1.1 + (1 : Int))), (x1.2.1, (x1.2.2.1, (x1.2.2.2 ++ y2.1.2.2.2.1))))))))
 else
 (bif (decide (y2.1.1 = (1 : Int))) then
 (bif (decide ((((List.length y2.1.2.2.1) : Nat) : Int) > (Go.IntKind.wrap .i64 ((((List.length x.2.1) : Nat) : Int) - (Go.IntKind.wrap .i64 (x1.1 + (1 : Int))))))) then
 (some (Sum.inr (x1.2.1, (x1.2.2.1, x1.2.2.2))))
 else
 (Option.bind (loopM (X := (Int × (Int × TyT))) (E := (Int × TyT)) (fun (x3 : (Int × (Int × TyT))) =>
 bif (decide (x3.2.1 < (((List.length y2.1.2.2.1) : Nat) : Int))) then
 (gd ((0 : Int) ≤ x3.2.1) (gd (x3.2.1 < (((List.length y2.1.2.2.1) : Nat) : Int)) (gd ((0 : Int) ≤ x3.1) (gd (x3.1 < (((List.length x.2.1) : Nat) : Int)) (Option.bind (m39 ((List.getD x.2.1 (Int.toNat x3.1) ([] : List Int)), ((List.getD y2.1.2.2.1 (Int.toNat x3.2.1) ((0 : Int), false)).2, ()))) fun (y4 : ((List Int) × Unit)) =>
 gd ((((List.length x3.2.2.2.1) + (List.length (((List.getD y2.1.2.2.1 (Int.toNat x3.2.1) ((0 : Int), false)).1, y4.1) :: ([] : List (Int × (List Int)))))) * 32) ≤ 140737488355328) (gd (((List.length x3.2.2.2.1) + (List.length (((List.getD y2.1.2.2.1 (Int.toNat x3.2.1) ((0 : Int), false)).1, y4.1) :: ([] : List (Int × (List Int)))))) ≤ 140737488355328) (some (Sum.inl ((Go.IntKind.wrap .i64 (x3.1 + (1 : Int))), ((Go.IntKind.wrap .i64 (x3.2.1 + (1 : Int))), (x3.2.2.1, ((x3.2.2.2.1 ++ (((List.getD y2.1.2.2.1 (Int.toNat x3.2.1) ((0 : Int), false)).1, y4.1) :: ([] : List (Int × (List Int))))), x3.2.2.2.2))))))))))))
 else
 (some (Sum.inr (x3.1, (x3.2.2.1, (x3.2.2.2.1, x3.2.2.2.2)))))) ((Go.IntKind.wrap .i64 (x1.1 + (1 : Int))), ((0 : Int), (x1.2.1, (x1.2.2.1, x1.2.2.2))))) fun (y3 : (Int × TyT)) =>
 some (Sum.inl (y3.1, (y3.2.1, (y3.2.2.1, y3.2.2.2))))))
 else
 (some (Sum.inl ((Go.IntKind.wrap .i64 (x1.1 + (1 : Int))), (x1.2.1, (x1.2.2.1, x1.2.2.2))))))))))))
 else
 (some (Sum.inr (x1.2.1, (x1.2.2.1, x1.2.2.2))))) ((0 : Int), (x.1, (([] : List (Int × (List Int))), ([] : List Int))))) fun (y1 : TyT) =>
 Option.bind (m40 (y1, ())) fun (y2 : ((List (List Int)) × (Int × Unit))) =>
 bif (!(decide (y2.2.1 = (0 : Int)))) then
 (some (((0 : Int), (([] : List (Int × (List Int))), ([] : List Int))), ((0 : Int), ((170 : Int), ()))))
 else
 (bif (decide ((((List.length y2.1) : Nat) : Int) > (((List.length x.2.1) : Nat) : Int))) then
 (some (((0 : Int), (([] : List (Int × (List Int))), ([] : List Int))), ((0 : Int), ((170 : Int), ()))))
 else
 (gd ((0 : Int) ≤ (((List.length y2.1) : Nat) : Int)) (gd ((((List.length y2.1) : Nat) : Int) ≤ (((List.length x.2.1) : Nat) : Int)) (bif (!(decide ((((List.length y2.1) : Nat) : Int) = (((List.length (List.take ((Int.toNat (((List.length y2.1) : Nat) : Int)) - (Int.toNat (0 : Int))) (List.drop (Int.toNat (0 : Int)) x.2.1))) : Nat) : Int)))) then
 (some (((0 : Int), (([] : List (Int × (List Int))), ([] : List Int))), ((0 : Int), ((170 : Int), ()))))
 else
 (Option.bind (loopM (X := Int) (E := (Unit ⊕ Bool)) (fun (x3 : Int) =>
 bif (decide (x3 < (((List.length y2.1) : Nat) : Int))) then
 (gd ((0 : Int) ≤ x3) (gd (x3 < (((List.length y2.1) : Nat) : Int)) (gd ((0 : Int) ≤ x3) (gd (x3 < (((List.length (List.take ((Int.toNat (((List.length y2.1) : Nat) : Int)) - (Int.toNat (0 : Int))) (List.drop (Int.toNat (0 : Int)) x.2.1))) : Nat) : Int)) (Option.bind (m37 ((List.getD y2.1 (Int.toNat x3) ([] : List Int)), ((List.getD (List.take ((Int.toNat (((List.length y2.1) : Nat) : Int)) - (Int.toNat (0 : Int))) (List.drop (Int.toNat (0 : Int)) x.2.1)) (Int.toNat x3) ([] : List Int)), ()))) fun (y4 : (Bool × Unit)) =>
 bif (!y4.1) then
 (some (Sum.inr (Sum.inr false)))
 else
 (some (Sum.inl (Go.IntKind.wrap .i64 (x3 + (1 : Int))))))))))
 else
 (some (Sum.inr (Sum.inl ())))) (0 : Int)) fun (y3 : (Unit ⊕ Bool)) =>
 Sum.elim (fun y4 =>
 some (y1, ((((List.length y2.1) : Nat) : Int), ((0 : Int), ())))) (fun y4 =>
 bif (!y4) then
 (some (((0 : Int), (([] : List (Int × (List Int))), ([] : List Int))), ((0 : Int), ((170 : Int), ()))))
 else
 (some (y1, ((((List.length y2.1) : Nat) : Int), ((0 : Int), ()))))) y3)))))

noncomputable def i24_41 : ID := aInl Try.prog (envOf [(37, ⟨[(false, (.sl (.int .u8))), (false, (.sl (.int .u8)))], [(false, .bool)], false, m37⟩)] [] [] []) ⟨[(5000, ⟨[.slot 17 (.d false (.int .i64) true)], [], [(some 0, []), (none, [.slot 6 (.d false .bool true)])], none⟩)], []⟩ Try.f41
noncomputable def r24 : PDen [(false, (.int .i64)), (false, (.sl (.sl (.int .u8))))] → Option (PDen [(true, (.pair (.int .i64) (.pair (.sl (.pair (.int .i64) (.sl (.int .u8)))) (.sl (.int .i64))))), (false, (.int .i64)), (false, (.int .i64))]) := fun x => afun Try.prog (envOf [(38, ⟨[(false, (.sl (.int .u8)))], [(true, (.pair (.int .i64) (.pair (.int .i64) (.pair (.sl (.pair (.int .i64) .bool)) (.pair (.sl (.int .i64)) (.int .i64)))))), (false, (.int .i64))], false, m38⟩), (39, ⟨[(false, (.sl (.int .u8))), (false, .bool)], [(false, (.sl (.int .u8)))], false, m39⟩), (40, ⟨[(true, (.pair (.int .i64) (.pair (.sl (.pair (.int .i64) (.sl (.int .u8)))) (.sl (.int .i64)))))], [(false, (.sl (.sl (.int .u8)))), (false, (.int .i64))], false, m40⟩)] [] [] [(41, i24_41)]) ⟨[(0, ⟨[.slot 8 (.d false (.int .i64) true), .cell 1 0 (.d false (.int .i64) true), .cell 1 1 (.v 66 (.pair (.int .i64) (.sl (.int .u8))) true), .cell 1 2 (.v 3 (.int .i64) true)], [], [(some 0, [.cell 1 0 (.d false (.int .i64) true), .cell 1 1 (.v 66 (.pair (.int .i64) (.sl (.int .u8))) true), .cell 1 2 (.v 3 (.int .i64) true)])], none⟩), (3, ⟨[.slot 8 (.d false (.int .i64) true), .slot 64 (.d false (.int .i64) true), .cell 1 0 (.d false (.int .i64) true), .cell 1 1 (.v 66 (.pair (.int .i64) (.sl (.int .u8))) true), .cell 1 2 (.v 3 (.int .i64) true)], [2, 3], [(some 3, [.slot 8 (.d false (.int .i64) true), .cell 1 0 (.d false (.int .i64) true), .cell 1 1 (.v 66 (.pair (.int .i64) (.sl (.int .u8))) true), .cell 1 2 (.v 3 (.int .i64) true)])], none⟩)], []⟩ Try.f24 [(false, (.int .i64)), (false, (.sl (.sl (.int .u8))))] [(true, (.pair (.int .i64) (.pair (.sl (.pair (.int .i64) (.sl (.int .u8)))) (.sl (.int .i64))))), (false, (.int .i64)), (false, (.int .i64))] false x
theorem r24_eq : r24 = m24 := by kernel_rfl

theorem i24_41_sound : i24_41.Sound Try.prog 41 := aInl_sound' (envOf_sound (CSs.cons c37 (CSs.nil)) (HDs.nil) (IDs.nil)) Try.follows (f := 41) (fn := Try.f41) Try.func41 (by kernel_rfl) (by kernel_rfl)
theorem c24 : CS.Sound Try.prog 24 ⟨[(false, (.int .i64)), (false, (.sl (.sl (.int .u8))))], [(true, (.pair (.int .i64) (.pair (.sl (.pair (.int .i64) (.sl (.int .u8)))) (.sl (.int .i64))))), (false, (.int .i64)), (false, (.int .i64))], false, m24⟩ := afun_sound' (envOf_sound (CSs.cons c38 (CSs.cons c39 (CSs.cons c40 (CSs.nil)))) (HDs.nil) (IDs.cons i24_41_sound (IDs.nil))) rfl Try.follows (f := 24) (fn := Try.f24) Try.func24 (by kernel_rfl) (by kernel_rfl) r24_eq
end Go.Proofs.Ytjleeabhpfmhaaa
end

section
open Go Go.Proofs.AM
namespace Go.Proofs.Ytjleeabhpfmhaaa

noncomputable def m7 (x : (List (List Int)) × Unit) : Option (((List TyT) × (Int × Int)) × (Int × Unit)) :=
 bif (decide ((((List.length x.1) : Nat) : Int) ≥ (16 : Int))) then
 (bif (!(decide ((((List.length x.1) : Nat) : Int) ≤ (64 : Int)))) then
 (some ((([] : List TyT), ((0 : Int), (0 : Int))), ((1 : Int), ())))
 else
 (gd ((0 : Int) < (((List.length x.1) : Nat) : Int)) (Option.bind (m23 ((List.getD x.1 (Int.toNat (0 : Int)) ([] : List Int)), ())) fun (y1 : ((Int × Int) × (Int × Unit))) =>
 bif (!(decide (y1.2.1 = (0 : Int)))) then
 (some ((([] : List TyT), ((0 : Int), (0 : Int))), (y1.2.1, ())))
 else
 (bif (decide (y1.1.1 ≥ (((List.length x.1) : Nat) : Int))) then
 (some ((([] : List TyT), ((0 : Int), (0 : Int))), ((170 : Int), ())))
 else
 (bif (decide (y1.1.1 = (0 : Int))) then
 (some ((([] : List TyT), ((1 : Int), y1.1.2)), ((0 : Int), ())))
 else
 (Option.bind (loopM (X := ((List (List Int)) × Int)) (E := (List (List Int))) (fun (x2 : ((List (List Int)) × Int)) =>
 bif (decide (x2.2 < (Go.IntKind.wrap .i64 ((((List.length x.1) : Nat) : Int) - (1 : Int))))) then
 (Option.bind (m10 ((((List.length x.1) : Nat) : Int), (y1.1.1, (x2.2, ())))) fun (y3 : (Int × Unit)) =>
 gd ((0 : Int) ≤ y3.1) (gd (y3.1 < (((List.length x.1) : Nat) : Int)) (gd ((((List.length x2.1) + (List.length ((List.getD x.1 (Int.toNat y3.1) ([] : List Int)) :: ([] : List (List Int))))) * 24) ≤ 140737488355328) (gd (((List.length x2.1) + (List.length ((List.getD x.1 (Int.toNat y3.1) ([] : List Int)) :: ([] : List (List Int))))) ≤ 140737488355328) (some (Sum.inl ((x2.1 ++ ((List.getD x.1 (Int.toNat y3.1) ([] : List Int)) :: ([] : List (List Int)))), (Go.IntKind.wrap .i64 (x2.2 + (1 : Int))))))))))
 else
 (some (Sum.inr x2.1))) (([] : List (List Int)), (0 : Int))) fun (y2 : (List (List Int))) =>
 Option.bind (loopM (X := (Int × ((List TyT) × (Int × Int)))) (E := (Int × ((List TyT) × (Int × Int)))) (fun (x3 : (Int × ((List TyT) × (Int × Int)))) =>
 bif (decide (x3.2.2.2 ≤ (281474976710656 : Int))) then
 (bif (decide (x3.1 < (((List.length y2) : Nat) : Int))) then
 (gd ((0 : Int) ≤ x3.1) (gd (x3.1 ≤ (((List.length y2) : Nat) : Int)) (gd ((((List.length y2) : Nat) : Int) ≤ (((List.length y2) : Nat) : Int)) (Option.bind (m24 (x3.2.2.2, ((List.take ((Int.toNat (((List.length y2) : Nat) : Int)) - (Int.toNat x3.1)) (List.drop (Int.toNat x3.1) y2)), ()))) fun (y4 : (TyT × (Int × (Int × Unit)))) =>
 bif (!(decide (y4.2.2.1 = (0 : Int)))) then
 (some (Sum.inr (x3.1, (x3.2.1, (x3.2.2.1, x3.2.2.2)))))
 else
 (gd ((((List.length x3.2.1) + (List.length (y4.1 :: ([] : List TyT)))) * 56) ≤ 140737488355328) (gd (((List.length x3.2.1) + (List.length (y4.1 :: ([] : List TyT)))) ≤ 140737488355328) (some (Sum.inl ((Go.IntKind.wrap .i64 (x3.1 + y4.2.1)), ((x3.2.1 ++ (y4.1 :: ([] : List TyT))), (x3.2.2.1, (Go.IntKind.wrap .i64 (x3.2.2.2 + (1 : Int))))))))))))))
 else
 (some (Sum.inr (x3.1, (x3.2.1, (x3.2.2.1, x3.2.2.2))))))
 else
 (some (Sum.inr (x3.1, (x3.2.1, (x3.2.2.1, x3.2.2.2)))))) ((0 : Int), (([] : List TyT), ((0 : Int), y1.1.2)))) fun (y3 : (Int × ((List TyT) × (Int × Int)))) =>
 if (Go.IntKind.wrap .i64 ((((List.length x.1) : Nat) : Int) - (1 : Int))) = (0 : Int) then
 (none)
 else
 (Option.bind (m10 ((((List.length x.1) : Nat) : Int), (y1.1.1, ((Int.tmod y3.1 (Go.IntKind.wrap .i64 ((((List.length x.1) : Nat) : Int) - (1 : Int)))), ())))) fun (y4 : (Int × Unit)) =>
 some ((y3.2.1, (y4.1, y3.2.2.2)), ((0 : Int), ())))))))))
 else
 (some ((([] : List TyT), ((0 : Int), (0 : Int))), ((1 : Int), ())))

noncomputable def i7_22 : ID := aInl Try.prog (envOf [] [] [] []) ⟨[], []⟩ Try.f22
noncomputable def r7 : PDen [(false, (.sl (.sl (.int .u8))))] → Option (PDen [(true, (.pair (.sl (.pair (.int .i64) (.pair (.sl (.pair (.int .i64) (.sl (.int .u8)))) (.sl (.int .i64))))) (.pair (.int .i64) (.int .i64)))), (false, (.int .i64))]) := fun x => afun Try.prog (envOf [(10, ⟨[(false, (.int .i64)), (false, (.int .i64)), (false, (.int .i64))], [(false, (.int .i64))], false, m10⟩), (23, ⟨[(false, (.sl (.int .u8)))], [(true, (.pair (.int .i64) (.int .i64))), (false, (.int .i64))], false, m23⟩), (24, ⟨[(false, (.int .i64)), (false, (.sl (.sl (.int .u8))))], [(true, (.pair (.int .i64) (.pair (.sl (.pair (.int .i64) (.sl (.int .u8)))) (.sl (.int .i64))))), (false, (.int .i64)), (false, (.int .i64))], false, m24⟩)] [] [] [(22, i7_22)]) ⟨[(0, ⟨[.slot 7 (.v 33 (.sl (.int .u8)) false), .slot 44 (.d false (.int .i64) true)], [], [(some 0, [.slot 7 (.v 33 (.sl (.int .u8)) false)])], none⟩), (2, ⟨[.slot 10 (.d false (.int .i64) true), .cell 3 0 (.v 42 (.pair (.int .i64) (.pair (.sl (.pair (.int .i64) (.sl (.int .u8)))) (.sl (.int .i64)))) true), .cell 3 1 (.d false (.int .i64) true), .cell 3 2 (.d false (.int .i64) true)], [], [(some 2, [.slot 10 (.d false (.int .i64) true), .cell 3 0 (.v 42 (.pair (.int .i64) (.pair (.sl (.pair (.int .i64) (.sl (.int .u8)))) (.sl (.int .i64)))) true), .cell 3 1 (.d false (.int .i64) true), .cell 3 2 (.d false (.int .i64) true)])], none⟩)], []⟩ Try.f7 [(false, (.sl (.sl (.int .u8))))] [(true, (.pair (.sl (.pair (.int .i64) (.pair (.sl (.pair (.int .i64) (.sl (.int .u8)))) (.sl (.int .i64))))) (.pair (.int .i64) (.int .i64)))), (false, (.int .i64))] false x
theorem r7_eq : r7 = m7 := by kernel_rfl

theorem i7_22_sound : i7_22.Sound Try.prog 22 := aInl_sound' (envOf_sound (CSs.nil) (HDs.nil) (IDs.nil)) Try.follows (f := 22) (fn := Try.f22) Try.func22 (by kernel_rfl) (by kernel_rfl)
theorem c7 : CS.Sound Try.prog 7 ⟨[(false, (.sl (.sl (.int .u8))))], [(true, (.pair (.sl (.pair (.int .i64) (.pair (.sl (.pair (.int .i64) (.sl (.int .u8)))) (.sl (.int .i64))))) (.pair (.int .i64) (.int .i64)))), (false, (.int .i64))], false, m7⟩ := afun_sound' (envOf_sound (CSs.cons c10 (CSs.cons c23 (CSs.cons c24 (CSs.nil)))) (HDs.nil) (IDs.cons i7_22_sound (IDs.nil))) rfl Try.follows (f := 7) (fn := Try.f7) Try.func7 (by kernel_rfl) (by kernel_rfl) r7_eq
end Go.Proofs.Ytjleeabhpfmhaaa
end

section
open Go Go.Proofs.AM
namespace Go.Proofs.Ytjleeabhpfmhaaa

noncomputable def m134 (x : TyD × Unit) : Option (TyD × (Int × Unit)) :=
 bif (decide ((((List.length x.1.1) : Nat) : Int) = (0 : Int))) then
 (some (x.1, ((2 : Int), ())))
 else
 (bif x.1.2.2.1 then
 (some (x.1, ((8 : Int), ())))
 else
 (some (x.1, ((0 : Int), ()))))

noncomputable def i134_141 : ID := aInl Try.prog (envOf [] [] [] []) ⟨[], []⟩ Try.f141
noncomputable def i134_139 : ID := aInl Try.prog (envOf [] [] [] [(141, i134_141)]) ⟨[], []⟩ Try.f139
noncomputable def r134 : PDen ((true, (.pair (.sl (.sl (.int .u8))) (.pair (.sl .bool) (.pair .bool (.pair .bool (.pair (.int .i64) (.pair (.int .i64) (.sl (.pair (.int .i64) (.sl (.int .u8))))))))))) :: []) → Option (PDen ((true, (.pair (.sl (.sl (.int .u8))) (.pair (.sl .bool) (.pair .bool (.pair .bool (.pair (.int .i64) (.pair (.int .i64) (.sl (.pair (.int .i64) (.sl (.int .u8))))))))))) :: [(false, (.int .i64))])) := fun x => afunIO Try.prog (envOf [] [] [] [(139, i134_139)]) ⟨[], []⟩ Try.f134 75 (.pair (.sl (.sl (.int .u8))) (.pair (.sl .bool) (.pair .bool (.pair .bool (.pair (.int .i64) (.pair (.int .i64) (.sl (.pair (.int .i64) (.sl (.int .u8)))))))))) (.p (.s 33) (.p (.s 4) (.p .d (.p .d (.p .d (.p .d (.s 182))))))) [] [(false, (.int .i64))] x
theorem r134_eq : r134 = m134 := by kernel_rfl

theorem i134_141_sound : i134_141.Sound Try.prog 141 := aInl_sound' (envOf_sound (CSs.nil) (HDs.nil) (IDs.nil)) Try.follows (f := 141) (fn := Try.f141) Try.func141 (by kernel_rfl) (by kernel_rfl)
theorem i134_139_sound : i134_139.Sound Try.prog 139 := aInl_sound' (envOf_sound (CSs.nil) (HDs.nil) (IDs.cons i134_141_sound (IDs.nil))) Try.follows (f := 139) (fn := Try.f139) Try.func139 (by kernel_rfl) (by kernel_rfl)
theorem c134 : IOc.Sound Try.prog 134 ⟨75, (.pair (.sl (.sl (.int .u8))) (.pair (.sl .bool) (.pair .bool (.pair .bool (.pair (.int .i64) (.pair (.int .i64) (.sl (.pair (.int .i64) (.sl (.int .u8)))))))))), (.p (.s 33) (.p (.s 4) (.p .d (.p .d (.p .d (.p .d (.s 182))))))), [], [(false, (.int .i64))], m134⟩ := afunIO_sound' (envOf_sound (CSs.nil) (HDs.nil) (IDs.cons i134_139_sound (IDs.nil))) rfl Try.follows (f := 134) (fn := Try.f134) Try.func134 (by kernel_rfl) (by kernel_rfl) r134_eq
end Go.Proofs.Ytjleeabhpfmhaaa
end

section
open Go Go.Proofs.AM
namespace Go.Proofs.Ytjleeabhpfmhaaa

noncomputable def m135 (x : TyD × Int × Unit) : Option (TyD × ((List Int) × (Int × Unit))) :=
 bif (decide ((((List.length x.1.1) : Nat) : Int) = (0 : Int))) then
 (some (x.1, (([] : List Int), ((2 : Int), ()))))
 else
 (bif x.1.2.2.1 then
 (some (x.1, (([] : List Int), ((8 : Int), ()))))
 else
 (bif (decide (x.2.1 ≥ (0 : Int))) then
 (bif (!(decide (x.2.1 < (((List.length x.1.1) : Nat) : Int)))) then
 (some (x.1, (([] : List Int), ((1 : Int), ()))))
 else
 (gd ((0 : Int) ≤ x.2.1) (gd (x.2.1 < (((List.length x.1.2.1) : Nat) : Int)) (gd ((Int.toNat x.2.1) < (List.length x.1.2.1)) (bif (List.getD x.1.2.1 (Int.toNat x.2.1) false) then
 (some (x.1, (([] : List Int), ((80 : Int), ()))))
 else
 (gd ((0 : Int) ≤ x.2.1) (gd (x.2.1 < (((List.length x.1.1) : Nat) : Int)) (gd ((Int.toNat x.2.1) < (List.length x.1.1)) (Option.bind (m52 ((List.getD x.1.1 (Int.toNat x.2.1) ([] : List Int)), ())) fun (y1 : ((List Int) × Unit)) =>
 some (x.1, (y1.1, ((0 : Int), ()))))))))))))
 else
 (some (x.1, (([] : List Int), ((1 : Int), ()))))))

noncomputable def i135_141 : ID := aInl Try.prog (envOf [] [] [] []) ⟨[], []⟩ Try.f141
noncomputable def i135_139 : ID := aInl Try.prog (envOf [] [] [] [(141, i135_141)]) ⟨[], []⟩ Try.f139
noncomputable def i135_140 : ID := aInl Try.prog (envOf [] [] [] []) ⟨[], []⟩ Try.f140
noncomputable def r135 : PDen ((true, (.pair (.sl (.sl (.int .u8))) (.pair (.sl .bool) (.pair .bool (.pair .bool (.pair (.int .i64) (.pair (.int .i64) (.sl (.pair (.int .i64) (.sl (.int .u8))))))))))) :: [(false, (.int .i64))]) → Option (PDen ((true, (.pair (.sl (.sl (.int .u8))) (.pair (.sl .bool) (.pair .bool (.pair .bool (.pair (.int .i64) (.pair (.int .i64) (.sl (.pair (.int .i64) (.sl (.int .u8))))))))))) :: [(false, (.sl (.int .u8))), (false, (.int .i64))])) := fun x => afunIO Try.prog (envOf [(52, ⟨[(false, (.sl (.int .u8)))], [(false, (.sl (.int .u8)))], false, m52⟩)] [] [] [(139, i135_139), (140, i135_140)]) ⟨[], []⟩ Try.f135 75 (.pair (.sl (.sl (.int .u8))) (.pair (.sl .bool) (.pair .bool (.pair .bool (.pair (.int .i64) (.pair (.int .i64) (.sl (.pair (.int .i64) (.sl (.int .u8)))))))))) (.p (.s 33) (.p (.s 4) (.p .d (.p .d (.p .d (.p .d (.s 182))))))) [(false, (.int .i64))] [(false, (.sl (.int .u8))), (false, (.int .i64))] x
theorem r135_eq : r135 = m135 := by kernel_rfl

theorem i135_141_sound : i135_141.Sound Try.prog 141 := aInl_sound' (envOf_sound (CSs.nil) (HDs.nil) (IDs.nil)) Try.follows (f := 141) (fn := Try.f141) Try.func141 (by kernel_rfl) (by kernel_rfl)
theorem i135_139_sound : i135_139.Sound Try.prog 139 := aInl_sound' (envOf_sound (CSs.nil) (HDs.nil) (IDs.cons i135_141_sound (IDs.nil))) Try.follows (f := 139) (fn := Try.f139) Try.func139 (by kernel_rfl) (by kernel_rfl)
theorem i135_140_sound : i135_140.Sound Try.prog 140 := aInl_sound' (envOf_sound (CSs.nil) (HDs.nil) (IDs.nil)) Try.follows (f := 140) (fn := Try.f140) Try.func140 (by kernel_rfl) (by kernel_rfl)
theorem c135 : IOc.Sound Try.prog 135 ⟨75, (.pair (.sl (.sl (.int .u8))) (.pair (.sl .bool) (.pair .bool (.pair .bool (.pair (.int .i64) (.pair (.int .i64) (.sl (.pair (.int .i64) (.sl (.int .u8)))))))))), (.p (.s 33) (.p (.s 4) (.p .d (.p .d (.p .d (.p .d (.s 182))))))), [(false, (.int .i64))], [(false, (.sl (.int .u8))), (false, (.int .i64))], m135⟩ := afunIO_sound' (envOf_sound (CSs.cons (OM.Sound.cs c52) (CSs.nil)) (HDs.nil) (IDs.cons i135_139_sound (IDs.cons i135_140_sound (IDs.nil)))) rfl Try.follows (f := 135) (fn := Try.f135) Try.func135 (by kernel_rfl) (by kernel_rfl) r135_eq
end Go.Proofs.Ytjleeabhpfmhaaa
end

section
open Go Go.Proofs.AM
namespace Go.Proofs.Ytjleeabhpfmhaaa

noncomputable def m137 (x : TyD × Unit) : Option (TyD × (Int × Unit)) :=
 bif (decide ((((List.length x.1.1) : Nat) : Int) = (0 : Int))) then
 (some (x.1, ((0 : Int), ())))
 else
 (some (x.1, ((((List.length x.1.1) : Nat) : Int), ())))

noncomputable def i137_141 : ID := aInl Try.prog (envOf [] [] [] []) ⟨[], []⟩ Try.f141
noncomputable def r137 : PDen ((true, (.pair (.sl (.sl (.int .u8))) (.pair (.sl .bool) (.pair .bool (.pair .bool (.pair (.int .i64) (.pair (.int .i64) (.sl (.pair (.int .i64) (.sl (.int .u8))))))))))) :: []) → Option (PDen ((true, (.pair (.sl (.sl (.int .u8))) (.pair (.sl .bool) (.pair .bool (.pair .bool (.pair (.int .i64) (.pair (.int .i64) (.sl (.pair (.int .i64) (.sl (.int .u8))))))))))) :: [(false, (.int .i64))])) := fun x => afunIO Try.prog (envOf [] [] [] [(141, i137_141)]) ⟨[], []⟩ Try.f137 75 (.pair (.sl (.sl (.int .u8))) (.pair (.sl .bool) (.pair .bool (.pair .bool (.pair (.int .i64) (.pair (.int .i64) (.sl (.pair (.int .i64) (.sl (.int .u8)))))))))) (.p (.s 33) (.p (.s 4) (.p .d (.p .d (.p .d (.p .d (.s 182))))))) [] [(false, (.int .i64))] x
theorem r137_eq : r137 = m137 := by kernel_rfl

theorem i137_141_sound : i137_141.Sound Try.prog 141 := aInl_sound' (envOf_sound (CSs.nil) (HDs.nil) (IDs.nil)) Try.follows (f := 141) (fn := Try.f141) Try.func141 (by kernel_rfl) (by kernel_rfl)
theorem c137 : IOc.Sound Try.prog 137 ⟨75, (.pair (.sl (.sl (.int .u8))) (.pair (.sl .bool) (.pair .bool (.pair .bool (.pair (.int .i64) (.pair (.int .i64) (.sl (.pair (.int .i64) (.sl (.int .u8)))))))))), (.p (.s 33) (.p (.s 4) (.p .d (.p .d (.p .d (.p .d (.s 182))))))), [], [(false, (.int .i64))], m137⟩ := afunIO_sound' (envOf_sound (CSs.nil) (HDs.nil) (IDs.cons i137_141_sound (IDs.nil))) rfl Try.follows (f := 137) (fn := Try.f137) Try.func137 (by kernel_rfl) (by kernel_rfl) r137_eq
end Go.Proofs.Ytjleeabhpfmhaaa
end

section
open Go Go.Proofs.AM
namespace Go.Proofs.Ytjleeabhpfmhaaa

noncomputable def m138 (x : TyD × Int × (List Int) × Unit) : Option (TyD × (Int × Unit)) :=
 bif (decide ((((List.length x.1.1) : Nat) : Int) = (0 : Int))) then
 (some (x.1, ((2 : Int), ())))
 else
 (bif x.1.2.2.1 then
 (some (x.1, ((8 : Int), ())))
 else
 (bif (decide (x.2.1 ≥ (0 : Int))) then
 (bif (!(decide (x.2.1 < (((List.length x.1.1) : Nat) : Int)))) then
 (some (x.1, ((1 : Int), ())))
 else
 (bif (!(decide ((((List.length x.2.2.1) : Nat) : Int) = (256 : Int)))) then
 (some (x.1, ((1 : Int), ())))
 else
 (bif x.1.2.2.2.1 then
 (bif (decide (x.1.2.2.2.2.1 = (0 : Int))) then
 (some ((x.1.1, (x.1.2.1, (true, x.1.2.2.2))), ((8 : Int), ())))
 else
 (Option.bind (m52 (x.2.2.1, ())) fun (y1 : ((List Int) × Unit)) =>
 gd ((0 : Int) ≤ x.2.1) (gd (x.2.1 < (((List.length x.1.1) : Nat) : Int)) (gd ((Int.toNat x.2.1) < (List.length x.1.1)) (gd ((0 : Int) ≤ x.2.1) (gd (x.2.1 < (((List.length x.1.2.1) : Nat) : Int)) (gd ((Int.toNat x.2.1) < (List.length x.1.2.1)) (Option.bind (m52 (x.2.2.1, ())) fun (y2 : ((List Int) × Unit)) =>
 gd ((((List.length x.1.2.2.2.2.2.2) + (List.length ((x.2.1, y2.1) :: ([] : List (Int × (List Int)))))) * 32) ≤ 140737488355328) (gd (((List.length x.1.2.2.2.2.2.2) + (List.length ((x.2.1, y2.1) :: ([] : List (Int × (List Int)))))) ≤ 140737488355328) (gd ((0 : Int) ≤ (if (Go.IntKind.wrap .i64 ((((List.length (x.1.2.2.2.2.2.2 ++ ((x.2.1, y2.1) :: ([] : List (Int × (List Int)))))) : Nat) : Int) - (1024 : Int))) > (0 : Int) then (Go.IntKind.wrap .i64 ((((List.length (x.1.2.2.2.2.2.2 ++ ((x.2.1, y2.1) :: ([] : List (Int × (List Int)))))) : Nat) : Int) - (1024 : Int))) else (0 : Int))) (gd ((if (Go.IntKind.wrap .i64 ((((List.length (x.1.2.2.2.2.2.2 ++ ((x.2.1, y2.1) :: ([] : List (Int × (List Int)))))) : Nat) : Int) - (1024 : Int))) > (0 : Int) then (Go.IntKind.wrap .i64 ((((List.length (x.1.2.2.2.2.2.2 ++ ((x.2.1, y2.1) :: ([] : List (Int × (List Int)))))) : Nat) : Int) - (1024 : Int))) else (0 : Int)) ≤ (((List.length (x.1.2.2.2.2.2.2 ++ ((x.2.1, y2.1) :: ([] : List (Int × (List Int)))))) : Nat) : Int)) (gd ((((List.length (x.1.2.2.2.2.2.2 ++ ((x.2.1, y2.1) :: ([] : List (Int × (List Int)))))) : Nat) : Int) ≤ (((List.length (x.1.2.2.2.2.2.2 ++ ((x.2.1, y2.1) :: ([] : List (Int × (List Int)))))) : Nat) : Int)) (some (((List.set x.1.1 (Int.toNat x.2.1) y1.1), ((List.set x.1.2.1 (Int.toNat x.2.1) false), (x.1.2.2.1, (x.1.2.2.2.1, ((Go.IntKind.wrap .i64 (x.1.2.2.2.2.1 - (1 : Int))), ((Go.IntKind.wrap .i64 (x.1.2.2.2.2.2.1 + (1 : Int))), (List.take ((Int.toNat (((List.length (x.1.2.2.2.2.2.2 ++ ((x.2.1, y2.1) :: ([] : List (Int × (List Int)))))) : Nat) : Int)) - (Int.toNat (if (Go.IntKind.wrap .i64 ((((List.length (x.1.2.2.2.2.2.2 ++ ((x.2.1, y2.1) :: ([] : List (Int × (List Int)))))) : Nat) : Int) - (1024 : Int))) > (0 : Int) then (Go.IntKind.wrap .i64 ((((List.length (x.1.2.2.2.2.2.2 ++ ((x.2.1, y2.1) :: ([] : List (Int × (List Int)))))) : Nat) : Int) - (1024 : Int))) else (0 : Int)))) (List.drop (Int.toNat (if (Go.IntKind.wrap .i64 ((((List.length (x.1.2.2.2.2.2.2 ++ ((x.2.1, y2.1) :: ([] : List (Int × (List Int)))))) : Nat) : Int) - (1024 : Int))) > (0 : Int) then (Go.IntKind.wrap .i64 ((((List.length (x.1.2.2.2.2.2.2 ++ ((x.2.1, y2.1) :: ([] : List (Int × (List Int)))))) : Nat) : Int) - (1024 : Int))) else (0 : Int))) (x.1.2.2.2.2.2.2 ++ ((x.2.1, y2.1) :: ([] : List (Int × (List Int))))))))))))), ((0 : Int), ())))))))))))))))
 else
 (Option.bind (m52 (x.2.2.1, ())) fun (y1 : ((List Int) × Unit)) =>
 gd ((0 : Int) ≤ x.2.1) (gd (x.2.1 < (((List.length x.1.1) : Nat) : Int)) (gd ((Int.toNat x.2.1) < (List.length x.1.1)) (gd ((0 : Int) ≤ x.2.1) (gd (x.2.1 < (((List.length x.1.2.1) : Nat) : Int)) (gd ((Int.toNat x.2.1) < (List.length x.1.2.1)) (Option.bind (m52 (x.2.2.1, ())) fun (y2 : ((List Int) × Unit)) =>
 gd ((((List.length x.1.2.2.2.2.2.2) + (List.length ((x.2.1, y2.1) :: ([] : List (Int × (List Int)))))) * 32) ≤ 140737488355328) (gd (((List.length x.1.2.2.2.2.2.2) + (List.length ((x.2.1, y2.1) :: ([] : List (Int × (List Int)))))) ≤ 140737488355328) (gd ((0 : Int) ≤ (if (Go.IntKind.wrap .i64 ((((List.length (x.1.2.2.2.2.2.2 ++ ((x.2.1, y2.1) :: ([] : List (Int × (List Int)))))) : Nat) : Int) - (1024 : Int))) > (0 : Int) then (Go.IntKind.wrap .i64 ((((List.length (x.1.2.2.2.2.2.2 ++ ((x.2.1, y2.1) :: ([] : List (Int × (List Int)))))) : Nat) : Int) - (1024 : Int))) else (0 : Int))) (gd ((if (Go.IntKind.wrap .i64 ((((List.length (x.1.2.2.2.2.2.2 ++ ((x.2.1, y2.1) :: ([] : List (Int × (List Int)))))) : Nat) : Int) - (1024 : Int))) > (0 : Int) then (Go.IntKind.wrap .i64 ((((List.length (x.1.2.2.2.2.2.2 ++ ((x.2.1, y2.1) :: ([] : List (Int × (List Int)))))) : Nat) : Int) - (1024 : Int))) else (0 : Int)) ≤ (((List.length (x.1.2.2.2.2.2.2 ++ ((x.2.1, y2.1) :: ([] : List (Int × (List Int)))))) : Nat) : Int)) (gd ((((List.length (x.1.2.2.2.2.2.2 ++ ((x.2.1, y2.1) :: ([] : List (Int × (List Int)))))) : Nat) : Int) ≤ (((List.length (x.1.2.2.2.2.2.2 ++ ((x.2.1, y2.1) :: ([] : List (Int × (List Int)))))) : Nat) : Int)) (some (((List.set x.1.1 (Int.toNat x.2.1) y1.1), ((List.set x.1.2.1 (Int.toNat x.2.1) false), (x.1.2.2.1, (x.1.2.2.2.1, (x.1.2.2.2.2.1, ((Go.IntKind.wrap .i64 (x.1.2.2.2.2.2.1 + (1 : Int))), (List.take ((Int.toNat (((List.length (x.1.2.2.2.2.2.2 ++ ((x.2.1, y2.1) :: ([] : List (Int × (List Int)))))) : Nat) : Int)) - (Int.toNat (if (Go.IntKind.wrap .i64 ((((List.length (x.1.2.2.2.2.2.2 ++ ((x.2.1, y2.1) :: ([] : List (Int × (List Int)))))) : Nat) : Int) - (1024 : Int))) > (0 : Int) then (Go.IntKind.wrap .i64 ((((List.length (x.1.2.2.2.2.2.2 ++ ((x.2.1, y2.1) :: ([] : List (Int × (List Int)))))) : Nat) : Int) - (1024 : Int))) else (0 : Int)))) (List.drop (Int.toNat (if (Go.IntKind.wrap .i64 ((((List.length (x.1.2.2.2.2.2.2 ++ ((x.2.1, y2.1) :: ([] : List (Int × (List Int)))))) : Nat) : Int) - (1024 : Int))) > (0 : Int) then (Go.IntKind.wrap .i64 ((((List.length (x.1.2.2.2.2.2.2 ++ ((x.2.1, y2.1) :: ([] : List (Int × (List Int)))))) : Nat) : Int) - (1024 : Int))) else (0 : Int))) (x.1.2.2.2.2.2.2 ++ ((x.2.1, y2.1) :: ([] : List (Int × (List Int))))))))))))), ((0 : Int), ())))))))))))))))))
 else
 (some (x.1, ((1 : Int), ())))))

noncomputable def i138_141 : ID := aInl Try.prog (envOf [] [] [] []) ⟨[], []⟩ Try.f141
noncomputable def i138_139 : ID := aInl Try.prog (envOf [] [] [] [(141, i138_141)]) ⟨[], []⟩ Try.f139
noncomputable def i138_140 : ID := aInl Try.prog (envOf [] [] [] []) ⟨[], []⟩ Try.f140
noncomputable def r138 : PDen ((true, (.pair (.sl (.sl (.int .u8))) (.pair (.sl .bool) (.pair .bool (.pair .bool (.pair (.int .i64) (.pair (.int .i64) (.sl (.pair (.int .i64) (.sl (.int .u8))))))))))) :: [(false, (.int .i64)), (false, (.sl (.int .u8)))]) → Option (PDen ((true, (.pair (.sl (.sl (.int .u8))) (.pair (.sl .bool) (.pair .bool (.pair .bool (.pair (.int .i64) (.pair (.int .i64) (.sl (.pair (.int .i64) (.sl (.int .u8))))))))))) :: [(false, (.int .i64))])) := fun x => afunIO Try.prog (envOf [(52, ⟨[(false, (.sl (.int .u8)))], [(false, (.sl (.int .u8)))], false, m52⟩)] [] [71, 87] [(139, i138_139), (140, i138_140)]) ⟨[], []⟩ Try.f138 75 (.pair (.sl (.sl (.int .u8))) (.pair (.sl .bool) (.pair .bool (.pair .bool (.pair (.int .i64) (.pair (.int .i64) (.sl (.pair (.int .i64) (.sl (.int .u8)))))))))) (.p (.s 33) (.p (.s 4) (.p .d (.p .d (.p .d (.p .d (.s 182))))))) [(false, (.int .i64)), (false, (.sl (.int .u8)))] [(false, (.int .i64))] x
theorem r138_eq : r138 = m138 := by kernel_rfl

theorem i138_141_sound : i138_141.Sound Try.prog 141 := aInl_sound' (envOf_sound (CSs.nil) (HDs.nil) (IDs.nil)) Try.follows (f := 141) (fn := Try.f141) Try.func141 (by kernel_rfl) (by kernel_rfl)
theorem i138_139_sound : i138_139.Sound Try.prog 139 := aInl_sound' (envOf_sound (CSs.nil) (HDs.nil) (IDs.cons i138_141_sound (IDs.nil))) Try.follows (f := 139) (fn := Try.f139) Try.func139 (by kernel_rfl) (by kernel_rfl)
theorem i138_140_sound : i138_140.Sound Try.prog 140 := aInl_sound' (envOf_sound (CSs.nil) (HDs.nil) (IDs.nil)) Try.follows (f := 140) (fn := Try.f140) Try.func140 (by kernel_rfl) (by kernel_rfl)
theorem c138 : IOc.Sound Try.prog 138 ⟨75, (.pair (.sl (.sl (.int .u8))) (.pair (.sl .bool) (.pair .bool (.pair .bool (.pair (.int .i64) (.pair (.int .i64) (.sl (.pair (.int .i64) (.sl (.int .u8)))))))))), (.p (.s 33) (.p (.s 4) (.p .d (.p .d (.p .d (.p .d (.s 182))))))), [(false, (.int .i64)), (false, (.sl (.int .u8)))], [(false, (.int .i64))], m138⟩ := afunIO_sound' (envOf_sound (CSs.cons (OM.Sound.cs c52) (CSs.nil)) (HDs.nil) (IDs.cons i138_139_sound (IDs.cons i138_140_sound (IDs.nil)))) rfl Try.follows (f := 138) (fn := Try.f138) Try.func138 (by kernel_rfl) (by kernel_rfl) r138_eq
end Go.Proofs.Ytjleeabhpfmhaaa
end

section
open Go Go.Proofs.AM
namespace Go.Proofs.Ytjleeabhpfmhaaa

noncomputable def m6 (x : Unit) : Option (Bool × Unit) :=
 gd (((20 : Int) * (1 : Int)) ≤ (140737488355328 : Int)) (Option.bind (loopM (X := (Int × TyD)) (E := TyD) (fun (x1 : (Int × TyD)) =>
 bif (decide (x1.1 < (20 : Int))) then
 (gd (((256 : Int) * (1 : Int)) ≤ (140737488355328 : Int)) (gd ((((List.length x1.2.1) + (List.length ((List.replicate (Int.toNat (256 : Int)) (0 : Int)) :: ([] : List (List Int))))) * 24) ≤ 140737488355328) (gd (((List.length x1.2.1) + (List.length ((List.replicate (Int.toNat (256 : Int)) (0 : Int)) :: ([] : List (List Int))))) ≤ 140737488355328) (some (Sum.inl ((Go.IntKind.wrap .i64 (x1.1 + (1 : Int))), ((x1.2.1 ++ ((List.replicate (Int.toNat (256 : Int)) (0 : Int)) :: ([] : List (List Int)))), (x1.2.2.1, (x1.2.2.2.1, (x1.2.2.2.2.1, (x1.2.2.2.2.2.1, (x1.2.2.2.2.2.2.1, x1.2.2.2.2.2.2.2))))))))))))
 else
 (some (Sum.inr (x1.2.1, (x1.2.2.1, (x1.2.2.2.1, (x1.2.2.2.2.1, (x1.2.2.2.2.2.1, (x1.2.2.2.2.2.2.1, x1.2.2.2.2.2.2.2))))))))) ((0 : Int), (([] : List (List Int)), ((List.replicate (Int.toNat (20 : Int)) false), (false, (false, ((0 : Int), ((0 : Int), ([] : List (Int × (List Int))))))))))) fun (y1 : TyD) =>
 Option.bind (m10 ((16 : Int), ((15 : Int), ((1 : Int), ())))) fun (y2 : (Int × Unit)) =>
 bif (!(decide (y2.1 = (1 : Int)))) then
 (some (false, ()))
 else
 (Option.bind (m137 (y1, ())) fun (y3 : (TyD × (Int × Unit))) =>
 bif (decide ((2 : Int) > (Go.IntKind.wrap .i64 (y3.2.1 - (16 : Int))))) then
 (Option.bind (m137 (y3.1, ())) fun (y4 : (TyD × (Int × Unit))) =>
 bif (decide ((2 : Int) > (Go.IntKind.wrap .i64 (y4.2.1 - (16 : Int))))) then
 (some (false, ()))
 else
 (Option.bind (loopM (X := ((List (List Int)) × (Int × TyD))) (E := (((List (List Int)) × TyD) ⊕ ((List (List Int)) × (Int × TyD)))) (fun (x5 : ((List (List Int)) × (Int × TyD))) =>
 bif (decide (x5.2.1 < (16 : Int))) then
 (Option.bind (m135 (x5.2.2, ((Go.IntKind.wrap .i64 ((2 : Int) + x5.2.1)), ()))) fun (y6 : (TyD × ((List Int) × (Int × Unit)))) =>
 bif (!(decide (y6.2.2.1 = (0 : Int)))) then
 (some (Sum.inr (Sum.inr (([] : List (List Int)), (y6.2.2.1, (y6.1.1, (y6.1.2.1, (y6.1.2.2.1, (y6.1.2.2.2.1, (y6.1.2.2.2.2.1, (y6.1.2.2.2.2.2.1, y6.1.2.2.2.2.2.2)))))))))))
 else
 (gd ((((List.length x5.1) + (List.length (y6.2.1 :: ([] : List (List Int))))) * 24) ≤ 140737488355328) (gd (((List.length x5.1) + (List.length (y6.2.1 :: ([] : List (List Int))))) ≤ 140737488355328) (some (Sum.inl ((x5.1 ++ (y6.2.1 :: ([] : List (List Int)))), ((Go.IntKind.wrap .i64 (x5.2.1 + (1 : Int))), (y6.1.1, (y6.1.2.1, (y6.1.2.2.1, (y6.1.2.2.2.1, (y6.1.2.2.2.2.1, (y6.1.2.2.2.2.2.1, y6.1.2.2.2.2.2.2)))))))))))))
 else
 (some (Sum.inr (Sum.inl (x5.1, (x5.2.2.1, (x5.2.2.2.1, (x5.2.2.2.2.1, (x5.2.2.2.2.2.1, (x5.2.2.2.2.2.2.1, (x5.2.2.2.2.2.2.2.1, x5.2.2.2.2.2.2.2.2))))))))))) (([] : List (List Int)), ((0 : Int), (y4.1.1, (y4.1.2.1, (y4.1.2.2.1, (y4.1.2.2.2.1, (y4.1.2.2.2.2.1, (y4.1.2.2.2.2.2.1, y4.1.2.2.2.2.2.2))))))))) fun (y5 : (((List (List Int)) × TyD) ⊕ ((List (List Int)) × (Int × TyD)))) =>
 Sum.elim (fun y6 =>
 some (false, ())) (fun y6 =>
 some (false, ())) y5))
 else
 (Option.bind (m36 (((0 : Int), (1 : Int)), ())) fun (y4 : ((List Int) × (Int × Unit))) =>
 bif (!(decide (y4.2.1 = (0 : Int)))) then
 (Option.bind (m137 (y3.1, ())) fun (y5 : (TyD × (Int × Unit))) =>
 bif (decide ((2 : Int) > (Go.IntKind.wrap .i64 (y5.2.1 - (16 : Int))))) then
 (bif (!(decide (y4.2.1 = (0 : Int)))) then
 (some (false, ()))
 else
 (some (false, ())))
 else
 (Option.bind (loopM (X := ((List (List Int)) × (Int × TyD))) (E := (((List (List Int)) × TyD) ⊕ ((List (List Int)) × (Int × TyD)))) (fun (x6 : ((List (List Int)) × (Int × TyD))) =>
 bif (decide (x6.2.1 < (16 : Int))) then
 (Option.bind (m135 (x6.2.2, ((Go.IntKind.wrap .i64 ((2 : Int) + x6.2.1)), ()))) fun (y7 : (TyD × ((List Int) × (Int × Unit)))) =>
 bif (!(decide (y7.2.2.1 = (0 : Int)))) then
 (some (Sum.inr (Sum.inr (([] : List (List Int)), (y7.2.2.1, (y7.1.1, (y7.1.2.1, (y7.1.2.2.1, (y7.1.2.2.2.1, (y7.1.2.2.2.2.1, (y7.1.2.2.2.2.2.1, y7.1.2.2.2.2.2.2)))))))))))
 else
 (gd ((((List.length x6.1) + (List.length (y7.2.1 :: ([] : List (List Int))))) * 24) ≤ 140737488355328) (gd (((List.length x6.1) + (List.length (y7.2.1 :: ([] : List (List Int))))) ≤ 140737488355328) (some (Sum.inl ((x6.1 ++ (y7.2.1 :: ([] : List (List Int)))), ((Go.IntKind.wrap .i64 (x6.2.1 + (1 : Int))), (y7.1.1, (y7.1.2.1, (y7.1.2.2.1, (y7.1.2.2.2.1, (y7.1.2.2.2.2.1, (y7.1.2.2.2.2.2.1, y7.1.2.2.2.2.2.2)))))))))))))
 else
 (some (Sum.inr (Sum.inl (x6.1, (x6.2.2.1, (x6.2.2.2.1, (x6.2.2.2.2.1, (x6.2.2.2.2.2.1, (x6.2.2.2.2.2.2.1, (x6.2.2.2.2.2.2.2.1, x6.2.2.2.2.2.2.2.2))))))))))) (([] : List (List Int)), ((0 : Int), (y5.1.1, (y5.1.2.1, (y5.1.2.2.1, (y5.1.2.2.2.1, (y5.1.2.2.2.2.1, (y5.1.2.2.2.2.2.1, y5.1.2.2.2.2.2.2))))))))) fun (y6 : (((List (List Int)) × TyD) ⊕ ((List (List Int)) × (Int × TyD)))) =>
 Sum.elim (fun y7 =>
 bif (!(decide (y4.2.1 = (0 : Int)))) then
 (some (false, ()))
 else
 (bif (!(decide ((((List.length y7.1) : Nat) : Int) = (16 : Int)))) then
 (some (false, ()))
 else
 (Option.bind (m7 (y7.1, ())) fun (y8 : (((List TyT) × (Int × Int)) × (Int × Unit))) =>
 bif (decide (y8.2.1 = (0 : Int))) then
 (bif (decide (y8.1.2.1 = (1 : Int))) then
 (bif (decide (y8.1.2.2 = (1 : Int))) then
 (some ((decide ((((List.length y8.1.1) : Nat) : Int) = (0 : Int))), ()))
 else
 (some (false, ())))
 else
 (some (false, ())))
 else
 (some (false, ()))))) (fun y7 =>
 bif (!(decide (y4.2.1 = (0 : Int)))) then
 (some (false, ()))
 else
 (bif (!(decide (y7.2.1 = (0 : Int)))) then
 (some (false, ()))
 else
 (bif (!(decide ((((List.length y7.1) : Nat) : Int) = (16 : Int)))) then
 (some (false, ()))
 else
 (Option.bind (m7 (y7.1, ())) fun (y8 : (((List TyT) × (Int × Int)) × (Int × Unit))) =>
 bif (decide (y8.2.1 = (0 : Int))) then
 (bif (decide (y8.1.2.1 = (1 : Int))) then
 (bif (decide (y8.1.2.2 = (1 : Int))) then
 (some ((decide ((((List.length y8.1.1) : Nat) : Int) = (0 : Int))), ()))
 else
 (some (false, ())))
 else
 (some (false, ())))
 else
 (some (false, ())))))) y6))
 else
 (Option.bind (m138 (y3.1, ((2 : Int), (y4.1, ())))) fun (y5 : (TyD × (Int × Unit))) =>
 bif (!(decide (y5.2.1 = (0 : Int)))) then
 (Option.bind (m137 (y5.1, ())) fun (y6 : (TyD × (Int × Unit))) =>
 bif (decide ((2 : Int) > (Go.IntKind.wrap .i64 (y6.2.1 - (16 : Int))))) then
 (bif (!(decide (y5.2.1 = (0 : Int)))) then
 (some (false, ()))
 else
 (some (false, ())))
 else
 (Option.bind (loopM (X := ((List (List Int)) × (Int × TyD))) (E := (((List (List Int)) × TyD) ⊕ ((List (List Int)) × (Int × TyD)))) (fun (x7 : ((List (List Int)) × (Int × TyD))) =>
 bif (decide (x7.2.1 < (16 : Int))) then
 (Option.bind (m135 (x7.2.2, ((Go.IntKind.wrap .i64 ((2 : Int) + x7.2.1)), ()))) fun (y8 : (TyD × ((List Int) × (Int × Unit)))) =>
 bif (!(decide (y8.2.2.1 = (0 : Int)))) then
 (some (Sum.inr (Sum.inr (([] : List (List Int)), (y8.2.2.1, (y8.1.1, (y8.1.2.1, (y8.1.2.2.1, (y8.1.2.2.2.1, (y8.1.2.2.2.2.1, (y8.1.2.2.2.2.2.1, y8.1.2.2.2.2.2.2)))))))))))
 else
 (gd ((((List.length x7.1) + (List.length (y8.2.1 :: ([] : List (List Int))))) * 24) ≤ 140737488355328) (gd (((List.length x7.1) + (List.length (y8.2.1 :: ([] : List (List Int))))) ≤ 140737488355328) (some (Sum.inl ((x7.1 ++ (y8.2.1 :: ([] : List (List Int)))), ((Go.IntKind.wrap .i64 (x7.2.1 + (1 : Int))), (y8.1.1, (y8.1.2.1, (y8.1.2.2.1, (y8.1.2.2.2.1, (y8.1.2.2.2.2.1, (y8.1.2.2.2.2.2.1, y8.1.2.2.2.2.2.2)))))))))))))
 else
 (some (Sum.inr (Sum.inl (x7.1, (x7.2.2.1, (x7.2.2.2.1, (x7.2.2.2.2.1, (x7.2.2.2.2.2.1, (x7.2.2.2.2.2.2.1, (x7.2.2.2.2.2.2.2.1, x7.2.2.2.2.2.2.2.2))))))))))) (([] : List (List Int)), ((0 : Int), (y6.1.1, (y6.1.2.1, (y6.1.2.2.1, (y6.1.2.2.2.1, (y6.1.2.2.2.2.1, (y6.1.2.2.2.2.2.1, y6.1.2.2.2.2.2.2))))))))) fun (y7 : (((List (List Int)) × TyD) ⊕ ((List (List Int)) × (Int × TyD)))) =>
 Sum.elim (fun y8 =>
 bif (!(decide (y5.2.1 = (0 : Int)))) then
 (some (false, ()))
 else
 (bif (!(decide ((((List.length y8.1) : Nat) : Int) = (16 : Int)))) then
 (some (false, ()))
 else
 (Option.bind (m7 (y8.1, ())) fun (y9 : (((List TyT) × (Int × Int)) × (Int × Unit))) =>
 bif (decide (y9.2.1 = (0 : Int))) then
 (bif (decide (y9.1.2.1 = (1 : Int))) then
 (bif (decide (y9.1.2.2 = (1 : Int))) then
 (some ((decide ((((List.length y9.1.1) : Nat) : Int) = (0 : Int))), ()))
 else
 (some (false, ())))
 else
 (some (false, ())))
 else
 (some (false, ()))))) (fun y8 =>
 bif (!(decide (y5.2.1 = (0 : Int)))) then
 (some (false, ()))
 else
 (bif (!(decide (y8.2.1 = (0 : Int)))) then
 (some (false, ()))
 else
 (bif (!(decide ((((List.length y8.1) : Nat) : Int) = (16 : Int)))) then
 (some (false, ()))
 else
 (Option.bind (m7 (y8.1, ())) fun (y9 : (((List TyT) × (Int × Int)) × (Int × Unit))) =>
 bif (decide (y9.2.1 = (0 : Int))) then
 (bif (decide (y9.1.2.1 = (1 : Int))) then
 (bif (decide (y9.1.2.2 = (1 : Int))) then
 (some ((decide ((((List.length y9.1.1) : Nat) : Int) = (0 : Int))), ()))
 else
 (some (false, ())))
 else
 (some (false, ())))
 else
 (some (false, ())))))) y7))
 else
 (Option.bind (m134 (y5.1, ())) fun (y6 : (TyD × (Int × Unit))) =>
 Option.bind (m137 (y6.1, ())) fun (y7 : (TyD × (Int × Unit))) =>
 bif (decide ((2 : Int) > (Go.IntKind.wrap .i64 (y7.2.1 - (16 : Int))))) then
 (bif (!(decide (y6.2.1 = (0 : Int)))) then
 (some (false, ()))
 else
 (some (false, ())))
 else
 (Option.bind (loopM (X := ((List (List Int)) × (Int × TyD))) (E := (((List (List Int)) × TyD) ⊕ ((List (List Int)) × (Int × TyD)))) (fun (x8 : ((List (List Int)) × (Int × TyD))) =>
 bif (decide (x8.2.1 < (16 : Int))) then
 (Option.bind (m135 (x8.2.2, ((Go.IntKind.wrap .i64 ((2 : Int) + x8.2.1)), ()))) fun (y9 : (TyD × ((List Int) × (Int × Unit)))) =>
 bif (!(decide (y9.2.2.1 = (0 : Int)))) then
 (some (Sum.inr (Sum.inr (([] : List (List Int)), (y9.2.2.1, (y9.1.1, (y9.1.2.1, (y9.1.2.2.1, (y9.1.2.2.2.1, (y9.1.2.2.2.2.1, (y9.1.2.2.2.2.2.1, y9.1.2.2.2.2.2.2)))))))))))
 else
 (gd ((((List.length x8.1) + (List.length (y9.2.1 :: ([] : List (List Int))))) * 24) ≤ 140737488355328) (gd (((List.length x8.1) + (List.length (y9.2.1 :: ([] : List (List Int))))) ≤ 140737488355328) (some (Sum.inl ((x8.1 ++ (y9.2.1 :: ([] : List (List Int)))), ((Go.IntKind.wrap .i64 (x8.2.1 + (1 : Int))), (y9.1.1, (y9.1.2.1, (y9.1.2.2.1, (y9.1.2.2.2.1, (y9.1.2.2.2.2.1, (y9.1.2.2.2.2.2.1, y9.1.2.2.2.2.2.2)))))))))))))
 else
 (some (Sum.inr (Sum.inl (x8.1, (x8.2.2.1, (x8.2.2.2.1, (x8.2.2.2.2.1, (x8.2.2.2.2.2.1, (x8.2.2.2.2.2.2.1, (x8.2.2.2.2.2.2.2.1, x8.2.2.2.2.2.2.2.2))))))))))) (([] : List (List Int)), ((0 : Int), (y7.1.1, (y7.1.2.1, (y7.1.2.2.1, (y7.1.2.2.2.1, (y7.1.2.2.2.2.1, (y7.1.2.2.2.2.2.1, y7.1.2.2.2.2.2.2))))))))) fun (y8 : (((List (List Int)) × TyD) ⊕ ((List (List Int)) × (Int × TyD)))) =>
 Sum.elim (fun y9 =>
 bif (!(decide (y6.2.1 = (0 : Int)))) then
 (some (false, ()))
 else
 (bif (!(decide ((((List.length y9.1) : Nat) : Int) = (16 : Int)))) then
 (some (false, ()))
 else
 (Option.bind (m7 (y9.1, ())) fun (y10 : (((List TyT) × (Int × Int)) × (Int × Unit))) =>
 bif (decide (y10.2.1 = (0 : Int))) then
 (bif (decide (y10.1.2.1 = (1 : Int))) then
 (bif (decide (y10.1.2.2 = (1 : Int))) then
 (some ((decide ((((List.length y10.1.1) : Nat) : Int) = (0 : Int))), ()))
 else
 (some (false, ())))
 else
 (some (false, ())))
 else
 (some (false, ()))))) (fun y9 =>
 bif (!(decide (y6.2.1 = (0 : Int)))) then
 (some (false, ()))
 else
 (bif (!(decide (y9.2.1 = (0 : Int)))) then
 (some (false, ()))
 else
 (bif (!(decide ((((List.length y9.1) : Nat) : Int) = (16 : Int)))) then
 (some (false, ()))
 else
 (Option.bind (m7 (y9.1, ())) fun (y10 : (((List TyT) × (Int × Int)) × (Int × Unit))) =>
 bif (decide (y10.2.1 = (0 : Int))) then
 (bif (decide (y10.1.2.1 = (1 : Int))) then
 (bif (decide (y10.1.2.2 = (1 : Int))) then
 (some ((decide ((((List.length y10.1.1) : Nat) : Int) = (0 : Int))), ()))
 else
 (some (false, ())))
 else
 (some (false, ())))
 else
 (some (false, ())))))) y8))))))

noncomputable def i6_19 : ID := aInl Try.prog (envOf [] [] [23, 24] []) ⟨[(3000, ⟨[.slot 16 (.d false (.int .i64) true), .cell 1 0 (.v 33 (.sl (.int .u8)) false), .cell 1 1 (.v 4 .bool false), .cell 1 2 (.d false .bool true), .cell 1 3 (.d false .bool true), .cell 1 4 (.d false (.int .i64) true), .cell 1 5 (.d false (.int .i64) true), .cell 1 6 (.v 182 (.pair (.int .i64) (.sl (.int .u8))) false)], [0], [(some 0, [.cell 1 0 (.v 33 (.sl (.int .u8)) false), .cell 1 1 (.v 4 .bool false), .cell 1 2 (.d false .bool true), .cell 1 3 (.d false .bool true), .cell 1 4 (.d false (.int .i64) true), .cell 1 5 (.d false (.int .i64) true), .cell 1 6 (.v 182 (.pair (.int .i64) (.sl (.int .u8))) false)])], none⟩)], []⟩ Try.f19
noncomputable def i6_22 : ID := aInl Try.prog (envOf [] [] [] []) ⟨[], []⟩ Try.f22
noncomputable def i6_33 : ID := aInl Try.prog (envOf [] [(137, IOc.hd ⟨75, (.pair (.sl (.sl (.int .u8))) (.pair (.sl .bool) (.pair .bool (.pair .bool (.pair (.int .i64) (.pair (.int .i64) (.sl (.pair (.int .i64) (.sl (.int .u8)))))))))), (.p (.s 33) (.p (.s 4) (.p .d (.p .d (.p .d (.p .d (.s 182))))))), [], [(false, (.int .i64))], m137⟩)] [] [(22, i6_22)]) ⟨[], []⟩ Try.f33
noncomputable def i6_34 : ID := aInl Try.prog (envOf [(36, ⟨[(true, (.pair (.int .i64) (.int .i64)))], [(false, (.sl (.int .u8))), (false, (.int .i64))], false, m36⟩)] [(134, IOc.hd ⟨75, (.pair (.sl (.sl (.int .u8))) (.pair (.sl .bool) (.pair .bool (.pair .bool (.pair (.int .i64) (.pair (.int .i64) (.sl (.pair (.int .i64) (.sl (.int .u8)))))))))), (.p (.s 33) (.p (.s 4) (.p .d (.p .d (.p .d (.p .d (.s 182))))))), [], [(false, (.int .i64))], m134⟩), (138, IOc.hd ⟨75, (.pair (.sl (.sl (.int .u8))) (.pair (.sl .bool) (.pair .bool (.pair .bool (.pair (.int .i64) (.pair (.int .i64) (.sl (.pair (.int .i64) (.sl (.int .u8)))))))))), (.p (.s 33) (.p (.s 4) (.p .d (.p .d (.p .d (.p .d (.s 182))))))), [(false, (.int .i64)), (false, (.sl (.int .u8)))], [(false, (.int .i64))], m138⟩)] [] []) ⟨[], []⟩ Try.f34
noncomputable def i6_20 : ID := aInl Try.prog (envOf [] [] [] [(33, i6_33), (34, i6_34)]) ⟨[], []⟩ Try.f20
noncomputable def i6_21 : ID := aInl Try.prog (envOf [] [(135, IOc.hd ⟨75, (.pair (.sl (.sl (.int .u8))) (.pair (.sl .bool) (.pair .bool (.pair .bool (.pair (.int .i64) (.pair (.int .i64) (.sl (.pair (.int .i64) (.sl (.int .u8)))))))))), (.p (.s 33) (.p (.s 4) (.p .d (.p .d (.p .d (.p .d (.s 182))))))), [(false, (.int .i64))], [(false, (.sl (.int .u8))), (false, (.int .i64))], m135⟩)] [] [(33, i6_33)]) ⟨[(1000, ⟨[.slot 9 (.v 33 (.sl (.int .u8)) false), .slot 21 (.d false (.int .i64) true)], [], [(some 0, [.slot 9 (.v 33 (.sl (.int .u8)) false)])], none⟩), (6000, ⟨[.slot 9 (.v 33 (.sl (.int .u8)) false), .slot 21 (.d false (.int .i64) true), .cell 1 0 (.v 33 (.sl (.int .u8)) false), .cell 1 1 (.v 4 .bool false), .cell 1 2 (.d false .bool true), .cell 1 3 (.d false .bool true), .cell 1 4 (.d false (.int .i64) true), .cell 1 5 (.d false (.int .i64) true), .cell 1 6 (.v 182 (.pair (.int .i64) (.sl (.int .u8))) false)], [2, 3, 4], [(some 0, [.slot 9 (.v 33 (.sl (.int .u8)) false), .cell 1 0 (.v 33 (.sl (.int .u8)) false), .cell 1 1 (.v 4 .bool false), .cell 1 2 (.d false .bool true), .cell 1 3 (.d false .bool true), .cell 1 4 (.d false (.int .i64) true), .cell 1 5 (.d false (.int .i64) true), .cell 1 6 (.v 182 (.pair (.int .i64) (.sl (.int .u8))) false)]), (none, [.slot 6 (.d false (.sl (.sl (.int .u8))) true), .slot 7 (.d false (.int .i64) true), .cell 1 0 (.v 33 (.sl (.int .u8)) false), .cell 1 1 (.v 4 .bool false), .cell 1 2 (.d false .bool true), .cell 1 3 (.d false .bool true), .cell 1 4 (.d false (.int .i64) true), .cell 1 5 (.d false (.int .i64) true), .cell 1 6 (.v 182 (.pair (.int .i64) (.sl (.int .u8))) false)])], none⟩), (9000, ⟨[.slot 9 (.v 33 (.sl (.int .u8)) false), .slot 21 (.d false (.int .i64) true), .cell 1 0 (.v 33 (.sl (.int .u8)) false), .cell 1 1 (.v 4 .bool false), .cell 1 2 (.d false .bool true), .cell 1 3 (.d false .bool true), .cell 1 4 (.d false (.int .i64) true), .cell 1 5 (.d false (.int .i64) true), .cell 1 6 (.v 182 (.pair (.int .i64) (.sl (.int .u8))) false)], [5, 6, 7], [(some 0, [.slot 9 (.v 33 (.sl (.int .u8)) false), .cell 1 0 (.v 33 (.sl (.int .u8)) false), .cell 1 1 (.v 4 .bool false), .cell 1 2 (.d false .bool true), .cell 1 3 (.d false .bool true), .cell 1 4 (.d false (.int .i64) true), .cell 1 5 (.d false (.int .i64) true), .cell 1 6 (.v 182 (.pair (.int .i64) (.sl (.int .u8))) false)]), (none, [.slot 6 (.d false (.sl (.sl (.int .u8))) true), .slot 7 (.d false (.int .i64) true), .cell 1 0 (.v 33 (.sl (.int .u8)) false), .cell 1 1 (.v 4 .bool false), .cell 1 2 (.d false .bool true), .cell 1 3 (.d false .bool true), .cell 1 4 (.d false (.int .i64) true), .cell 1 5 (.d false (.int .i64) true), .cell 1 6 (.v 182 (.pair (.int .i64) (.sl (.int .u8))) false)])], none⟩), (12000, ⟨[.slot 9 (.v 33 (.sl (.int .u8)) false), .slot 21 (.d false (.int .i64) true), .cell 1 0 (.v 33 (.sl (.int .u8)) false), .cell 1 1 (.v 4 .bool false), .cell 1 2 (.d false .bool true), .cell 1 3 (.d false .bool true), .cell 1 4 (.d false (.int .i64) true), .cell 1 5 (.d false (.int .i64) true), .cell 1 6 (.v 182 (.pair (.int .i64) (.sl (.int .u8))) false)], [8, 9, 10], [(some 0, [.slot 9 (.v 33 (.sl (.int .u8)) false), .cell 1 0 (.v 33 (.sl (.int .u8)) false), .cell 1 1 (.v 4 .bool false), .cell 1 2 (.d false .bool true), .cell 1 3 (.d false .bool true), .cell 1 4 (.d false (.int .i64) true), .cell 1 5 (.d false (.int .i64) true), .cell 1 6 (.v 182 (.pair (.int .i64) (.sl (.int .u8))) false)]), (none, [.slot 6 (.d false (.sl (.sl (.int .u8))) true), .slot 7 (.d false (.int .i64) true), .cell 1 0 (.v 33 (.sl (.int .u8)) false), .cell 1 1 (.v 4 .bool false), .cell 1 2 (.d false .bool true), .cell 1 3 (.d false .bool true), .cell 1 4 (.d false (.int .i64) true), .cell 1 5 (.d false (.int .i64) true), .cell 1 6 (.v 182 (.pair (.int .i64) (.sl (.int .u8))) false)])], none⟩), (15000, ⟨[.slot 9 (.v 33 (.sl (.int .u8)) false), .slot 21 (.d false (.int .i64) true), .cell 1 0 (.v 33 (.sl (.int .u8)) false), .cell 1 1 (.v 4 .bool false), .cell 1 2 (.d false .bool true), .cell 1 3 (.d false .bool true), .cell 1 4 (.d false (.int .i64) true), .cell 1 5 (.d false (.int .i64) true), .cell 1 6 (.v 182 (.pair (.int .i64) (.sl (.int .u8))) false)], [11, 12, 13], [(some 0, [.slot 9 (.v 33 (.sl (.int .u8)) false), .cell 1 0 (.v 33 (.sl (.int .u8)) false), .cell 1 1 (.v 4 .bool false), .cell 1 2 (.d false .bool true), .cell 1 3 (.d false .bool true), .cell 1 4 (.d false (.int .i64) true), .cell 1 5 (.d false (.int .i64) true), .cell 1 6 (.v 182 (.pair (.int .i64) (.sl (.int .u8))) false)]), (none, [.slot 6 (.d false (.sl (.sl (.int .u8))) true), .slot 7 (.d false (.int .i64) true), .cell 1 0 (.v 33 (.sl (.int .u8)) false), .cell 1 1 (.v 4 .bool false), .cell 1 2 (.d false .bool true), .cell 1 3 (.d false .bool true), .cell 1 4 (.d false (.int .i64) true), .cell 1 5 (.d false (.int .i64) true), .cell 1 6 (.v 182 (.pair (.int .i64) (.sl (.int .u8))) false)])], none⟩), (18000, ⟨[.slot 9 (.v 33 (.sl (.int .u8)) false), .slot 21 (.d false (.int .i64) true), .cell 1 0 (.v 33 (.sl (.int .u8)) false), .cell 1 1 (.v 4 .bool false), .cell 1 2 (.d false .bool true), .cell 1 3 (.d false .bool true), .cell 1 4 (.d false (.int .i64) true), .cell 1 5 (.d false (.int .i64) true), .cell 1 6 (.v 182 (.pair (.int .i64) (.sl (.int .u8))) false)], [14, 15, 16], [(some 0, [.slot 9 (.v 33 (.sl (.int .u8)) false), .cell 1 0 (.v 33 (.sl (.int .u8)) false), .cell 1 1 (.v 4 .bool false), .cell 1 2 (.d false .bool true), .cell 1 3 (.d false .bool true), .cell 1 4 (.d false (.int .i64) true), .cell 1 5 (.d false (.int .i64) true), .cell 1 6 (.v 182 (.pair (.int .i64) (.sl (.int .u8))) false)]), (none, [.slot 6 (.d false (.sl (.sl (.int .u8))) true), .slot 7 (.d false (.int .i64) true), .cell 1 0 (.v 33 (.sl (.int .u8)) false), .cell 1 1 (.v 4 .bool false), .cell 1 2 (.d false .bool true), .cell 1 3 (.d false .bool true), .cell 1 4 (.d false (.int .i64) true), .cell 1 5 (.d false (.int .i64) true), .cell 1 6 (.v 182 (.pair (.int .i64) (.sl (.int .u8))) false)])], none⟩)], []⟩ Try.f21
noncomputable def r6 : PDen [] → Option (PDen [(false, .bool)]) := fun x => afun Try.prog (envOf [(7, ⟨[(false, (.sl (.sl (.int .u8))))], [(true, (.pair (.sl (.pair (.int .i64) (.pair (.sl (.pair (.int .i64) (.sl (.int .u8)))) (.sl (.int .i64))))) (.pair (.int .i64) (.int .i64)))), (false, (.int .i64))], false, m7⟩), (10, ⟨[(false, (.int .i64)), (false, (.int .i64)), (false, (.int .i64))], [(false, (.int .i64))], false, m10⟩)] [] [] [(19, i6_19), (20, i6_20), (21, i6_21)]) ⟨[], []⟩ Try.f6 [] [(false, .bool)] false x
theorem r6_eq : r6 = m6 := by kernel_rfl

theorem i6_19_sound : i6_19.Sound Try.prog 19 := aInl_sound' (envOf_sound (CSs.nil) (HDs.nil) (IDs.nil)) Try.follows (f := 19) (fn := Try.f19) Try.func19 (by kernel_rfl) (by kernel_rfl)
theorem i6_22_sound : i6_22.Sound Try.prog 22 := aInl_sound' (envOf_sound (CSs.nil) (HDs.nil) (IDs.nil)) Try.follows (f := 22) (fn := Try.f22) Try.func22 (by kernel_rfl) (by kernel_rfl)
theorem i6_33_sound : i6_33.Sound Try.prog 33 := aInl_sound' (envOf_sound (CSs.nil) (HDs.cons (IOc.Sound.hd c137) (HDs.nil)) (IDs.cons i6_22_sound (IDs.nil))) Try.follows (f := 33) (fn := Try.f33) Try.func33 (by kernel_rfl) (by kernel_rfl)
theorem i6_34_sound : i6_34.Sound Try.prog 34 := aInl_sound' (envOf_sound (CSs.cons c36 (CSs.nil)) (HDs.cons (IOc.Sound.hd c134) (HDs.cons (IOc.Sound.hd c138) (HDs.nil))) (IDs.nil)) Try.follows (f := 34) (fn := Try.f34) Try.func34 (by kernel_rfl) (by kernel_rfl)
theorem i6_20_sound : i6_20.Sound Try.prog 20 := aInl_sound' (envOf_sound (CSs.nil) (HDs.nil) (IDs.cons i6_33_sound (IDs.cons i6_34_sound (IDs.nil)))) Try.follows (f := 20) (fn := Try.f20) Try.func20 (by kernel_rfl) (by kernel_rfl)
theorem i6_21_sound : i6_21.Sound Try.prog 21 := aInl_sound' (envOf_sound (CSs.nil) (HDs.cons (IOc.Sound.hd c135) (HDs.nil)) (IDs.cons i6_33_sound (IDs.nil))) Try.follows (f := 21) (fn := Try.f21) Try.func21 (by kernel_rfl) (by kernel_rfl)
theorem c6 : CS.Sound Try.prog 6 ⟨[], [(false, .bool)], false, m6⟩ := afun_sound' (envOf_sound (CSs.cons c7 (CSs.cons c10 (CSs.nil))) (HDs.nil) (IDs.cons i6_19_sound (IDs.cons i6_20_sound (IDs.cons i6_21_sound (IDs.nil))))) rfl Try.follows (f := 6) (fn := Try.f6) Try.func6 (by kernel_rfl) (by kernel_rfl) r6_eq
end Go.Proofs.Ytjleeabhpfmhaaa
end

section
open Go Go.Proofs.AM
namespace Go.Proofs.Ytjleeabhpfmhaaa

noncomputable def m15 (x : (List TyT) × Unit) : Option (Bool × Unit) :=
 gd ((0 : Int) ≤ (if (12 : Int) < (((List.length x.1) : Nat) : Int) then (12 : Int) else (((List.length x.1) : Nat) : Int))) (gd ((if (12 : Int) < (((List.length x.1) : Nat) : Int) then (12 : Int) else (((List.length x.1) : Nat) : Int)) ≤ (((List.length x.1) : Nat) : Int)) (Option.bind (loopM (X := (Int × Int)) (E := Int) (fun (x1 : (Int × Int)) =>
 bif (decide (x1.2 < (((List.length (List.take ((Int.toNat (if (12 : Int) < (((List.length x.1) : Nat) : Int) then (12 : Int) else (((List.length x.1) : Nat) : Int))) - (Int.toNat (0 : Int))) (List.drop (Int.toNat (0 : Int)) x.1))) : Nat) : Int))) then
 (gd ((0 : Int) ≤ x1.2) (gd (x1.2 < (((List.length (List.take ((Int.toNat (if (12 : Int) < (((List.length x.1) : Nat) : Int) then (12 : Int) else (((List.length x.1) : Nat) : Int))) - (Int.toNat (0 : Int))) (List.drop (Int.toNat (0 : Int)) x.1))) : Nat) : Int)) (some (Sum.inl ((Go.IntKind.wrap .i64 (x1.1 + (Go.IntKind.wrap .i64 ((if (100 : Int) < (((List.length (List.getD (List.take ((Int.toNat (if (12 : Int) < (((List.length x.1) : Nat) : Int) then (12 : Int) else (((List.length x.1) : Nat) : Int))) - (Int.toNat (0 : Int))) (List.drop (Int.toNat (0 : Int)) x.1)) (Int.toNat x1.2) ((0 : Int), (([] : List (Int × (List Int))), ([] : List Int)))).2.1) : Nat) : Int) then (100 : Int) else (((List.length (List.getD (List.take ((Int.toNat (if (12 : Int) < (((List.length x.1) : Nat) : Int) then (12 : Int) else (((List.length x.1) : Nat) : Int))) - (Int.toNat (0 : Int))) (List.drop (Int.toNat (0 : Int)) x.1)) (Int.toNat x1.2) ((0 : Int), (([] : List (Int × (List Int))), ([] : List Int)))).2.1) : Nat) : Int)) + (if (300 : Int) < (((List.length (List.getD (List.take ((Int.toNat (if (12 : Int) < (((List.length x.1) : Nat) : Int) then (12 : Int) else (((List.length x.1) : Nat) : Int))) - (Int.toNat (0 : Int))) (List.drop (Int.toNat (0 : Int)) x.1)) (Int.toNat x1.2) ((0 : Int), (([] : List (Int × (List Int))), ([] : List Int)))).2.2) : Nat) : Int) then (300 : Int) else (((List.length (List.getD (List.take ((Int.toNat (if (12 : Int) < (((List.length x.1) : Nat) : Int) then (12 : Int) else (((List.length x.1) : Nat) : Int))) - (Int.toNat (0 : Int))) (List.drop (Int.toNat (0 : Int)) x.1)) (Int.toNat x1.2) ((0 : Int), (([] : List (Int × (List Int))), ([] : List Int)))).2.2) : Nat) : Int)))))), (Go.IntKind.wrap .i64 (x1.2 + (1 : Int))))))))
 else
 (some (Sum.inr x1.1))) ((0 : Int), (0 : Int))) fun (y1 : Int) =>
 bif (decide ((((List.length x.1) : Nat) : Int) ≤ (12 : Int))) then
 (some ((decide (y1 ≤ (300 : Int))), ()))
 else
 (some (false, ()))))

noncomputable def r15 : PDen [(false, (.sl (.pair (.int .i64) (.pair (.sl (.pair (.int .i64) (.sl (.int .u8)))) (.sl (.int .i64))))))] → Option (PDen [(false, .bool)]) := fun x => afun Try.prog (envOf [] [] [] []) ⟨[(0, ⟨[.slot 3 (.d false (.int .i64) true), .slot 12 (.d false (.int .i64) true)], [], [(some 0, [.slot 3 (.d false (.int .i64) true)])], none⟩)], []⟩ Try.f15 [(false, (.sl (.pair (.int .i64) (.pair (.sl (.pair (.int .i64) (.sl (.int .u8)))) (.sl (.int .i64))))))] [(false, .bool)] false x
theorem r15_eq : r15 = m15 := by kernel_rfl

theorem c15 : CS.Sound Try.prog 15 ⟨[(false, (.sl (.pair (.int .i64) (.pair (.sl (.pair (.int .i64) (.sl (.int .u8)))) (.sl (.int .i64))))))], [(false, .bool)], false, m15⟩ := afun_sound' (envOf_sound (CSs.nil) (HDs.nil) (IDs.nil)) rfl Try.follows (f := 15) (fn := Try.f15) Try.func15 (by kernel_rfl) (by kernel_rfl) r15_eq
end Go.Proofs.Ytjleeabhpfmhaaa
end

section
open Go Go.Proofs.AM
namespace Go.Proofs.Ytjleeabhpfmhaaa

noncomputable def m16 (x : (List (Int × (List Int))) × (List (Int × (List Int))) × Unit) : Option (Bool × Unit) :=
 bif (!(decide ((((List.length x.1) : Nat) : Int) = (((List.length x.2.1) : Nat) : Int)))) then
 (some (false, ()))
 else
 (Option.bind (loopM (X := Int) (E := (Unit ⊕ Bool)) (fun (x1 : Int) =>
 bif (decide (x1 < (((List.length x.1) : Nat) : Int))) then
 (gd ((0 : Int) ≤ x1) (gd (x1 < (((List.length x.1) : Nat) : Int)) (gd ((0 : Int) ≤ x1) (gd (x1 < (((List.length x.2.1) : Nat) : Int)) (bif (!(decide ((List.getD x.1 (Int.toNat x1) ((0 : Int), ([] : List Int))).1 = (List.getD x.2.1 (Int.toNat x1) ((0 : Int), ([] : List Int))).1))) then
 (some (Sum.inr (Sum.inr false)))
 else
 (gd ((0 : Int) ≤ x1) (gd (x1 < (((List.length x.1) : Nat) : Int)) (gd ((0 : Int) ≤ x1) (gd (x1 < (((List.length x.2.1) : Nat) : Int)) (bif (!(streq (Go.strOfNums (List.getD x.1 (Int.toNat x1) ((0 : Int), ([] : List Int))).2) (Go.strOfNums (List.getD x.2.1 (Int.toNat x1) ((0 : Int), ([] : List Int))).2))) then
 (some (Sum.inr (Sum.inr false)))
 else
 (some (Sum.inl (Go.IntKind.wrap .i64 (x1 + (1 : Int)))))))))))))))
 else
 (some (Sum.inr (Sum.inl ())))) (0 : Int)) fun (y1 : (Unit ⊕ Bool)) =>
 Sum.elim (fun y2 =>
 some (true, ())) (fun y2 =>
 some (y2, ())) y1)

noncomputable def r16 : PDen [(false, (.sl (.pair (.int .i64) (.sl (.int .u8))))), (false, (.sl (.pair (.int .i64) (.sl (.int .u8)))))] → Option (PDen [(false, .bool)]) := fun x => afun Try.prog (envOf [] [] [] []) ⟨[(0, ⟨[.slot 5 (.d false (.int .i64) true)], [], [(some 0, []), (none, [.slot 4 (.d false .bool true)])], none⟩)], []⟩ Try.f16 [(false, (.sl (.pair (.int .i64) (.sl (.int .u8))))), (false, (.sl (.pair (.int .i64) (.sl (.int .u8)))))] [(false, .bool)] false x
theorem r16_eq : r16 = m16 := by kernel_rfl

theorem c16 : CS.Sound Try.prog 16 ⟨[(false, (.sl (.pair (.int .i64) (.sl (.int .u8))))), (false, (.sl (.pair (.int .i64) (.sl (.int .u8)))))], [(false, .bool)], false, m16⟩ := afun_sound' (envOf_sound (CSs.nil) (HDs.nil) (IDs.nil)) rfl Try.follows (f := 16) (fn := Try.f16) Try.func16 (by kernel_rfl) (by kernel_rfl) r16_eq
end Go.Proofs.Ytjleeabhpfmhaaa
end

section
namespace Go.Proofs
open Go.Shelf
def Try.sortInt_ren : Go.Shelf.Ren := ⟨fun | 189 => 77 | 125 => 90 | 257 => 89 | 128 => 106 | 129 => 107 | 294 => 97 | 295 => 98 | 296 => 99 | 297 => 100 | 298 => 101 | 299 => 102 | 216 => 103 | 300 => 104 | 301 => 105 | 328 => 110 | 329 => 111 | 330 => 112 | 331 => 113 | 332 => 114 | 215 => 115 | 343 => 116 | n => n, fun | 28 => 40 | 3 => 3 | 46 => 114 | 0 => 0 | 51 => 153 | 53 => 80 | 4 => 4 | 183 => 145 | 182 => 144 | 131 => 150 | 5 => 5 | 9 => 9 | 218 => 157 | 222 => 161 | 228 => 163 | 229 => 164 | n => n, fun | n => n⟩
theorem Try.sortInt : Go.Proofs.Lays.n189 Try.prog Try.sortInt_ren := {
  mixed := by kernel_rfl
  f125 := Try.func90.trans (congrArg some (by kernel_rfl))
  f128 := Try.func106.trans (congrArg some (by kernel_rfl))
  f129 := Try.func107.trans (congrArg some (by kernel_rfl))
  f189 := Try.func77.trans (congrArg some (by kernel_rfl))
  f215 := Try.func115.trans (congrArg some (by kernel_rfl))
  f216 := Try.func103.trans (congrArg some (by kernel_rfl))
  f257 := Try.func89.trans (congrArg some (by kernel_rfl))
  f294 := Try.func97.trans (congrArg some (by kernel_rfl))
  f295 := Try.func98.trans (congrArg some (by kernel_rfl))
  f296 := Try.func99.trans (congrArg some (by kernel_rfl))
  f297 := Try.func100.trans (congrArg some (by kernel_rfl))
  f298 := Try.func101.trans (congrArg some (by kernel_rfl))
  f299 := Try.func102.trans (congrArg some (by kernel_rfl))
  f300 := Try.func104.trans (congrArg some (by kernel_rfl))
  f301 := Try.func105.trans (congrArg some (by kernel_rfl))
  f328 := Try.func110.trans (congrArg some (by kernel_rfl))
  f329 := Try.func111.trans (congrArg some (by kernel_rfl))
  f330 := Try.func112.trans (congrArg some (by kernel_rfl))
  f331 := Try.func113.trans (congrArg some (by kernel_rfl))
  f332 := Try.func114.trans (congrArg some (by kernel_rfl))
  f343 := Try.func116.trans (congrArg some (by kernel_rfl))
  t0 := Try.underlying0
  a0 := Try.isAgg0
  z0 := Try.sizeOf0
  v0 := Try.zeroValue0
  t3 := Try.underlying3
  a3 := Try.isAgg3
  z3 := Try.sizeOf3
  v3 := Try.zeroValue3
  t4 := Try.underlying4
  a4 := Try.isAgg4
  z4 := Try.sizeOf4
  v4 := Try.zeroValue4
  t5 := Try.underlying5
  a5 := Try.isAgg5
  z5 := Try.sizeOf5
  v5 := Try.zeroValue5
  t9 := Try.underlying9
  a9 := Try.isAgg9
  z9 := Try.sizeOf9
  v9 := Try.zeroValue9
  t28 := Try.underlying40
  a28 := Try.isAgg40
  z28 := Try.sizeOf40
  v28 := Try.zeroValue40
  t46 := Try.underlying114
  a46 := Try.isAgg114
  z46 := Try.sizeOf114
  v46 := Try.zeroValue114
  t51 := Try.underlying153
  a51 := Try.isAgg153
  z51 := Try.sizeOf153
  v51 := Try.zeroValue153
  t53 := Try.underlying80
  a53 := Try.isAgg80
  z53 := Try.sizeOf80
  v53 := Try.zeroValue80
  t131 := Try.underlying150
  a131 := Try.isAgg150
  z131 := Try.sizeOf150
  v131 := Try.zeroValue150
  t182 := Try.underlying144
  a182 := Try.isAgg144
  z182 := Try.sizeOf144
  v182 := Try.zeroValue144
  t183 := Try.underlying145
  a183 := Try.isAgg145
  z183 := Try.sizeOf145
  v183 := Try.zeroValue145
  t218 := Try.underlying157
  a218 := Try.isAgg157
  z218 := Try.sizeOf157
  v218 := Try.zeroValue157
  t222 := Try.underlying161
  a222 := Try.isAgg161
  z222 := Try.sizeOf161
  v222 := Try.zeroValue161
  t228 := Try.underlying163
  a228 := Try.isAgg163
  z228 := Try.sizeOf163
  v228 := Try.zeroValue163
  t229 := Try.underlying164
  a229 := Try.isAgg164
  z229 := Try.sizeOf164
  v229 := Try.zeroValue164 }
end Go.Proofs
end

section
open Go Go.Proofs.AM
namespace Go.Proofs.Ytjleeabhpfmhaaa
theorem s77 : (sortIHD 3).Sound Try.prog 77 := sortIHD_sound Try.sortInt rfl (fun args w => enters_of Try.func77 (by kernel_rfl) rfl args w)
end Go.Proofs.Ytjleeabhpfmhaaa
end

section
open Go Go.Proofs.AM
namespace Go.Proofs.Ytjleeabhpfmhaaa

noncomputable def m17 (x : (List TyT) × Unit) : Option ((List (Int × (List Int))) × Unit) :=
 Option.bind (loopM (X := (Int × (List (Int × Int)))) (E := (List (Int × Int))) (fun (x1 : (Int × (List (Int × Int)))) =>
 bif (decide (x1.1 < (((List.length x.1) : Nat) : Int))) then
 (gd ((0 : Int) ≤ x1.1) (gd (x1.1 < (((List.length x.1) : Nat) : Int)) (Option.bind (m51 ((List.getD x.1 (Int.toNat x1.1) ((0 : Int), (([] : List (Int × (List Int))), ([] : List Int)))), ())) fun (y2 : (Int × Unit)) =>
 bif (decide (y2.1 = (0 : Int))) then
 (Option.bind (loopM (X := (Int × (List (Int × Int)))) (E := (List (Int × Int))) (fun (x3 : (Int × (List (Int × Int)))) =>
 bif (decide (x3.1 < (((List.length (List.getD x.1 (Int.toNat x1.1) ((0 : Int), (([] : List (Int × (List Int))), ([] : List Int)))).2.2) : Nat) : Int))) then
 (gd ((0 : Int) ≤ x3.1) (gd (x3.1 < (((List.length (List.getD x.1 (Int.toNat x1.1) ((0 : Int), (([] : List (Int × (List Int))), ([] : List Int)))).2.2) : Nat) : Int)) (some (Sum.inl ((Go.IntKind.wrap .i64 (x3.1 + (1 : Int))), (mset (false, (.int .i64)) x3.2 (List.getD (List.getD x.1 (Int.toNat x1.1) ((0 : Int), (([] : List (Int × (List Int))), ([] : List Int)))).2.2 (Int.toNat x3.1) (0 : Int)) (if (List.getD x.1 (Int.toNat x1.1) ((0 : Int), (([] : List (Int × (List Int))), ([] : List Int)))).1 > (mget (false, (.int .i64)) x3.2 (List.getD (List.getD x.1 (Int.toNat x1.1) ((0 : Int), (([] : List (Int × (List Int))), ([] : List Int)))).2.2 (Int.toNat x3.1) (0 : Int)) (0 : Int)) then (List.getD x.1 (Int.toNat x1.1) ((0 : Int), (([] : List (Int × (List Int))), ([] : List Int)))).1 else (mget (false, (.int .i64)) x3.2 (List.getD (List.getD x.1 (Int.toNat x1.1) ((0 : Int), (([] : List (Int × (List Int))), ([] : List Int)))).2.2 (Int.toNat x3.1) (0 : Int)) (0 : Int)))))))))
 else
 (some (Sum.inr x3.2))) ((0 : Int), x1.2)) fun (y3 : (List (Int × Int))) =>
 some (Sum.inl ((Go.IntKind.wrap .i64 (x1.1 + (1 : Int))), y3)))
 else
 (some (Sum.inl ((Go.IntKind.wrap .i64 (x1.1 + (1 : Int))), x1.2))))))
 else
 (some (Sum.inr x1.2))) ((0 : Int), ([] : List (Int × Int)))) fun (y1 : (List (Int × Int))) =>
 Option.bind (loopM (X := (Int × (List (Int × (List Int))))) (E := (List (Int × (List Int)))) (fun (x2 : (Int × (List (Int × (List Int))))) =>
 bif (decide (x2.1 < (((List.length x.1) : Nat) : Int))) then
 (gd ((0 : Int) ≤ x2.1) (gd (x2.1 < (((List.length x.1) : Nat) : Int)) (Option.bind (m51 ((List.getD x.1 (Int.toNat x2.1) ((0 : Int), (([] : List (Int × (List Int))), ([] : List Int)))), ())) fun (y3 : (Int × Unit)) =>
 bif (!(decide (y3.1 = (0 : Int)))) then
 (some (Sum.inl ((Go.IntKind.wrap .i64 (x2.1 + (1 : Int))), x2.2)))
 else
 (Option.bind (loopM (X := (Int × (List (Int × (List Int))))) (E := (List (Int × (List Int)))) (fun (x4 : (Int × (List (Int × (List Int))))) =>
 bif (decide (x4.1 < (((List.length (List.getD x.1 (Int.toNat x2.1) ((0 : Int), (([] : List (Int × (List Int))), ([] : List Int)))).2.1) : Nat) : Int))) then
 (gd ((0 : Int) ≤ x4.1) (gd (x4.1 < (((List.length (List.getD x.1 (Int.toNat x2.1) ((0 : Int), (([] : List (Int × (List Int))), ([] : List Int)))).2.1) : Nat) : Int)) (bif (decide ((mget (false, (.int .i64)) y1 (List.getD (List.getD x.1 (Int.toNat x2.1) ((0 : Int), (([] : List (Int × (List Int))), ([] : List Int)))).2.1 (Int.toNat x4.1) ((0 : Int), ([] : List Int))).1 (0 : Int)) < (List.getD x.1 (Int.toNat x2.1) ((0 : Int), (([] : List (Int × (List Int))), ([] : List Int)))).1)) then
 (Option.bind (m52 ((List.getD (List.getD x.1 (Int.toNat x2.1) ((0 : Int), (([] : List (Int × (List Int))), ([] : List Int)))).2.1 (Int.toNat x4.1) ((0 : Int), ([] : List Int))).2, ())) fun (y5 : ((List Int) × Unit)) =>
 some (Sum.inl ((Go.IntKind.wrap .i64 (x4.1 + (1 : Int))), (mset (false, (.int .i64)) x4.2 (List.getD (List.getD x.1 (Int.toNat x2.1) ((0 : Int), (([] : List (Int × (List Int))), ([] : List Int)))).2.1 (Int.toNat x4.1) ((0 : Int), ([] : List Int))).1 y5.1))))
 else
 (some (Sum.inl ((Go.IntKind.wrap .i64 (x4.1 + (1 : Int))), x4.2))))))
 else
 (some (Sum.inr x4.2))) ((0 : Int), x2.2)) fun (y4 : (List (Int × (List Int)))) =>
 some (Sum.inl ((Go.IntKind.wrap .i64 (x2.1 + (1 : Int))), y4))))))
 else
 (some (Sum.inr x2.2))) ((0 : Int), ([] : List (Int × (List Int))))) fun (y2 : (List (Int × (List Int)))) =>
 lateM (A := (Int × (List Int))) (X := (List Int)) (E := (List Int)) (fun (p3 : (Int × (List Int))) l3 (x3 : (List Int)) =>
 gd ((((List.length x3) + (List.length (p3.1 :: ([] : List Int)))) * 8) ≤ 140737488355328) (gd (((List.length x3) + (List.length (p3.1 :: ([] : List Int)))) ≤ 140737488355328) (some (Sum.inl (x3 ++ (p3.1 :: ([] : List Int))))))) (fun (x3 : (List Int)) =>
 some (Sum.inr x3)) y2 ([] : List Int) fun (y3 : (List Int)) =>
 Option.bind (gd ((List.length y3) ≤ 140737488355328) (some (sortI y3))) fun (y4 : (List Int)) =>
 Option.bind (loopM (X := (Int × (List (Int × (List Int))))) (E := (List (Int × (List Int)))) (fun (x5 : (Int × (List (Int × (List Int))))) =>
 bif (decide (x5.1 < (((List.length y4) : Nat) : Int))) then
 (gd ((0 : Int) ≤ x5.1) (gd (x5.1 < (((List.length y4) : Nat) : Int)) (gd ((Int.toNat x5.1) < (List.length y4)) (Option.bind (m52 ((mget (false, (.int .i64)) y2 (List.getD y4 (Int.toNat x5.1) (0 : Int)) ([] : List Int)), ())) fun (y6 : ((List Int) × Unit)) =>
 gd ((((List.length x5.2) + (List.length (((List.getD y4 (Int.toNat x5.1) (0 : Int)), y6.1) :: ([] : List (Int × (List Int)))))) * 32) ≤ 140737488355328) (gd (((List.length x5.2) + (List.length (((List.getD y4 (Int.toNat x5.1) (0 : Int)), y6.1) :: ([] : List (Int × (List Int)))))) ≤ 140737488355328) (some (Sum.inl ((Go.IntKind.wrap .i64 (x5.1 + (1 : Int))), (x5.2 ++ (((List.getD y4 (Int.toNat x5.1) (0 : Int)), y6.1) :: ([] : List (Int × (List Int)))))))))))))
 else
 (some (Sum.inr x5.2))) ((0 : Int), ([] : List (Int × (List Int))))) fun (y5 : (List (Int × (List Int)))) =>
 some (y5, ())

noncomputable def i17_30 : ID := aInl Try.prog (envOf [(51, ⟨[(true, (.pair (.int .i64) (.pair (.sl (.pair (.int .i64) (.sl (.int .u8)))) (.sl (.int .i64)))))], [(false, (.int .i64))], false, m51⟩), (52, ⟨[(false, (.sl (.int .u8)))], [(false, (.sl (.int .u8)))], false, m52⟩)] [] [] []) ⟨[(2000, ⟨[.slot 16 (.d false (.int .i64) true), .map 0 (false, (.int .i64)) (false, (.int .i64)) true], [], [(some 0, [.map 0 (false, (.int .i64)) (false, (.int .i64)) true])], none⟩), (3002, ⟨[.slot 26 (.d false (.int .i64) true), .map 0 (false, (.int .i64)) (false, (.int .i64)) true], [], [(some 2, [.map 0 (false, (.int .i64)) (false, (.int .i64)) true])], none⟩), (4004, ⟨[.slot 43 (.d false (.int .i64) true), .map 1 (false, (.int .i64)) (false, (.sl (.int .u8))) false], [], [(some 4, [.map 1 (false, (.int .i64)) (false, (.sl (.int .u8))) false])], none⟩), (5006, ⟨[.slot 53 (.d false (.int .i64) true), .map 1 (false, (.int .i64)) (false, (.sl (.int .u8))) false], [], [(some 6, [.map 1 (false, (.int .i64)) (false, (.sl (.int .u8))) false])], none⟩)], []⟩ Try.f30
noncomputable def i17_78 : ID := aInl Try.prog (envOf [] [] [] []) ⟨[(12000, ⟨[.cell 7 0 (.v 3 (.int .i64) true)], [], [(some 0, [.cell 7 0 (.v 3 (.int .i64) true)])], some 50005⟩)], []⟩ Try.f78
noncomputable def i17_88 : ID := aInl Try.prog (envOf [] [] [] [(78, i17_78)]) ⟨[], []⟩ Try.f88
noncomputable def i17_76 : ID := aInl Try.prog (envOf [] [] [] [(88, i17_88)]) ⟨[], []⟩ Try.f76
noncomputable def i17_54 : ID := aInl Try.prog (envOf [] [(77, sortIHD 3)] [] [(76, i17_76)]) ⟨[], []⟩ Try.f54
noncomputable def i17_55 : ID := aInl Try.prog (envOf [] [] [] []) ⟨[], []⟩ Try.f55
noncomputable def i17_53 : ID := aInl Try.prog (envOf [(52, ⟨[(false, (.sl (.int .u8)))], [(false, (.sl (.int .u8)))], false, m52⟩)] [] [] [(54, i17_54), (55, i17_55)]) ⟨[(13000, ⟨[.slot 9 (.d false (.int .i64) true), .cell 3 0 (.v 66 (.pair (.int .i64) (.sl (.int .u8))) true)], [], [(some 0, [.cell 3 0 (.v 66 (.pair (.int .i64) (.sl (.int .u8))) true)])], none⟩)], []⟩ Try.f53
noncomputable def r17 : PDen [(false, (.sl (.pair (.int .i64) (.pair (.sl (.pair (.int .i64) (.sl (.int .u8)))) (.sl (.int .i64))))))] → Option (PDen [(false, (.sl (.pair (.int .i64) (.sl (.int .u8)))))]) := fun x => afun Try.prog (envOf [] [] [] [(30, i17_30), (53, i17_53)]) ⟨[], []⟩ Try.f17 [(false, (.sl (.pair (.int .i64) (.pair (.sl (.pair (.int .i64) (.sl (.int .u8)))) (.sl (.int .i64))))))] [(false, (.sl (.pair (.int .i64) (.sl (.int .u8)))))] false x
theorem r17_eq : r17 = m17 := by kernel_rfl

theorem i17_30_sound : i17_30.Sound Try.prog 30 := aInl_sound' (envOf_sound (CSs.cons c51 (CSs.cons (OM.Sound.cs c52) (CSs.nil))) (HDs.nil) (IDs.nil)) Try.follows (f := 30) (fn := Try.f30) Try.func30 (by kernel_rfl) (by kernel_rfl)
theorem i17_78_sound : i17_78.Sound Try.prog 78 := aInl_sound' (envOf_sound (CSs.nil) (HDs.nil) (IDs.nil)) Try.follows (f := 78) (fn := Try.f78) Try.func78 (by kernel_rfl) (by kernel_rfl)
theorem i17_88_sound : i17_88.Sound Try.prog 88 := aInl_sound' (envOf_sound (CSs.nil) (HDs.nil) (IDs.cons i17_78_sound (IDs.nil))) Try.follows (f := 88) (fn := Try.f88) Try.func88 (by kernel_rfl) (by kernel_rfl)
theorem i17_76_sound : i17_76.Sound Try.prog 76 := aInl_sound' (envOf_sound (CSs.nil) (HDs.nil) (IDs.cons i17_88_sound (IDs.nil))) Try.follows (f := 76) (fn := Try.f76) Try.func76 (by kernel_rfl) (by kernel_rfl)
theorem i17_54_sound : i17_54.Sound Try.prog 54 := aInl_sound' (envOf_sound (CSs.nil) (HDs.cons s77 (HDs.nil)) (IDs.cons i17_76_sound (IDs.nil))) Try.follows (f := 54) (fn := Try.f54) Try.func54 (by kernel_rfl) (by kernel_rfl)
theorem i17_55_sound : i17_55.Sound Try.prog 55 := aInl_sound' (envOf_sound (CSs.nil) (HDs.nil) (IDs.nil)) Try.follows (f := 55) (fn := Try.f55) Try.func55 (by kernel_rfl) (by kernel_rfl)
theorem i17_53_sound : i17_53.Sound Try.prog 53 := aInl_sound' (envOf_sound (CSs.cons (OM.Sound.cs c52) (CSs.nil)) (HDs.nil) (IDs.cons i17_54_sound (IDs.cons i17_55_sound (IDs.nil)))) Try.follows (f := 53) (fn := Try.f53) Try.func53 (by kernel_rfl) (by kernel_rfl)
theorem c17 : CS.Sound Try.prog 17 ⟨[(false, (.sl (.pair (.int .i64) (.pair (.sl (.pair (.int .i64) (.sl (.int .u8)))) (.sl (.int .i64))))))], [(false, (.sl (.pair (.int .i64) (.sl (.int .u8)))))], false, m17⟩ := afun_sound' (envOf_sound (CSs.nil) (HDs.nil) (IDs.cons i17_30_sound (IDs.cons i17_53_sound (IDs.nil)))) rfl Try.follows (f := 17) (fn := Try.f17) Try.func17 (by kernel_rfl) (by kernel_rfl) r17_eq
end Go.Proofs.Ytjleeabhpfmhaaa
end

section
open Go Go.Proofs.AM
namespace Go.Proofs.Ytjleeabhpfmhaaa

noncomputable def m79 (x : Int × Int × Unit) : Option (Int × Unit) :=
 if x.2.1 = (0 : Int) then
 (none)
 else
 (some ((Go.IntKind.wrap .i64 (Int.tdiv (Go.IntKind.wrap .i64 ((Go.IntKind.wrap .i64 (x.1 + x.2.1)) - (1 : Int))) x.2.1)), ()))

noncomputable def r79 : PDen [(false, (.int .i64)), (false, (.int .i64))] → Option (PDen [(false, (.int .i64))]) := fun x => afun Try.prog (envOf [] [] [] []) ⟨[], []⟩ Try.f79 [(false, (.int .i64)), (false, (.int .i64))] [(false, (.int .i64))] false x
theorem r79_eq : r79 = m79 := by kernel_rfl

theorem c79 : CS.Sound Try.prog 79 ⟨[(false, (.int .i64)), (false, (.int .i64))], [(false, (.int .i64))], false, m79⟩ := afun_sound' (envOf_sound (CSs.nil) (HDs.nil) (IDs.nil)) rfl Try.follows (f := 79) (fn := Try.f79) Try.func79 (by kernel_rfl) (by kernel_rfl) r79_eq
end Go.Proofs.Ytjleeabhpfmhaaa
end

section
open Go Go.Proofs.AM
namespace Go.Proofs.Ytjleeabhpfmhaaa

noncomputable def m56 (x : TyT × Unit) : Option (Int × Unit) :=
 Option.bind (m79 ((((List.length x.1.2.2) : Nat) : Int), ((60 : Int), ()))) fun (y1 : (Int × Unit)) =>
 Option.bind (m79 ((((List.length x.1.2.1) : Nat) : Int), ((48 : Int), ()))) fun (y2 : (Int × Unit)) =>
 some ((Go.IntKind.wrap .i64 ((Go.IntKind.wrap .i64 ((Go.IntKind.wrap .i64 (y1.1 + y2.1)) + (((List.length x.1.2.1) : Nat) : Int))) + (1 : Int))), ())

noncomputable def r56 : PDen [(true, (.pair (.int .i64) (.pair (.sl (.pair (.int .i64) (.sl (.int .u8)))) (.sl (.int .i64)))))] → Option (PDen [(false, (.int .i64))]) := fun x => afun Try.prog (envOf [(79, ⟨[(false, (.int .i64)), (false, (.int .i64))], [(false, (.int .i64))], false, m79⟩)] [] [] []) ⟨[], []⟩ Try.f56 [(true, (.pair (.int .i64) (.pair (.sl (.pair (.int .i64) (.sl (.int .u8)))) (.sl (.int .i64)))))] [(false, (.int .i64))] false x
theorem r56_eq : r56 = m56 := by kernel_rfl

theorem c56 : CS.Sound Try.prog 56 ⟨[(true, (.pair (.int .i64) (.pair (.sl (.pair (.int .i64) (.sl (.int .u8)))) (.sl (.int .i64)))))], [(false, (.int .i64))], false, m56⟩ := afun_sound' (envOf_sound (CSs.cons c79 (CSs.nil)) (HDs.nil) (IDs.nil)) rfl Try.follows (f := 56) (fn := Try.f56) Try.func56 (by kernel_rfl) (by kernel_rfl) r56_eq
end Go.Proofs.Ytjleeabhpfmhaaa
end

section
open Go Go.Proofs.AM
namespace Go.Proofs.Ytjleeabhpfmhaaa

noncomputable def m57 (x : Int × Unit) : Option (Bool × Unit) :=
 bif (decide (x.1 ≥ (0 : Int))) then
 (some ((decide (x.1 < (8192 : Int))), ()))
 else
 (some (false, ()))

noncomputable def r57 : PDen [(false, (.int .i64))] → Option (PDen [(false, .bool)]) := fun x => afun Try.prog (envOf [] [] [] []) ⟨[], []⟩ Try.f57 [(false, (.int .i64))] [(false, .bool)] false x
theorem r57_eq : r57 = m57 := by kernel_rfl

theorem c57 : CS.Sound Try.prog 57 ⟨[(false, (.int .i64))], [(false, .bool)], false, m57⟩ := afun_sound' (envOf_sound (CSs.nil) (HDs.nil) (IDs.nil)) rfl Try.follows (f := 57) (fn := Try.f57) Try.func57 (by kernel_rfl) (by kernel_rfl) r57_eq
end Go.Proofs.Ytjleeabhpfmhaaa
end

section
open Go Go.Proofs.AM
namespace Go.Proofs.Ytjleeabhpfmhaaa

noncomputable def m31 (x : TyT × Unit) : Option (Int × Unit) :=
 bif (decide (x.1.1 < (1 : Int))) then
 (some ((171 : Int), ()))
 else
 (bif (decide (x.1.1 > (281474976710656 : Int))) then
 (some ((171 : Int), ()))
 else
 (bif (decide ((Go.IntKind.wrap .i64 ((((List.length x.1.2.1) : Nat) : Int) + (((List.length x.1.2.2) : Nat) : Int))) = (0 : Int))) then
 (some ((171 : Int), ()))
 else
 (Option.bind (m56 (x.1, ())) fun (y1 : (Int × Unit)) =>
 bif (decide (y1.1 > (63 : Int))) then
 (some ((171 : Int), ()))
 else
 (gd (((8192 : Int) * (1 : Int)) ≤ (140737488355328 : Int)) (Option.bind (loopM (X := (Int × (List Bool))) (E := ((List Bool) ⊕ (Int × (List Bool)))) (fun (x2 : (Int × (List Bool))) =>
 bif (decide (x2.1 < (Go.IntKind.wrap .i64 ((((List.length x.1.2.1) : Nat) : Int) + (((List.length x.1.2.2) : Nat) : Int))))) then
 (bif (decide (x2.1 < (((List.length x.1.2.1) : Nat) : Int))) then
 (gd ((0 : Int) ≤ x2.1) (gd (x2.1 < (((List.length x.1.2.1) : Nat) : Int)) (gd ((0 : Int) ≤ x2.1) (gd (x2.1 < (((List.length x.1.2.1) : Nat) : Int)) (bif (!(decide ((((List.length (List.getD x.1.2.1 (Int.toNat x2.1) ((0 : Int), ([] : List Int))).2) : Nat) : Int) = (256 : Int)))) then
 (some (Sum.inr (Sum.inr ((171 : Int), x2.2))))
 else
 (Option.bind (m57 ((List.getD x.1.2.1 (Int.toNat x2.1) ((0 : Int), ([] : List Int))).1, ())) fun (y3 : (Bool × Unit)) =>
 bif (!y3.1) then
 (some (Sum.inr (Sum.inr ((171 : Int), x2.2))))
 else
 (gd ((0 : Int) ≤ (List.getD x.1.2.1 (Int.toNat x2.1) ((0 : Int), ([] : List Int))).1) (gd ((List.getD x.1.2.1 (Int.toNat x2.1) ((0 : Int), ([] : List Int))).1 < (((List.length x2.2) : Nat) : Int)) (gd ((Int.toNat (List.getD x.1.2.1 (Int.toNat x2.1) ((0 : Int), ([] : List Int))).1) < (List.length x2.2)) (bif (List.getD x2.2 (Int.toNat (List.getD x.1.2.1 (Int.toNat x2.1) ((0 : Int), ([] : List Int))).1) false) then
 (some (Sum.inr (Sum.inr ((171 : Int), x2.2))))
 else
 (gd ((0 : Int) ≤ (List.getD x.1.2.1 (Int.toNat x2.1) ((0 : Int), ([] : List Int))).1) (gd ((List.getD x.1.2.1 (Int.toNat x2.1) ((0 : Int), ([] : List Int))).1 < (((List.length x2.2) : Nat) : Int)) (gd ((Int.toNat (List.getD x.1.2.1 (Int.toNat x2.1) ((0 : Int), ([] : List Int))).1) < (List.length x2.2)) (some (Sum.inl ((Go.IntKind.wrap .i64 (x2.1 + (1 : Int))), (List.set x2.2 (Int.toNat (List.getD x.1.2.1 (Int.toNat x2.1) ((0 : Int), ([] : List Int))).1) true)))))))))))))))))
 else
 (gd ((0 : Int) ≤ (Go.IntKind.wrap .i64 (x2.1 - (((List.length x.1.2.1) : Nat) : Int)))) (gd ((Go.IntKind.wrap .i64 (x2.1 - (((List.length x.1.2.1) : Nat) : Int))) < (((List.length x.1.2.2) : Nat) : Int)) (Option.bind (m57 ((List.getD x.1.2.2 (Int.toNat (Go.IntKind.wrap .i64 (x2.1 - (((List.length x.1.2.1) : Nat) : Int)))) (0 : Int)), ())) fun (y3 : (Bool × Unit)) =>
 bif (!y3.1) then
 (some (Sum.inr (Sum.inr ((171 : Int), x2.2))))
 else
 (gd ((0 : Int) ≤ (List.getD x.1.2.2 (Int.toNat (Go.IntKind.wrap .i64 (x2.1 - (((List.length x.1.2.1) : Nat) : Int)))) (0 : Int))) (gd ((List.getD x.1.2.2 (Int.toNat (Go.IntKind.wrap .i64 (x2.1 - (((List.length x.1.2.1) : Nat) : Int)))) (0 : Int)) < (((List.length x2.2) : Nat) : Int)) (gd ((Int.toNat (List.getD x.1.2.2 (Int.toNat (Go.IntKind.wrap .i64 (x2.1 - (((List.length x.1.2.1) : Nat) : Int)))) (0 : Int))) < (List.length x2.2)) (bif (List.getD x2.2 (Int.toNat (List.getD x.1.2.2 (Int.toNat (Go.IntKind.wrap .i64 (x2.1 - (((List.length x.1.2.1) : Nat) : Int)))) (0 : Int))) false) then
 (some (Sum.inr (Sum.inr ((171 : Int), x2.2))))
 else
 (gd ((0 : Int) ≤ (List.getD x.1.2.2 (Int.toNat (Go.IntKind.wrap .i64 (x2.1 - (((List.length x.1.2.1) : Nat) : Int)))) (0 : Int))) (gd ((List.getD x.1.2.2 (Int.toNat (Go.IntKind.wrap .i64 (x2.1 - (((List.length x.1.2.1) : Nat) : Int)))) (0 : Int)) < (((List.length x2.2) : Nat) : Int)) (gd ((Int.toNat (List.getD x.1.2.2 (Int.toNat (Go.IntKind.wrap .i64 (x2.1 - (((List.length x.1.2.1) : Nat) : Int)))) (0 : Int))) < (List.length x2.2)) (some (Sum.inl ((Go.IntKind.wrap .i64 (x2.1 + (1 : Int))), (List.set x2.2 (Int.toNat (List.getD x.1.2.2 (Int.toNat (Go.IntKind.wrap .i64 (x2.1 - (((List.length x.1.2.1) : Nat) : Int)))) (0 : Int))) true)))))))))))))))
 else
 (some (Sum.inr (Sum.inl x2.2)))) ((0 : Int), (List.replicate (Int.toNat (8192 : Int)) false))) fun (y2 : ((List Bool) ⊕ (Int × (List Bool)))) =>
 Sum.elim (fun y3 =>
 some ((0 : Int), ())) (fun y3 =>
 some (y3.1, ())) y2)))))

noncomputable def r31 : PDen [(true, (.pair (.int .i64) (.pair (.sl (.pair (.int .i64) (.sl (.int .u8)))) (.sl (.int .i64)))))] → Option (PDen [(false, (.int .i64))]) := fun x => afun Try.prog (envOf [(56, ⟨[(true, (.pair (.int .i64) (.pair (.sl (.pair (.int .i64) (.sl (.int .u8)))) (.sl (.int .i64)))))], [(false, (.int .i64))], false, m56⟩), (57, ⟨[(false, (.int .i64))], [(false, .bool)], false, m57⟩)] [] [] []) ⟨[(0, ⟨[.slot 4 (.d false (.int .i64) true), .vec 1 4 .bool true], [], [(some 0, [.vec 1 4 .bool true]), (none, [.slot 2 (.d false (.int .i64) true), .vec 1 4 .bool true])], none⟩)], []⟩ Try.f31 [(true, (.pair (.int .i64) (.pair (.sl (.pair (.int .i64) (.sl (.int .u8)))) (.sl (.int .i64)))))] [(false, (.int .i64))] false x
theorem r31_eq : r31 = m31 := by kernel_rfl

theorem c31 : CS.Sound Try.prog 31 ⟨[(true, (.pair (.int .i64) (.pair (.sl (.pair (.int .i64) (.sl (.int .u8)))) (.sl (.int .i64)))))], [(false, (.int .i64))], false, m31⟩ := afun_sound' (envOf_sound (CSs.cons c56 (CSs.cons c57 (CSs.nil))) (HDs.nil) (IDs.nil)) rfl Try.follows (f := 31) (fn := Try.f31) Try.func31 (by kernel_rfl) (by kernel_rfl) r31_eq
end Go.Proofs.Ytjleeabhpfmhaaa
end

section
open Go Go.Proofs.AM
namespace Go.Proofs.Ytjleeabhpfmhaaa

noncomputable def m32 (x : (List TyT) × Int × Int × Unit) : Option (Bool × Unit) :=
 Option.bind (loopM (X := Int) (E := (Unit ⊕ Bool)) (fun (x1 : Int) =>
 bif (decide (x1 < (((List.length x.1) : Nat) : Int))) then
 (gd ((0 : Int) ≤ x1) (gd (x1 < (((List.length x.1) : Nat) : Int)) (Option.bind (m31 ((List.getD x.1 (Int.toNat x1) ((0 : Int), (([] : List (Int × (List Int))), ([] : List Int)))), ())) fun (y2 : (Int × Unit)) =>
 bif (!(decide (y2.1 = (0 : Int)))) then
 (some (Sum.inl (Go.IntKind.wrap .i64 (x1 + (1 : Int)))))
 else
 (gd ((0 : Int) ≤ x1) (gd (x1 < (((List.length x.1) : Nat) : Int)) (gd ((0 : Int) ≤ x.2.1) (gd (x.2.1 < (((List.length x.1) : Nat) : Int)) (bif (decide ((List.getD x.1 (Int.toNat x1) ((0 : Int), (([] : List (Int × (List Int))), ([] : List Int)))).1 < (List.getD x.1 (Int.toNat x.2.1) ((0 : Int), (([] : List (Int × (List Int))), ([] : List Int)))).1)) then
 (some (Sum.inl (Go.IntKind.wrap .i64 (x1 + (1 : Int)))))
 else
 (Option.bind (loopM (X := Int) (E := (Unit ⊕ Bool)) (fun (x3 : Int) =>
 gd ((0 : Int) ≤ x1) (gd (x1 < (((List.length x.1) : Nat) : Int)) (bif (decide (x3 < (((List.length (List.getD x.1 (Int.toNat x1) ((0 : Int), (([] : List (Int × (List Int))), ([] : List Int)))).2.2) : Nat) : Int))) then
 (gd ((0 : Int) ≤ x1) (gd (x1 < (((List.length x.1) : Nat) : Int)) (gd ((0 : Int) ≤ x3) (gd (x3 < (((List.length (List.getD x.1 (Int.toNat x1) ((0 : Int), (([] : List (Int × (List Int))), ([] : List Int)))).2.2) : Nat) : Int)) (gd ((0 : Int) ≤ x.2.1) (gd (x.2.1 < (((List.length x.1) : Nat) : Int)) (gd ((0 : Int) ≤ x.2.2.1) (gd (x.2.2.1 < (((List.length (List.getD x.1 (Int.toNat x.2.1) ((0 : Int), (([] : List (Int × (List Int))), ([] : List Int)))).2.1) : Nat) : Int)) (bif (decide ((List.getD (List.getD x.1 (Int.toNat x1) ((0 : Int), (([] : List (Int × (List Int))), ([] : List Int)))).2.2 (Int.toNat x3) (0 : Int)) = (List.getD (List.getD x.1 (Int.toNat x.2.1) ((0 : Int), (([] : List (Int × (List Int))), ([] : List Int)))).2.1 (Int.toNat x.2.2.1) ((0 : Int), ([] : List Int))).1)) then
 (some (Sum.inr (Sum.inr false)))
 else
 (some (Sum.inl (Go.IntKind.wrap .i64 (x3 + (1 : Int))))))))))))))
 else
 (some (Sum.inr (Sum.inl ())))))) (0 : Int)) fun (y3 : (Unit ⊕ Bool)) =>
 Sum.elim (fun y4 =>
 some (Sum.inl (Go.IntKind.wrap .i64 (x1 + (1 : Int))))) (fun y4 =>
 some (Sum.inr (Sum.inr y4))) y3)))))))))
 else
 (some (Sum.inr (Sum.inl ())))) (0 : Int)) fun (y1 : (Unit ⊕ Bool)) =>
 Sum.elim (fun y2 =>
 some (true, ())) (fun y2 =>
 some (y2, ())) y1

noncomputable def r32 : PDen [(false, (.sl (.pair (.int .i64) (.pair (.sl (.pair (.int .i64) (.sl (.int .u8)))) (.sl (.int .i64)))))), (false, (.int .i64)), (false, (.int .i64))] → Option (PDen [(false, .bool)]) := fun x => afun Try.prog (envOf [(31, ⟨[(true, (.pair (.int .i64) (.pair (.sl (.pair (.int .i64) (.sl (.int .u8)))) (.sl (.int .i64)))))], [(false, (.int .i64))], false, m31⟩)] [] [] []) ⟨[(0, ⟨[.slot 7 (.d false (.int .i64) true)], [], [(some 0, []), (none, [.slot 6 (.d false .bool true)])], none⟩), (2, ⟨[.slot 8 (.d false (.int .i64) true)], [], [(some 2, []), (none, [.slot 6 (.d false .bool true)])], none⟩)], []⟩ Try.f32 [(false, (.sl (.pair (.int .i64) (.pair (.sl (.pair (.int .i64) (.sl (.int .u8)))) (.sl (.int .i64)))))), (false, (.int .i64)), (false, (.int .i64))] [(false, .bool)] false x
theorem r32_eq : r32 = m32 := by kernel_rfl

theorem c32 : CS.Sound Try.prog 32 ⟨[(false, (.sl (.pair (.int .i64) (.pair (.sl (.pair (.int .i64) (.sl (.int .u8)))) (.sl (.int .i64)))))), (false, (.int .i64)), (false, (.int .i64))], [(false, .bool)], false, m32⟩ := afun_sound' (envOf_sound (CSs.cons c31 (CSs.nil)) (HDs.nil) (IDs.nil)) rfl Try.follows (f := 32) (fn := Try.f32) Try.func32 (by kernel_rfl) (by kernel_rfl) r32_eq
end Go.Proofs.Ytjleeabhpfmhaaa
end

section
open Go Go.Proofs.AM
namespace Go.Proofs.Ytjleeabhpfmhaaa

noncomputable def m18 (x : (List TyT) × Unit) : Option ((List (Int × (List Int))) × Unit) :=
 Option.bind (loopM (X := ((List (Int × (List Int))) × Int)) (E := (List (Int × (List Int)))) (fun (x1 : ((List (Int × (List Int))) × Int)) =>
 bif (decide (x1.2 < (8192 : Int))) then
 (Option.bind (loopM (X := (Bool × ((List Int) × Int))) (E := (Bool × (List Int))) (fun (x2 : (Bool × ((List Int) × Int))) =>
 bif (decide (x2.2.2 < (((List.length x.1) : Nat) : Int))) then
 (gd ((0 : Int) ≤ x2.2.2) (gd (x2.2.2 < (((List.length x.1) : Nat) : Int)) (Option.bind (m31 ((List.getD x.1 (Int.toNat x2.2.2) ((0 : Int), (([] : List (Int × (List Int))), ([] : List Int)))), ())) fun (y3 : (Int × Unit)) =>
 bif (!(decide (y3.1 = (0 : Int)))) then
 (some (Sum.inl (x2.1, (x2.2.1, (Go.IntKind.wrap .i64 (x2.2.2 + (1 : Int)))))))
 else
 (Option.bind (loopM (X := (Bool × ((List Int) × Int))) (E := (Bool × (List Int))) (fun (x4 : (Bool × ((List Int) × Int))) =>
 gd ((0 : Int) ≤ x2.2.2) (gd (x2.2.2 < (((List.length x.1) : Nat) : Int)) (bif (decide (x4.2.2 < (((List.length (List.getD x.1 (Int.toNat x2.2.2) ((0 : Int), (([] : List (Int × (List Int))), ([] : List Int)))).2.1) : Nat) : Int))) then
 (gd ((0 : Int) ≤ x2.2.2) (gd (x2.2.2 < (((List.length x.1) : Nat) : Int)) (gd ((0 : Int) ≤ x4.2.2) (gd (x4.2.2 < (((List.length (List.getD x.1 (Int.toNat x2.2.2) ((0 : Int), (([] : List (Int × (List Int))), ([] : List Int)))).2.1) : Nat) : Int)) (bif (decide ((List.getD (List.getD x.1 (Int.toNat x2.2.2) ((0 : Int), (([] : List (Int × (List Int))), ([] : List Int)))).2.1 (Int.toNat x4.2.2) ((0 : Int), ([] : List Int))).1 = x1.2)) then
 (Option.bind (m32 (x.1, (x2.2.2, (x4.2.2, ())))) fun (y5 : (Bool × Unit)) =>
 bif y5.1 then
 (gd ((0 : Int) ≤ x2.2.2) (gd (x2.2.2 < (((List.length x.1) : Nat) : Int)) (gd ((0 : Int) ≤ x4.2.2) (gd (x4.2.2 < (((List.length (List.getD x.1 (Int.toNat x2.2.2) ((0 : Int), (([] : List (Int × (List Int))), ([] : List Int)))).2.1) : Nat) : Int)) (some (Sum.inl (true, ((List.getD (List.getD x.1 (Int.toNat x2.2.2) ((0 : Int), (([] : List (Int × (List Int))), ([] : List Int)))).2.1 (Int.toNat x4.2.2) ((0 : Int), ([] : List Int))).2, (Go.IntKind.wrap .i64 (x4.2.2 + (1 : Int)))))))))))
 else
 (some (Sum.inl (x4.1, (x4.2.1, (Go.IntKind.wrap .i64 (x4.2.2 + (1 : Int))))))))
 else
 (some (Sum.inl (x4.1, (x4.2.1, (Go.IntKind.wrap .i64 (x4.2.2 + (1 : Int))))))))))))
 else
 (some (Sum.inr (x4.1, x4.2.1)))))) (x2.1, (x2.2.1, (0 : Int)))) fun (y4 : (Bool × (List Int))) =>
 some (Sum.inl (y4.1, (y4.2, (Go.IntKind.wrap .i64 (x2.2.2 + (1 : Int))))))))))
 else
 (some (Sum.inr (x2.1, x2.2.1)))) (false, (([] : List Int), (0 : Int)))) fun (y2 : (Bool × (List Int))) =>
 bif y2.1 then
 (gd ((((List.length x1.1) + (List.length ((x1.2, y2.2) :: ([] : List (Int × (List Int)))))) * 32) ≤ 140737488355328) (gd (((List.length x1.1) + (List.length ((x1.2, y2.2) :: ([] : List (Int × (List Int)))))) ≤ 140737488355328) (some (Sum.inl ((x1.1 ++ ((x1.2, y2.2) :: ([] : List (Int × (List Int))))), (Go.IntKind.wrap .i64 (x1.2 + (1 : Int))))))))
 else
 (some (Sum.inl (x1.1, (Go.IntKind.wrap .i64 (x1.2 + (1 : Int)))))))
 else
 (some (Sum.inr x1.1))) (([] : List (Int × (List Int))), (0 : Int))) fun (y1 : (List (Int × (List Int)))) =>
 some (y1, ())

noncomputable def r18 : PDen [(false, (.sl (.pair (.int .i64) (.pair (.sl (.pair (.int .i64) (.sl (.int .u8)))) (.sl (.int .i64))))))] → Option (PDen [(false, (.sl (.pair (.int .i64) (.sl (.int .u8)))))]) := fun x => afun Try.prog (envOf [(31, ⟨[(true, (.pair (.int .i64) (.pair (.sl (.pair (.int .i64) (.sl (.int .u8)))) (.sl (.int .i64)))))], [(false, (.int .i64))], false, m31⟩), (32, ⟨[(false, (.sl (.pair (.int .i64) (.pair (.sl (.pair (.int .i64) (.sl (.int .u8)))) (.sl (.int .i64)))))), (false, (.int .i64)), (false, (.int .i64))], [(false, .bool)], false, m32⟩)] [] [] []) ⟨[(0, ⟨[.slot 3 (.v 66 (.pair (.int .i64) (.sl (.int .u8))) false), .slot 4 (.d false (.int .i64) true)], [], [(some 0, [.slot 3 (.v 66 (.pair (.int .i64) (.sl (.int .u8))) false)])], none⟩), (2, ⟨[.slot 5 (.d false .bool true), .slot 6 (.d false (.sl (.int .u8)) false), .slot 7 (.d false (.int .i64) true)], [], [(some 2, [.slot 5 (.d false .bool true), .slot 6 (.d false (.sl (.int .u8)) false)])], none⟩), (4, ⟨[.slot 5 (.d false .bool true), .slot 6 (.d false (.sl (.int .u8)) false), .slot 8 (.d false (.int .i64) true)], [], [(some 4, [.slot 5 (.d false .bool true), .slot 6 (.d false (.sl (.int .u8)) false)])], none⟩)], []⟩ Try.f18 [(false, (.sl (.pair (.int .i64) (.pair (.sl (.pair (.int .i64) (.sl (.int .u8)))) (.sl (.int .i64))))))] [(false, (.sl (.pair (.int .i64) (.sl (.int .u8)))))] true x
theorem r18_eq : r18 = m18 := by kernel_rfl

theorem c18 : CS.Sound Try.prog 18 ⟨[(false, (.sl (.pair (.int .i64) (.pair (.sl (.pair (.int .i64) (.sl (.int .u8)))) (.sl (.int .i64))))))], [(false, (.sl (.pair (.int .i64) (.sl (.int .u8)))))], true, m18⟩ := afun_sound' (envOf_sound (CSs.cons c31 (CSs.cons c32 (CSs.nil))) (HDs.nil) (IDs.nil)) rfl Try.follows (f := 18) (fn := Try.f18) Try.func18 (by kernel_rfl) (by kernel_rfl) r18_eq
end Go.Proofs.Ytjleeabhpfmhaaa
end

section
open Go Go.Proofs.AM
namespace Go.Proofs.Ytjleeabhpfmhaaa

noncomputable def m5 (x : (List TyT) × Unit) : Option (Bool × Unit) :=
 Option.bind (m6 ()) fun (y1 : (Bool × Unit)) =>
 bif (!y1.1) then
 (some (false, ()))
 else
 (Option.bind (m15 (x.1, ())) fun (y2 : (Bool × Unit)) =>
 bif (!y2.1) then
 (some (true, ()))
 else
 (Option.bind (m17 (x.1, ())) fun (y3 : ((List (Int × (List Int))) × Unit)) =>
 Option.bind (m18 (x.1, ())) fun (y4 : ((List (Int × (List Int))) × Unit)) =>
 Option.bind (m16 (y3.1, (y4.1, ()))) fun (y5 : (Bool × Unit)) =>
 some (y5.1, ())))

noncomputable def r5 : PDen [(false, (.sl (.pair (.int .i64) (.pair (.sl (.pair (.int .i64) (.sl (.int .u8)))) (.sl (.int .i64))))))] → Option (PDen [(false, .bool)]) := fun x => afun Try.prog (envOf [(6, ⟨[], [(false, .bool)], false, m6⟩), (15, ⟨[(false, (.sl (.pair (.int .i64) (.pair (.sl (.pair (.int .i64) (.sl (.int .u8)))) (.sl (.int .i64))))))], [(false, .bool)], false, m15⟩), (16, ⟨[(false, (.sl (.pair (.int .i64) (.sl (.int .u8))))), (false, (.sl (.pair (.int .i64) (.sl (.int .u8)))))], [(false, .bool)], false, m16⟩), (17, ⟨[(false, (.sl (.pair (.int .i64) (.pair (.sl (.pair (.int .i64) (.sl (.int .u8)))) (.sl (.int .i64))))))], [(false, (.sl (.pair (.int .i64) (.sl (.int .u8)))))], false, m17⟩), (18, ⟨[(false, (.sl (.pair (.int .i64) (.pair (.sl (.pair (.int .i64) (.sl (.int .u8)))) (.sl (.int .i64))))))], [(false, (.sl (.pair (.int .i64) (.sl (.int .u8)))))], true, m18⟩)] [] [] []) ⟨[], []⟩ Try.f5 [(false, (.sl (.pair (.int .i64) (.pair (.sl (.pair (.int .i64) (.sl (.int .u8)))) (.sl (.int .i64))))))] [(false, .bool)] false x
theorem r5_eq : r5 = m5 := by kernel_rfl

theorem c5 : CS.Sound Try.prog 5 ⟨[(false, (.sl (.pair (.int .i64) (.pair (.sl (.pair (.int .i64) (.sl (.int .u8)))) (.sl (.int .i64))))))], [(false, .bool)], false, m5⟩ := afun_sound' (envOf_sound (CSs.cons c6 (CSs.cons c15 (CSs.cons c16 (CSs.cons c17 (CSs.cons c18 (CSs.nil)))))) (HDs.nil) (IDs.nil)) rfl Try.follows (f := 5) (fn := Try.f5) Try.func5 (by kernel_rfl) (by kernel_rfl) r5_eq
end Go.Proofs.Ytjleeabhpfmhaaa
end

section
open Go Go.Proofs.AM
namespace Go.Proofs.Ytjleeabhpfmhaaa

end Go.Proofs.Ytjleeabhpfmhaaa
end

section
open Go Go.Proofs.AM
namespace Go.Proofs.Ytjleeabhpfmhaaa

end Go.Proofs.Ytjleeabhpfmhaaa
end

section
open Go Go.Proofs.AM
namespace Go.Proofs.Ytjleeabhpfmhaaa

end Go.Proofs.Ytjleeabhpfmhaaa
end

section
open Go Go.Proofs.AM
namespace Go.Proofs.Ytjleeabhpfmhaaa

end Go.Proofs.Ytjleeabhpfmhaaa
end

section
open Go Go.Proofs.AM
namespace Go.Proofs.Ytjleeabhpfmhaaa

end Go.Proofs.Ytjleeabhpfmhaaa
end

section
open Go Go.Proofs.AM
namespace Go.Proofs.Ytjleeabhpfmhaaa

end Go.Proofs.Ytjleeabhpfmhaaa
end

section
open Go Go.Proofs.AM
namespace Go.Proofs.Ytjleeabhpfmhaaa

end Go.Proofs.Ytjleeabhpfmhaaa
end

section
open Go Go.Proofs.AM
namespace Go.Proofs.Ytjleeabhpfmhaaa

end Go.Proofs.Ytjleeabhpfmhaaa
end

section
open Go Go.Proofs.AM
namespace Go.Proofs.Ytjleeabhpfmhaaa

end Go.Proofs.Ytjleeabhpfmhaaa
end

section
open Go Go.Proofs.AM
namespace Go.Proofs.Ytjleeabhpfmhaaa

end Go.Proofs.Ytjleeabhpfmhaaa
end

section
open Go Go.Proofs.AM
namespace Go.Proofs.Ytjleeabhpfmhaaa

end Go.Proofs.Ytjleeabhpfmhaaa
end

section
namespace Go.Proofs.Ytjleeabhpfmhaaa
open Go Go.Proofs.AM

def Bytes (l : List Int) : Prop := ∀ x ∈ l, 0 ≤ x ∧ x < 256

theorem Bytes.app {a b : List Int} (h : Bytes a) (k : Bytes b) : Bytes (a ++ b) := fun x hx => (List.mem_append.1 hx).elim (h x) (k x)
theorem Bytes.take {a : List Int} (h : Bytes a) (n : Nat) : Bytes (a.take n) := fun x hx => h x (List.mem_of_mem_take hx)
theorem Bytes.drop {a : List Int} (h : Bytes a) (n : Nat) : Bytes (a.drop n) := fun x hx => h x (List.mem_of_mem_drop hx)
theorem Bytes.nil : Bytes [] := fun x hx => by simp at hx
theorem Bytes.zeros (n : Nat) : Bytes (List.replicate n 0) := fun x hx => by rw [List.eq_of_mem_replicate hx]; decide

theorem take_snoc {A : Type} (l : List A) (i : Nat) (h : i < l.length) (z : A) : l.take (i + 1) = l.take i ++ [l.getD i z] := by
  rw [List.take_add_one, List.getD_eq_getElem?_getD, List.getElem?_eq_getElem h]; rfl

theorem getD_mem {A : Type} {l : List A} {i : Nat} {z : A} (h : i < l.length) : l.getD i z ∈ l := by
  rw [List.getD_eq_getElem?_getD, List.getElem?_eq_getElem h]; simp

theorem wsucc {i : Nat} (h : i < 4000000000000000000) : IntKind.wrap .i64 ((i : Int) + 1) = ((i + 1 : Nat) : Int) := by
  rw [wrap64 (by omega) (by omega)]; push_cast; rfl

theorem ok_eq {A : Type} {o : Option A} {r : A} (h : Ok o (fun x => x = r)) : o = some r := by
  obtain ⟨x, e, h⟩ := h; rw [e, h]

theorem ext_getD {l m : List Int} (hl : l.length = m.length) (h : ∀ i, i < l.length → l.getD i 0 = m.getD i 0) : l = m := by
  apply List.ext_getElem hl
  intro i h1 h2
  have := h i h1
  rw [List.getD_eq_getElem?_getD, List.getD_eq_getElem?_getD, List.getElem?_eq_getElem h1, List.getElem?_eq_getElem h2] at this
  simpa using this

def be (n : Nat) : Nat → List Int
  | 0 => []
  | k + 1 => ((n / 2 ^ (8 * k) % 256 : Nat) : Int) :: be n k

def val (l : List Int) : Nat := l.foldl (fun a x => 256 * a + x.toNat) 0

theorem be_len (n : Nat) : ∀ k, (be n k).length = k
  | 0 => rfl
  | k + 1 => by simp [be, be_len n k]

theorem be_bytes (n : Nat) : ∀ k, Bytes (be n k)
  | 0 => Bytes.nil
  | k + 1 => fun x hx => by
    rcases List.mem_cons.1 hx with rfl | hx
    · have : n / 2 ^ (8 * k) % 256 < 256 := Nat.mod_lt _ (by omega)
      omega
    · exact be_bytes n k x hx

theorem pow8 (k : Nat) : 2 ^ (8 * (k + 1)) = 2 ^ (8 * k) * 256 := by rw [show 8 * (k + 1) = 8 * k + 8 by omega, Nat.pow_add]

theorem fold_be (n : Nat) : ∀ k a, (be n k).foldl (fun a x => 256 * a + x.toNat) a = a * 2 ^ (8 * k) + n % 2 ^ (8 * k)
  | 0, a => by simp [be, Nat.mod_one]
  | k + 1, a => by
    simp only [be, List.foldl_cons, Int.toNat_natCast]
    rw [fold_be n k, pow8, Nat.mod_mul, Nat.add_mul, ← Nat.mul_assoc, Nat.mul_comm (n / _ % 256), Nat.mul_assoc a, Nat.mul_comm _ 256, Nat.mul_comm 256 a, Nat.mul_assoc a]
    omega

theorem val_be {n k : Nat} (h : n < 2 ^ (8 * k)) : val (be n k) = n := by
  unfold val
  rw [fold_be, Nat.mod_eq_of_lt h]; omega

theorem fold_lin : ∀ (l : List Int) (a : Nat), l.foldl (fun a x => 256 * a + x.toNat) a = a * 2 ^ (8 * l.length) + val l
  | [], a => by simp [val]
  | x :: l, a => by
    have h1 := fold_lin l (256 * a + x.toNat)
    have h2 := fold_lin l (256 * 0 + x.toNat)
    unfold val
    simp only [List.foldl_cons, List.length_cons] at *
    rw [h1, h2, pow8, Nat.add_mul, Nat.add_mul, Nat.mul_zero, Nat.zero_mul]
    have e : 256 * a * 2 ^ (8 * l.length) = a * (2 ^ (8 * l.length) * 256) := by ac_rfl
    rw [e]
    omega

theorem val_snoc (l : List Int) (x : Int) : val (l ++ [x]) = 256 * val l + x.toNat := by
  unfold val; rw [List.foldl_append]; rfl

theorem val_cons (x : Int) (l : List Int) : val (x :: l) = x.toNat * 2 ^ (8 * l.length) + val l := by
  have := fold_lin l (256 * 0 + x.toNat)
  unfold val
  rw [List.foldl_cons, this]; unfold val; simp

theorem val_lt : ∀ (l : List Int), Bytes l → val l < 2 ^ (8 * l.length)
  | [], _ => by simp [val]
  | x :: l, h => by
    have ih := val_lt l fun y hy => h y (List.mem_cons_of_mem _ hy)
    have hx := h x (List.mem_cons_self)
    rw [val_cons, List.length_cons, pow8]
    have : x.toNat * 2 ^ (8 * l.length) ≤ 255 * 2 ^ (8 * l.length) := Nat.mul_le_mul_right _ (by omega)
    omega

def bit (b : List Int) (p : Nat) : Nat := (b.getD (p / 8) 0).toNat / 2 ^ (7 - p % 8) % 2

def un (b : List Int) (at_ : Nat) : Nat → Nat
  | 0 => 0
  | k + 1 => 2 * un b at_ k + bit b (at_ + k)

theorem ioru8 (a b : Nat) (hb : b < 256) (h : 256 * a + b < 18446744073709551616) : ior .u64 (ishl .u64 (a : Int) 8) (b : Int) = ((256 * a + b : Nat) : Int) := by
  have e0 : ishl .u64 (a : Int) 8 = ((2 ^ 8 * a : Nat) : Int) := by
    unfold ishl
    have hb : IntKind.u64.bits = 64 := rfl
    rw [hb]
    show IntKind.wrap .u64 ((a : Int) * 2 ^ 8) = _
    rw [wrapU64 (by omega) (by omega)]; push_cast; omega
  rw [e0]
  unfold ior
  have e1 : (BitVec.ofInt IntKind.u64.bits ((2 ^ 8 * a : Nat) : Int) ||| BitVec.ofInt IntKind.u64.bits (b : Int)).toNat = 2 ^ 8 * a + b := by
    show (BitVec.ofInt 64 ((2 ^ 8 * a : Nat) : Int) ||| BitVec.ofInt 64 (b : Int)).toNat = _
    rw [BitVec.toNat_or, BitVec.toNat_ofInt, BitVec.toNat_ofInt]
    rw [Nat.two_pow_add_eq_or_of_lt (show b < 2 ^ 8 by omega)]
    congr 1
    · omega
    · omega
  rw [e1, wrapU64 (by omega) (by omega)]

theorem put_all : ∀ (x : Fin 256) (j : Fin 8) (c : Fin 2), x.val / 2 ^ j.val % 2 = 0 →
    (0 ≤ ior .u8 ((x.val : Nat) : Int) (ishl .u8 ((c.val : Nat) : Int) ((j.val : Nat) : Int)) ∧ ior .u8 ((x.val : Nat) : Int) (ishl .u8 ((c.val : Nat) : Int) ((j.val : Nat) : Int)) < 256) ∧
      ∀ k : Fin 8, (ior .u8 ((x.val : Nat) : Int) (ishl .u8 ((c.val : Nat) : Int) ((j.val : Nat) : Int))).toNat / 2 ^ k.val % 2 = if k = j then c.val else x.val / 2 ^ k.val % 2 := by decide +kernel

theorem getD_set {l : List Int} {i j : Nat} {y : Int} (h : i < l.length) : (l.set i y).getD j 0 = if j = i then y else l.getD j 0 := by
  rw [List.getD_eq_getElem?_getD, List.getElem?_set]
  by_cases e : i = j
  · subst e; simp [h]
  · rw [if_neg e, if_neg (fun h => e h.symm), List.getD_eq_getElem?_getD]

def put (b : List Int) (p c : Nat) : List Int := b.set (p / 8) (ior .u8 (b.getD (p / 8) 0) (ishl .u8 (c : Int) ((7 - p % 8 : Nat) : Int)))

theorem put_ok {b : List Int} (hb : Bytes b) {p c : Nat} (hp : p / 8 < b.length) (hc : c < 2) (h0 : bit b p = 0) : Bytes (put b p c) ∧ (put b p c).length = b.length ∧ ∀ q, bit (put b p c) q = if q = p then c else bit b q := by
  obtain ⟨g0, g1⟩ := hb _ (getD_mem (z := 0) hp)
  unfold bit at h0
  obtain ⟨n, hn⟩ : ∃ n : Nat, b.getD (p / 8) 0 = n := ⟨(b.getD (p / 8) 0).toNat, by omega⟩
  rw [hn] at h0 g1
  rw [Int.toNat_natCast] at h0
  obtain ⟨h1, h2⟩ := put_all ⟨n, by omega⟩ ⟨7 - p % 8, by omega⟩ ⟨c, hc⟩ h0
  simp only at h1 h2
  refine ⟨fun x hx => ?_, by unfold put; rw [List.length_set], fun q => ?_⟩
  · unfold put at hx
    rcases List.mem_or_eq_of_mem_set hx with h | h
    · exact hb x h
    · rw [h, hn]; exact h1
  · unfold bit put
    rw [getD_set hp, hn]
    by_cases e : q / 8 = p / 8
    · rw [if_pos e]
      have := h2 ⟨7 - q % 8, by omega⟩
      simp only [Fin.mk.injEq] at this
      rw [this]
      by_cases e2 : q = p
      · subst e2; simp
      · rw [if_neg (by omega), if_neg e2, e, hn, Int.toNat_natCast]
    · rw [if_neg e, if_neg (by rintro rfl; exact e rfl)]

def sumb (x : Nat) : Nat := 128 * (x / 2 ^ (7 - 0) % 2) + 64 * (x / 2 ^ (7 - 1) % 2) + 32 * (x / 2 ^ (7 - 2) % 2) + 16 * (x / 2 ^ (7 - 3) % 2) + 8 * (x / 2 ^ (7 - 4) % 2) + 4 * (x / 2 ^ (7 - 5) % 2) + 2 * (x / 2 ^ (7 - 6) % 2) + x / 2 ^ (7 - 7) % 2

theorem sumb_eq : ∀ x : Fin 256, x.val = sumb x.val := by decide +kernel

theorem byte_eq {x y : Nat} (hx : x < 256) (hy : y < 256) (e : ∀ k, k < 8 → x / 2 ^ (7 - k) % 2 = y / 2 ^ (7 - k) % 2) : x = y := by
  have h1 : sumb x = sumb y := by
    unfold sumb
    rw [e 0 (by omega), e 1 (by omega), e 2 (by omega), e 3 (by omega), e 4 (by omega), e 5 (by omega), e 6 (by omega), e 7 (by omega)]
  exact (sumb_eq ⟨x, hx⟩).trans (h1.trans (sumb_eq ⟨y, hy⟩).symm)

theorem bits_eq {a b : List Int} (ha : Bytes a) (hb : Bytes b) (hl : a.length = b.length) (h : ∀ q, q < 8 * a.length → bit a q = bit b q) : a = b := by
  apply ext_getD hl
  intro i hi
  obtain ⟨a0, a1⟩ := ha _ (getD_mem (z := 0) hi)
  obtain ⟨b0, b1⟩ := hb _ (getD_mem (z := 0) (show i < b.length by omega))
  have H : ∀ k, k < 8 → (a.getD i 0).toNat / 2 ^ (7 - k) % 2 = (b.getD i 0).toNat / 2 ^ (7 - k) % 2 := by
    intro k hk
    have := h (8 * i + k) (by omega)
    unfold bit at this
    rw [show (8 * i + k) / 8 = i by omega, show (8 * i + k) % 8 = k by omega] at this
    exact this
  have := byte_eq (by omega) (by omega) H
  omega

theorem shr64 (v k : Nat) (hk : k ≤ 64) : ishr .u64 (v : Int) (k : Int) = ((v / 2 ^ k : Nat) : Int) := by
  unfold ishr
  have hb : IntKind.u64.bits = 64 := rfl
  rw [hb, Int.toNat_natCast, Nat.min_eq_left hk]
  rw [Int.fdiv_eq_ediv_of_nonneg _ (by exact_mod_cast Nat.zero_le (2 ^ k)), Int.natCast_ediv]
  push_cast
  rfl

theorem wrap8 (n : Nat) : IntKind.wrap .u8 (n : Int) = ((n % 256 : Nat) : Int) := by
  have e1 : IntKind.bits .u8 = 8 := rfl
  have e2 : IntKind.signed .u8 = false := rfl
  simp only [IntKind.wrap, e1, e2, Bool.false_and]
  simp

theorem bit_cons (x : Int) (l : List Int) (p : Nat) : bit (x :: l) (p + 8) = bit l p := by
  unfold bit
  rw [show (p + 8) / 8 = p / 8 + 1 by omega, Nat.add_mod_right]; rfl

theorem bit_app_r (a b : List Int) (p : Nat) : bit (a ++ b) (8 * a.length + p) = bit b p := by
  unfold bit
  rw [show (8 * a.length + p) / 8 = a.length + p / 8 by omega, show (8 * a.length + p) % 8 = p % 8 by omega]
  congr 3
  rw [List.getD_eq_getElem?_getD, List.getElem?_append_right (by omega), Nat.add_sub_cancel_left, ← List.getD_eq_getElem?_getD]

theorem bit_app_l (a b : List Int) (p : Nat) (h : p < 8 * a.length) : bit (a ++ b) p = bit a p := by
  unfold bit
  congr 3
  rw [List.getD_eq_getElem?_getD, List.getElem?_append_left (by omega), ← List.getD_eq_getElem?_getD]

theorem be_bit (n : Nat) : ∀ (k q : Nat), q < 8 * k → bit (be n k) q = n / 2 ^ (8 * k - 1 - q) % 2
  | 0, q, h => by omega
  | k + 1, q, h => by
    by_cases hq : q < 8
    · unfold be bit
      rw [Nat.div_eq_of_lt hq, Nat.mod_eq_of_lt hq]
      show (((n / 2 ^ (8 * k) % 256 : Nat) : Int)).toNat / 2 ^ (7 - q) % 2 = _
      rw [Int.toNat_natCast, show 8 * (k + 1) - 1 - q = 8 * k + (7 - q) by omega, Nat.pow_add, ← Nat.div_div_eq_div_mul]
      generalize n / 2 ^ (8 * k) = m
      have h256 : (256 : Nat) = 2 ^ (7 - q) * (2 * 2 ^ q) := by
        rw [Nat.mul_left_comm, ← Nat.pow_add, show 7 - q + q = 7 by omega]
      rw [h256, Nat.mod_mul_right_div_self, Nat.mod_mul_right_mod]
    · obtain ⟨r, rfl⟩ : ∃ r, q = r + 8 := ⟨q - 8, by omega⟩
      unfold be
      rw [bit_cons, be_bit n k r (by omega)]
      congr 3
      omega

def off (ws : List Nat) (i : Nat) : Nat := (ws.take i).sum
def wd (ws : List Nat) (i : Nat) : Nat := ws.getD i 0
theorem off_succ (ws : List Nat) {i : Nat} (h : i < ws.length) : off ws (i + 1) = off ws i + wd ws i := by
  unfold off wd
  rw [take_snoc ws i h 0, List.sum_append]; simp

theorem off_mono (ws : List Nat) : ∀ {i j : Nat}, i ≤ j → j ≤ ws.length → off ws i ≤ off ws j
  | i, 0, h, _ => by obtain rfl : i = 0 := by omega
                     exact Nat.le_refl _
  | i, j + 1, h, hj => by
    by_cases e : i = j + 1
    · rw [e]; exact Nat.le_refl _
    · have := off_mono ws (show i ≤ j by omega) (by omega)
      rw [off_succ ws (by omega)]
      omega

theorem off_all (ws : List Nat) : off ws ws.length = ws.sum := by unfold off; rw [List.take_length]

theorem off_lt (ws : List Nat) {i : Nat} (h : i < ws.length) : off ws i + wd ws i ≤ ws.sum := by
  rw [← off_succ ws h, ← off_all]; exact off_mono ws (by omega) (Nat.le_refl _)

structure Wr (ws : List Nat) (v : Nat → Nat) (n i j : Nat) (b : List Int) : Prop where
  bytes : Bytes b
  len : b.length = n
  done : ∀ f, f < i → ∀ q, q < wd ws f → bit b (off ws f + q) = v f / 2 ^ (wd ws f - 1 - q) % 2
  part : ∀ q, q < j → bit b (off ws i + q) = v i / 2 ^ (wd ws i - 1 - q) % 2
  rest : ∀ p, off ws i + j ≤ p → bit b p = 0

theorem Wr.step {ws : List Nat} {v : Nat → Nat} {n i j : Nat} {b : List Int} (h : Wr ws v n i j b) (hn : ws.sum ≤ 8 * n) (hi : i < ws.length) (hj : j < wd ws i) : Wr ws v n i (j + 1) (put b (off ws i + j) (v i / 2 ^ (wd ws i - 1 - j) % 2)) := by
  have ha := off_lt ws hi
  obtain ⟨h1, h2, h3⟩ := put_ok h.bytes (p := off ws i + j) (c := v i / 2 ^ (wd ws i - 1 - j) % 2) (by rw [h.len]; omega) (Nat.mod_lt _ (by omega)) (h.rest _ (Nat.le_refl _))
  refine ⟨h1, h2.trans h.len, fun f hf q hq => ?_, fun q hq => ?_, fun p hp => ?_⟩
  · have h4 := off_succ ws (i := f) (by omega)
    have h5 := off_mono ws (show f + 1 ≤ i by omega) (by omega)
    rw [h3, if_neg (by omega)]; exact h.done f hf q hq
  · rw [h3]
    by_cases e : q = j
    · subst e; rw [if_pos rfl]
    · rw [if_neg (by omega)]; exact h.part q (by omega)
  · rw [h3, if_neg (by omega)]; exact h.rest p (by omega)

theorem Wr.next {ws : List Nat} {v : Nat → Nat} {n i : Nat} {b : List Int} (h : Wr ws v n i (wd ws i) b) (hi : i < ws.length) : Wr ws v n (i + 1) 0 b := by
  refine ⟨h.bytes, h.len, fun f hf q hq => ?_, fun q hq => by omega, fun p hp => h.rest p (by rw [off_succ ws hi] at hp; omega)⟩
  by_cases e : f = i
  · subst e; exact h.part q hq
  · exact h.done f (by omega) q hq

theorem bit_zero (n p : Nat) : bit (List.replicate n 0) p = 0 := by
  unfold bit
  have : (List.replicate n (0 : Int)).getD (p / 8) 0 = 0 := by
    rw [List.getD_eq_getElem?_getD, List.getElem?_replicate]
    split <;> rfl
  rw [this]; simp

theorem Wr.start (ws : List Nat) (v : Nat → Nat) (n : Nat) : Wr ws v n 0 0 (List.replicate n 0) :=
  ⟨Bytes.zeros n, by simp, fun f hf => by omega, fun q hq => by omega, fun p _ => bit_zero n p⟩

def flat (v : Nat → Nat) : List Nat → Nat → List Int
  | [], _ => []
  | w :: ws, i => be (v i) (w / 8) ++ flat v ws (i + 1)

theorem flat_len (v : Nat → Nat) : ∀ (ws : List Nat) (i : Nat), (∀ w ∈ ws, w % 8 = 0) → 8 * (flat v ws i).length = ws.sum
  | [], _, _ => rfl
  | w :: ws, i, h => by
    have := flat_len v ws (i + 1) fun x hx => h x (List.mem_cons_of_mem _ hx)
    have := h w List.mem_cons_self
    simp only [flat, List.length_append, be_len, List.sum_cons]
    omega

theorem flat_bytes (v : Nat → Nat) : ∀ (ws : List Nat) (i : Nat), Bytes (flat v ws i)
  | [], _ => Bytes.nil
  | w :: ws, i => (be_bytes _ _).app (flat_bytes v ws (i + 1))

theorem flat_bit (v : Nat → Nat) : ∀ (ws : List Nat) (i : Nat), (∀ w ∈ ws, w % 8 = 0) → ∀ f, f < ws.length → ∀ q, q < wd ws f → bit (flat v ws i) (off ws f + q) = v (i + f) / 2 ^ (wd ws f - 1 - q) % 2
  | [], _, _, f, hf, _, _ => by simp at hf
  | w :: ws, i, h, f, hf, q, hq => by
    have hw := h w List.mem_cons_self
    have hl : 8 * (be (v i) (w / 8)).length = w := by rw [be_len]; omega
    rcases f with _ | f
    · have e1 : off (w :: ws) 0 = 0 := rfl
      have e2 : wd (w :: ws) 0 = w := rfl
      rw [e2] at hq
      rw [e1, e2, Nat.zero_add, flat, bit_app_l _ _ _ (by omega), be_bit _ _ _ (by omega), Nat.add_zero, show 8 * (w / 8) = w by omega]
    · have e1 : off (w :: ws) (f + 1) = w + off ws f := by unfold off; simp
      have e2 : wd (w :: ws) (f + 1) = wd ws f := rfl
      rw [e2] at hq
      have := flat_bit v ws (i + 1) (fun x hx => h x (List.mem_cons_of_mem _ hx)) f (by simpa using hf) q hq
      rw [e1, e2, flat, show w + off ws f + q = 8 * (be (v i) (w / 8)).length + (off ws f + q) by omega, bit_app_r, this, show i + 1 + f = i + (f + 1) by omega]

theorem field : ∀ (ws : List Nat) (p : Nat), p < ws.sum → ∃ f, f < ws.length ∧ ∃ q, q < wd ws f ∧ p = off ws f + q
  | [], p, h => by simp at h
  | w :: ws, p, h => by
    by_cases hp : p < w
    · exact ⟨0, by simp, p, hp, by simp [off]⟩
    · obtain ⟨f, hf, q, hq, e⟩ := field ws (p - w) (by simp at h; omega)
      exact ⟨f + 1, by simp; omega, q, hq, by unfold off at e ⊢; simp; omega⟩

theorem Wr.flat {ws : List Nat} {v : Nat → Nat} {n : Nat} {b : List Int} (h : Wr ws v n ws.length 0 b) (hn : ws.sum = 8 * n) (h8 : ∀ w ∈ ws, w % 8 = 0) : b = flat v ws 0 := by
  have hl := flat_len v ws 0 h8
  refine bits_eq h.bytes (flat_bytes v ws 0) (by rw [h.len]; omega) fun p hp => ?_
  rw [h.len] at hp
  obtain ⟨f, hf, q, hq, rfl⟩ := field ws p (by omega)
  rw [h.done f hf q hq, flat_bit v ws 0 h8 f hf q hq, Nat.zero_add]
end Go.Proofs.Ytjleeabhpfmhaaa
end

section
namespace Go.Proofs.Ytjleeabhpfmhaaa
open Go Go.Proofs.AM

structure Wok (ws : List Nat) (n : Nat) : Prop where
  sum : ws.sum = 8 * n
  pos : ∀ w ∈ ws, 1 ≤ w ∧ w ≤ 64 ∧ w % 8 = 0
  small : n ≤ 1000
  len : ws.length ≤ 64

theorem Wok.wd {ws : List Nat} {n : Nat} (h : Wok ws n) {i : Nat} (hi : i < ws.length) : 1 ≤ wd ws i ∧ wd ws i ≤ 64 ∧ wd ws i % 8 = 0 := h.pos _ (getD_mem hi)

def us (b : List Int) (ws : List Nat) (i : Nat) : List Int := (List.range i).map fun j => ((un b (off ws j) (wd ws j) : Nat) : Int)

end Go.Proofs.Ytjleeabhpfmhaaa
end

section
namespace Go.Proofs.Ytjleeabhpfmhaaa
open Go Go.Proofs.AM

theorem m61_ok (b : List Int) (n k : Nat) (hk : k ≤ 8) (hb : b.length ≤ 1000000) : m61 (b, ((n : Int), ((k : Int), ()))) = some (b ++ be n k) := by
  apply ok_eq
  unfold m61
  dsimp only
  refine Ok.bind (S := fun r => r = b ++ be n k) ?_ (fun r hr => Ok.some hr)
  have e0 : IntKind.wrap .i64 ((k : Int) - 1) = (k : Int) - 1 := wrap64 (by omega) (by omega)
  refine Ok.loop k (fun i x => ∃ c, x = (c, (k : Int) - 1 - (i : Int)) ∧ c ++ be n (k - i) = b ++ be n k ∧ c.length = b.length + i) ⟨b, by rw [e0]; simp, rfl, rfl⟩ ?_
  rintro i x hi ⟨c, rfl, hc, hl⟩
  refine Ok.cond (fun h => ?_) (fun h => ?_)
  rotate_left
  · simp only at h
    obtain rfl : i = k := by omega
    refine Ok.inr ?_
    have : i - i = 0 := by omega
    rw [this] at hc
    rw [← hc]; simp [be]
  simp only at h
  obtain ⟨m, hm⟩ : ∃ m, k - i = m + 1 := ⟨k - i - 1, by omega⟩
  have hk1 : (k : Int) - 1 - (i : Int) = (m : Int) := by omega
  have e8 : IntKind.wrap .i64 ((8 : Int) * (m : Int)) = ((8 * m : Nat) : Int) := by rw [wrap64 (by omega) (by omega)]; push_cast; rfl
  rw [hk1, e8, shr64 _ _ (by omega), wrap8]
  simp only [List.length_cons, List.length_nil]
  refine Ok.gd (by omega) (Ok.gd (by omega) (Ok.gd (by omega) (Ok.inl ⟨by omega, c ++ [((n / 2 ^ (8 * m) % 256 : Nat) : Int)], ?_, ?_, by simp; omega⟩)))
  · rw [wrap64 (by omega) (by omega)]
    refine Prod.ext rfl ?_
    show (m : Int) - 1 = (k : Int) - 1 - ((i + 1 : Nat) : Int)
    omega
  · rw [← hc, hm, show k - (i + 1) = m by omega, be, List.append_assoc]; rfl

theorem m35_ok (b : List Int) (hb : Bytes b) (k : Nat) (hk : k ≤ 8) (hl : k ≤ b.length) : m35 (b, ((k : Int), ())) = some (((val (b.take k) : Nat) : Int), (b.drop k, ())) := by
  apply ok_eq
  unfold m35
  dsimp only
  have e1 : List.take (Int.toNat (k : Int) - Int.toNat 0) (List.drop (Int.toNat 0) b) = b.take k := rfl
  have e2 : List.take (Int.toNat ((b.length : Nat) : Int) - Int.toNat (k : Int)) (List.drop (Int.toNat (k : Int)) b) = b.drop k := by
    rw [Int.toNat_natCast, Int.toNat_natCast]
    exact List.take_of_length_le (by simp)
  simp only [e1, e2]
  have hlen : (b.take k).length = k := by rw [List.length_take]; omega
  have hbt := hb.take k
  refine Ok.gd (by omega) (Ok.gd (by omega) (Ok.bind (S := fun r => r = ((val (b.take k) : Nat) : Int)) ?_ (fun r hr => Ok.gd (by omega) (Ok.gd (by omega) (Ok.gd (by omega) (Ok.some (by rw [hr])))))))
  generalize b.take k = l at *
  refine Ok.loop k (fun i x => x = (((val (l.take i) : Nat) : Int), (i : Int))) rfl ?_
  rintro i x hi rfl
  refine Ok.cond (fun h => ?_) (fun h => ?_)
  rotate_left
  · simp only at h
    obtain rfl : i = k := by omega
    refine Ok.inr ?_
    rw [List.take_of_length_le (by omega)]
  simp only at h
  refine Ok.gd (by omega) (Ok.gd (by omega) (Ok.inl ⟨by omega, ?_⟩))
  simp only [Int.toNat_natCast]
  have hi' : i < l.length := by omega
  obtain ⟨g0, g1⟩ := hbt _ (getD_mem (z := 0) hi')
  obtain ⟨m, hm⟩ : ∃ m : Nat, l.getD i 0 = m := ⟨(l.getD i 0).toNat, by omega⟩
  have hv := val_lt (l.take i) (hbt.take i)
  have hv2 := val_lt (l.take (i + 1)) (hbt.take (i + 1))
  have hs := take_snoc l i hi' 0
  rw [hs, val_snoc, hm, Int.toNat_natCast] at hv2
  have hp : 2 ^ (8 * (l.take i ++ [(m : Int)]).length) ≤ 2 ^ 64 := Nat.pow_le_pow_right (by omega) (by simp; omega)
  rw [hm, wrapU64 (n := (m : Int)) (by omega) (by omega), ioru8 _ _ (by omega) (by omega), hs, val_snoc, hm, Int.toNat_natCast, wsucc (by omega)]

theorem m60_ok (b : List Int) (n : Nat) (h : b.length ≤ n) (hn : n ≤ 1000000) : m60 (b, ((n : Int), ())) = some (b ++ List.replicate (n - b.length) 0) := by
  unfold m60
  have e : IntKind.wrap .i64 ((n : Int) - ((b.length : Nat) : Int)) = ((n - b.length : Nat) : Int) := by rw [wrap64 (by omega) (by omega)]; omega
  simp only [e, Int.toNat_natCast]
  rw [gd_pos (by omega), gd_pos (by simp; omega), gd_pos (by simp; omega)]

def zb (x : Int) : Nat → Nat
  | 0 => 0
  | j + 1 => if iand .u8 (ishr .u8 x (j : Int)) 1 = 0 then zb x j + 1 else zb x j

def Zn (l : List Int) : Nat → Nat
  | 0 => 0
  | i + 1 => Zn l i + zb (l.getD i 0) 8

theorem zb_le (x : Int) : ∀ j, zb x j ≤ j
  | 0 => Nat.le_refl _
  | j + 1 => by unfold zb; have := zb_le x j; split <;> omega

theorem Zn_le (l : List Int) : ∀ i, Zn l i ≤ 8 * i
  | 0 => Nat.le_refl _
  | i + 1 => by unfold Zn; have := Zn_le l i; have := zb_le (l.getD i 0) 8; omega

theorem m92_eq (l : List Int) (hl : l.length ≤ 2000000) : m92 (l, ()) = some (((Zn l l.length : Nat) : Int), ()) := by
  apply ok_eq
  unfold m92
  dsimp only
  refine Ok.bind (S := fun r => r = ((Zn l l.length : Nat) : Int)) ?_ (fun r hr => Ok.some (by rw [hr]))
  refine Ok.loop l.length (fun i x => x = (((Zn l i : Nat) : Int), (i : Int))) rfl ?_
  rintro i x hi rfl
  have hz := Zn_le l i
  refine Ok.cond (fun hc => ?_) (fun hc => ?_)
  rotate_left
  · simp only at hc
    obtain rfl : i = l.length := by omega
    exact Ok.inr rfl
  simp only at hc
  refine Ok.gd (by simp only; omega) (Ok.gd hc (Ok.bind (S := fun r => r = ((Zn l i + zb (l.getD i 0) 8 : Nat) : Int)) ?_ (fun r hr => Ok.inl ⟨by omega, ?_⟩)))
  rotate_left
  · rw [hr, wsucc (by omega)]; rfl
  refine Ok.loop 8 (fun j x => x = (((Zn l i + zb (l.getD i 0) j : Nat) : Int), (j : Int))) rfl ?_
  rintro j x hj rfl
  have hb := zb_le (l.getD i 0) j
  refine Ok.cond (fun hc => ?_) (fun hc => ?_)
  rotate_left
  · simp only at hc
    obtain rfl : j = 8 := by omega
    exact Ok.inr rfl
  simp only at hc
  refine Ok.gd (by simp only; omega) (Ok.cond (fun e => Ok.inl ⟨by omega, ?_⟩) (fun e => Ok.inl ⟨by omega, ?_⟩))
  · simp only [Int.toNat_natCast] at e ⊢
    rw [wsucc (by omega), wsucc (by omega), zb, if_pos e]; rfl
  · simp only [Int.toNat_natCast] at e ⊢
    rw [wsucc (by omega), zb, if_neg e]

theorem shri (v k : Nat) (hk : k ≤ 64) : ishr .i64 (v : Int) (k : Int) = ((v / 2 ^ k : Nat) : Int) := by
  unfold ishr
  have hb : IntKind.i64.bits = 64 := rfl
  rw [hb, Int.toNat_natCast, Nat.min_eq_left hk]
  rw [Int.fdiv_eq_ediv_of_nonneg _ (by exact_mod_cast Nat.zero_le (2 ^ k)), Int.natCast_ediv]
  push_cast
  rfl

theorem four (z : Nat) : (IntKind.wrap .u8 (ishr .i64 (z : Int) 24)) :: (IntKind.wrap .u8 (ishr .i64 (z : Int) 16)) :: (IntKind.wrap .u8 (ishr .i64 (z : Int) 8)) :: (IntKind.wrap .u8 (z : Int)) :: ([] : List Int) = be z 4 := by
  have e24 := shri z 24 (by omega)
  have e16 := shri z 16 (by omega)
  have e8 := shri z 8 (by omega)
  have f24 : ((24 : Nat) : Int) = 24 := rfl
  have f16 : ((16 : Nat) : Int) = 16 := rfl
  have f8 : ((8 : Nat) : Int) = 8 := rfl
  rw [f24] at e24
  rw [f16] at e16
  rw [f8] at e8
  rw [e24, e16, e8, wrap8, wrap8, wrap8, wrap8]
  simp [be]

def sealed (l : List Int) : List Int := l ++ be (Zn l l.length) 4

theorem m80_ok (a b : List Int) (ha : a.length ≤ 2000000) (hb : b.length ≤ 2000000) : m80 ([a, b], ()) = some (a ++ b, ()) := by
  apply ok_eq
  unfold m80
  dsimp only
  have hw1 : IntKind.wrap .i64 ((0 : Int) + ((a.length : Nat) : Int)) = ((a.length : Nat) : Int) := by rw [wrap64 (by omega) (by omega)]; omega
  have hw2 : IntKind.wrap .i64 (((a.length : Nat) : Int) + ((b.length : Nat) : Int)) = ((a.length + b.length : Nat) : Int) := by rw [wrap64 (by omega) (by omega)]; push_cast; rfl
  refine Ok.bind (S := fun r => r = ((a.length + b.length : Nat) : Int)) ?_ (fun r hr => ?_)
  · refine Ok.loop 2 (fun i x => (i = 0 ∧ x = ((0 : Int), (0 : Int))) ∨ (i = 1 ∧ x = (((a.length : Nat) : Int), 1)) ∨ (i = 2 ∧ x = (((a.length + b.length : Nat) : Int), 2))) (.inl ⟨rfl, rfl⟩) ?_
    rintro i x hi (⟨rfl, rfl⟩ | ⟨rfl, rfl⟩ | ⟨rfl, rfl⟩)
    · refine Ok.cond (fun _ => Ok.gd (by simp) (Ok.gd (by simp) (Ok.cond (fun h => absurd h ?_) (fun _ => Ok.inl ⟨by omega, .inr (.inl ⟨rfl, ?_⟩)⟩)))) (fun h => absurd (by simp) h)
      · show ¬ IntKind.wrap .i64 ((0 : Int) + ((a.length : Nat) : Int)) < 0
        rw [hw1]; omega
      · show (IntKind.wrap .i64 ((0 : Int) + ((a.length : Nat) : Int)), _) = _
        rw [hw1]; rfl
    · refine Ok.cond (fun _ => Ok.gd (by simp) (Ok.gd (by simp) (Ok.cond (fun h => absurd h ?_) (fun _ => Ok.inl ⟨by omega, .inr (.inr ⟨rfl, ?_⟩)⟩)))) (fun h => absurd (by simp) h)
      · show ¬ IntKind.wrap .i64 (((a.length : Nat) : Int) + ((b.length : Nat) : Int)) < 0
        rw [hw2]; omega
      · show (IntKind.wrap .i64 (((a.length : Nat) : Int) + ((b.length : Nat) : Int)), _) = _
        rw [hw2]; rfl
    · exact Ok.cond (fun h => absurd h (by simp)) (fun _ => Ok.inr rfl)
  subst hr
  refine Ok.bind (S := fun _ => True) (Ok.gd (by omega) (Ok.gd (by omega) (Ok.gd (by omega) (Ok.some trivial)))) (fun r _ => ?_)
  refine Ok.bind (S := fun r => r = a ++ b) ?_ (fun r hr => Ok.some (by rw [hr]))
  refine Ok.loop 2 (fun i x => (i = 0 ∧ x = (([] : List Int), (0 : Int))) ∨ (i = 1 ∧ x = (a, 1)) ∨ (i = 2 ∧ x = (a ++ b, 2))) (.inl ⟨rfl, rfl⟩) ?_
  rintro i x hi (⟨rfl, rfl⟩ | ⟨rfl, rfl⟩ | ⟨rfl, rfl⟩)
  · refine Ok.cond (fun _ => Ok.gd (by simp) (Ok.gd (by simp) (Ok.gd ?_ (Ok.gd ?_ (Ok.inl ⟨by omega, .inr (.inl ⟨rfl, rfl⟩)⟩))))) (fun h => absurd (by simp) h)
    · show ((([] : List Int).length + a.length) * 1) ≤ 140737488355328
      simp; omega
    · show (([] : List Int).length + a.length) ≤ 140737488355328
      simp; omega
  · refine Ok.cond (fun _ => Ok.gd (by simp) (Ok.gd (by simp) (Ok.gd ?_ (Ok.gd ?_ (Ok.inl ⟨by omega, .inr (.inr ⟨rfl, rfl⟩)⟩))))) (fun h => absurd (by simp) h)
    · show ((a.length + b.length) * 1) ≤ 140737488355328
      omega
    · show (a.length + b.length) ≤ 140737488355328
      omega
  · exact Ok.cond (fun h => absurd h (by simp)) (fun _ => Ok.inr rfl)

theorem m81_ok (l : List Int) (hl : l.length ≤ 1048576) : m81 (l, ()) = some (be (Zn l l.length) 4, ()) := by
  unfold m81
  rw [m92_eq l (by omega)]
  simp only [Option.bind_some]
  rw [four]

theorem m59_ok (l : List Int) (hl : l.length ≤ 1048576) : m59 (l, ()) = some (sealed l, (0, ())) := by
  unfold m59
  have h : ¬ (((List.length l : Nat) : Int) > 1048576) := by omega
  simp only [decide_eq_false h, cond_false]
  rw [m81_ok l hl]
  simp only [Option.bind_some]
  rw [m80_ok _ _ (by omega) (by rw [be_len]; omega)]
  rfl

end Go.Proofs.Ytjleeabhpfmhaaa
end

section
namespace Go.Proofs.Ytjleeabhpfmhaaa
open Go Go.Proofs.AM

theorem streq_iff (a b : ByteArray) : streq a b = true ↔ a = b := by
  obtain ⟨a⟩ := a
  obtain ⟨b⟩ := b
  show (a == b) = true ↔ _
  rw [beq_iff_eq]
  simp

theorem ofNums_inj {a b : List Int} (ha : Bytes a) (hb : Bytes b) : streq (strOfNums a) (strOfNums b) = true ↔ a = b := by
  constructor
  · intro h
    have h2 : strOfNums a = strOfNums b := (streq_iff _ _).1 h
    have h3 : (strOfNums a).data.toList = (strOfNums b).data.toList := by rw [h2]
    rw [strOfNums_data, strOfNums_data] at h3
    have hl : a.length = b.length := by have := congrArg List.length h3; simpa using this
    apply List.ext_getElem hl
    intro i i1 i2
    have h4 : (a.map fun n => UInt8.ofNat n.toNat)[i]'(by simpa using i1) = (b.map fun n => UInt8.ofNat n.toNat)[i]'(by simpa using i2) := by simp only [h3]
    rw [List.getElem_map, List.getElem_map] at h4
    have h5 := congrArg UInt8.toNat h4
    obtain ⟨a0, a1⟩ := ha _ (List.getElem_mem i1)
    obtain ⟨b0, b1⟩ := hb _ (List.getElem_mem i2)
    simp only [UInt8.toNat_ofNat'] at h5
    omega
  · rintro rfl; exact (streq_iff _ _).2 rfl

def Seal (l : List Int) : Prop :=
  4 ≤ l.length ∧ l.length ≤ 1048580 ∧ (¬ ∀ i, i < l.length → l.getD i 0 = 255) ∧ val (l.drop (l.length - 4)) = Zn (l.take (l.length - 4)) (l.length - 4)

def sup (s q : Nat) : List Int := be 1397508656 4 ++ be s 4 ++ be q 8 ++ List.replicate 236 0
def supF (s q : Nat) : List Int := sealed (sup s q)

theorem sup_len (s q : Nat) : (sup s q).length = 252 := by simp [sup, be_len]
theorem sup_bytes (s q : Nat) : Bytes (sup s q) := (((be_bytes _ _).app (be_bytes _ _)).app (be_bytes _ _)).app (Bytes.zeros _)
theorem sealed_len (l : List Int) : (sealed l).length = l.length + 4 := by simp [sealed, be_len]
theorem sealed_bytes {l : List Int} (h : Bytes l) : Bytes (sealed l) := h.app (be_bytes _ _)

def okS (s q : Int) : Prop := 0 ≤ s ∧ s < 64 ∧ 1 ≤ q ∧ q ≤ 281474976710656
instance (s q : Int) : Decidable (okS s q) := by unfold okS; exact inferInstance

theorem m58_ok (q : Int) : m58 (q, ()) = some (decide (1 ≤ q ∧ q ≤ 281474976710656), ()) := by
  unfold m58
  dsimp only
  by_cases h : q ≥ 1
  · rw [decide_eq_true h, cond_true]
    have : decide (q ≤ 281474976710656) = decide (1 ≤ q ∧ q ≤ 281474976710656) := by
      apply decide_eq_decide.2; constructor
      · intro h2; exact ⟨h, h2⟩
      · intro h2; exact h2.2
    rw [this]
  · rw [decide_eq_false h, cond_false, decide_eq_false (fun h2 => h h2.1)]

theorem m36_ok (s q : Int) : m36 ((s, q), ()) = some (if okS s q then (supF s.toNat q.toNat, (0, ())) else ([], (1, ()))) := by
  apply ok_eq
  unfold m36
  dsimp only
  refine Ok.cond (fun h => Ok.some ?_) (fun h1 => Ok.cond (fun h => Ok.some ?_) (fun h2 => ?_))
  · rw [if_neg (fun h2 => by have := h2.1; omega)]
  · rw [if_neg (fun h2 => by have := h2.2.1; omega)]
  rw [m58_ok]
  simp only [Option.bind_some]
  refine Ok.ncond (fun h => Ok.some ?_) (fun h3 => ?_)
  · rw [if_neg (fun h2 => h ⟨h2.2.2.1, h2.2.2.2⟩)]
  have hok : okS s q := ⟨by omega, by omega, h3.1, h3.2⟩
  rw [if_pos hok]
  obtain ⟨s, rfl⟩ : ∃ n : Nat, s = n := ⟨s.toNat, by omega⟩
  obtain ⟨q, rfl⟩ : ∃ n : Nat, q = n := ⟨q.toNat, by omega⟩
  have a1 := m61_ok [] 1397508656 4 (by omega) (by simp)
  have a2 := m61_ok ([] ++ be 1397508656 4) s 4 (by omega) (by simp [be_len])
  have a3 := m61_ok ([] ++ be 1397508656 4 ++ be s 4) q 8 (by omega) (by simp [be_len])
  have a4 := m60_ok ([] ++ be 1397508656 4 ++ be s 4 ++ be q 8) 252 (by simp [be_len]) (by omega)
  have hsup : [] ++ be 1397508656 4 ++ be s 4 ++ be q 8 ++ List.replicate (252 - ([] ++ be 1397508656 4 ++ be s 4 ++ be q 8).length) 0 = sup s q := by
    simp [sup, be_len]
  rw [hsup] at a4
  have b1 : m61 ([], ((1397508656 : Int), ((4 : Int), ()))) = some ([] ++ be 1397508656 4) := a1
  have b2 : m61 ([] ++ be 1397508656 4, ((s : Int), ((4 : Int), ()))) = some ([] ++ be 1397508656 4 ++ be s 4) := a2
  have b3 : m61 ([] ++ be 1397508656 4 ++ be s 4, ((q : Int), ((8 : Int), ()))) = some ([] ++ be 1397508656 4 ++ be s 4 ++ be q 8) := a3
  have b4 : m60 ([] ++ be 1397508656 4 ++ be s 4 ++ be q 8, ((252 : Int), ())) = some (sup s q) := a4
  rw [wrapU64 (by omega) (by omega), wrapU64 (by omega) (by omega), b1]
  simp only [Option.bind_some]
  rw [b2]
  simp only [Option.bind_some]
  rw [b3]
  simp only [Option.bind_some]
  rw [b4]
  simp only [Option.bind_some]
  rw [m59_ok _ (by rw [sup_len]; omega)]
  exact Ok.some rfl

open Classical in
noncomputable def dsup (b : List Int) : (Int × Int) × (Int × Unit) :=
  if b.length = 256 ∧ okS (val ((b.drop 4).take 4)) (val ((b.drop 8).take 8)) ∧ supF (val ((b.drop 4).take 4)) (val ((b.drop 8).take 8)) = b then (((val ((b.drop 4).take 4) : Nat), (val ((b.drop 8).take 8) : Nat)), (0, ())) else ((0, 0), (170, ()))

theorem wrap_neg {n : Nat} (h : 9223372036854775808 ≤ n) (h2 : n < 18446744073709551616) : IntKind.wrap .i64 (n : Int) = (n : Int) - 18446744073709551616 := by
  have e1 : IntKind.bits .i64 = 64 := rfl
  have e2 : IntKind.signed .i64 = true := rfl
  simp only [IntKind.wrap, e1, e2, Bool.true_and, Nat.add_one_sub_one]
  split <;> rename_i h <;> simp at h <;> omega

theorem okS_wrap (s q : Nat) (hq : q < 18446744073709551616) : (okS (s : Int) (IntKind.wrap .i64 (q : Int)) ↔ okS (s : Int) (q : Int)) ∧ (okS (s : Int) (q : Int) → IntKind.wrap .i64 (q : Int) = q) := by
  by_cases h : q < 9223372036854775808
  · have e : IntKind.wrap .i64 (q : Int) = q := wrap64 (by omega) (by omega)
    rw [e]; exact ⟨Iff.rfl, fun _ => rfl⟩
  · have e := wrap_neg (show 9223372036854775808 ≤ q by omega) hq
    rw [e]
    refine ⟨⟨fun h2 => ?_, fun h2 => ?_⟩, fun h2 => ?_⟩
    · have := h2.2.2.1; omega
    · have := h2.2.2.2; omega
    · have := h2.2.2.2; omega

theorem val_lt' {l : List Int} (h : Bytes l) {k : Nat} (hl : l.length ≤ k) : val l < 2 ^ (8 * k) := Nat.lt_of_lt_of_le (val_lt l h) (Nat.pow_le_pow_right (by omega) (by omega))

theorem m23_ok (b : List Int) (hb : Bytes b) : m23 (b, ()) = some (dsup b) := by
  apply ok_eq
  unfold m23
  dsimp only
  refine Ok.ncond (fun h => Ok.some ?_) (fun h => ?_)
  · unfold dsup; rw [if_neg (fun h2 => h (by rw [h2.1]; rfl))]
  have hl : b.length = 256 := by omega
  have e4 : List.take (Int.toNat ((b.length : Nat) : Int) - Int.toNat 4) (List.drop (Int.toNat 4) b) = b.drop 4 := by
    rw [Int.toNat_natCast]
    exact List.take_of_length_le (by simp)
  refine Ok.gd (by omega) (Ok.gd (by omega) ?_)
  rw [e4]
  have a1 : m35 (b.drop 4, ((4 : Int), ())) = some (((val ((b.drop 4).take 4) : Nat) : Int), (b.drop 8, ())) := by
    have := m35_ok (b.drop 4) (hb.drop 4) 4 (by omega) (by simp; omega)
    rw [List.drop_drop] at this
    exact this
  have a2 : m35 (b.drop 8, ((8 : Int), ())) = some (((val ((b.drop 8).take 8) : Nat) : Int), (b.drop 16, ())) := by
    have := m35_ok (b.drop 8) (hb.drop 8) 8 (by omega) (by simp; omega)
    rw [List.drop_drop] at this
    exact this
  rw [a1]
  simp only [Option.bind_some]
  rw [a2]
  simp only [Option.bind_some]
  have v1 := val_lt' ((hb.drop 4).take 4) (k := 4) (by simp; omega)
  have v2 := val_lt' ((hb.drop 8).take 8) (k := 8) (by simp; omega)
  unfold dsup
  generalize val ((b.drop 4).take 4) = s at *
  generalize val ((b.drop 8).take 8) = q at *
  obtain ⟨w1, w2⟩ := okS_wrap s q v2
  rw [wrap64 (n := (s : Int)) (by omega) (by omega), m36_ok]
  simp only [Option.bind_some]
  by_cases hok : okS (s : Int) (q : Int)
  · rw [w2 hok, if_pos hok]
    simp only [Int.toNat_natCast]
    refine Ok.ncond (fun h => (h (by simp)).elim) (fun _ => ?_)
    unfold m37
    simp only [Option.bind_some]
    have hin : streq (strOfNums (supF s q)) (strOfNums b) = true ↔ supF s q = b := ofNums_inj (sealed_bytes (sup_bytes s q)) hb
    refine Ok.condb (fun h => Ok.some ?_) (fun h => Ok.some ?_)
    · rw [if_neg]
      rintro ⟨_, _, h3⟩
      have := hin.2 h3
      rw [this] at h; simp at h
    · rw [if_pos ⟨hl, hok, hin.1 (by simpa using h)⟩]
  · rw [if_neg (fun h => hok (w1.1 h))]
    refine Ok.ncond (fun _ => Ok.some ?_) (fun h => absurd h (by decide))
    rw [if_neg (fun h => hok h.2.1)]

end Go.Proofs.Ytjleeabhpfmhaaa
end

section
open Go Go.Proofs.AM
namespace Go.Proofs.Ytjleeabhpfmhaaa

end Go.Proofs.Ytjleeabhpfmhaaa
end

section
open Go Go.Proofs.AM
namespace Go.Proofs.Ytjleeabhpfmhaaa

end Go.Proofs.Ytjleeabhpfmhaaa
end

section
open Go Go.Proofs.AM
namespace Go.Proofs.Ytjleeabhpfmhaaa

end Go.Proofs.Ytjleeabhpfmhaaa
end

section
namespace Go.Proofs.Ytjleeabhpfmhaaa
open Go Go.Proofs.AM

theorem m52_ok (l : List Int) (hl : l.length ≤ 140737488355328) : m52 (l, ()) = some (l, ()) := by
  have e2 : gd ((((List.length ([] : List Int)) + (List.length l)) * 1) ≤ 140737488355328) (gd (((List.length ([] : List Int)) + (List.length l)) ≤ 140737488355328) (some ((([] : List Int) ++ l), ()))) = some (l, ()) := by
    rw [gd_pos (by simp; omega), gd_pos (by simp; omega)]; rfl
  have e1 : (bif (decide ((((List.length l) : Nat) : Int) = (0 : Int))) then
      (some (([] : List Int), ()))
    else
      (gd ((((List.length ([] : List Int)) + (List.length l)) * 1) ≤ 140737488355328) (gd (((List.length ([] : List Int)) + (List.length l)) ≤ 140737488355328) (some ((([] : List Int) ++ l), ()))))) = some (l, ()) := by
    rw [e2]
    by_cases h : ((l.length : Nat) : Int) = 0
    · have : l = [] := List.length_eq_zero_iff.1 (by omega)
      rw [decide_eq_true h, this]; rfl
    · rw [decide_eq_false h]; rfl
  unfold m52
  dsimp only
  rw [e1, e2]
  unfold both
  rw [if_pos rfl]

end Go.Proofs.Ytjleeabhpfmhaaa
end

section
namespace Go.Proofs.Ytjleeabhpfmhaaa
open Go Go.Proofs.AM

theorem drop_len {A : Type} (a b : List A) (n : Nat) (h : a.length = n) : (a ++ b).drop n = b := by rw [← h, List.drop_left]
theorem take_len {A : Type} (a b : List A) (n : Nat) (h : a.length = n) : (a ++ b).take n = a := by rw [← h, List.take_left]

abbrev DK := (List (List Int)) × ((List Bool) × (Bool × (Bool × (Int × (Int × (List (Int × (List Int))))))))
def D (S : List (List Int)) (w : Int) (g : List (Int × List Int)) : DK := (S, (List.replicate 20 false, (false, (false, (0, (w, g))))))
def Z : List Int := List.replicate 256 0

theorem m137_D (S : List (List Int)) (w : Int) (g : List (Int × List Int)) (h : S.length = 20) : m137 (D S w g, ()) = some (D S w g, (20, ())) := by
  apply ok_eq
  unfold m137 D
  dsimp only
  refine Ok.cond (fun h2 => absurd h2 (by omega)) (fun _ => Ok.some ?_)
  rw [h]; rfl

theorem m134_D (S : List (List Int)) (w : Int) (g : List (Int × List Int)) (h : S.length = 20) : m134 (D S w g, ()) = some (D S w g, (0, ())) := by
  apply ok_eq
  unfold m134 D
  dsimp only
  refine Ok.cond (fun h2 => absurd h2 (by omega)) (fun _ => Ok.some rfl)

theorem m135_D (S : List (List Int)) (w : Int) (g : List (Int × List Int)) (h : S.length = 20) (hS : ∀ b ∈ S, b.length = 256) (i : Nat) (hi : i < 20) : m135 (D S w g, ((i : Int), ())) = some (D S w g, (S.getD i [], (0, ()))) := by
  apply ok_eq
  unfold m135 D
  dsimp only
  have hrl : (List.replicate 20 false).length = 20 := List.length_replicate
  refine Ok.cond (fun h2 => absurd h2 (by omega)) (fun _ => Ok.condb (fun h => by simp at h) (fun _ => Ok.cond (fun _ => Ok.ncond (fun h2 => absurd (by omega) h2) (fun _ => ?_)) (fun h2 => absurd (by omega) h2)))
  refine Ok.gd (by omega) (Ok.gd (by rw [hrl]; omega) (Ok.gd (by rw [hrl]; omega) (Ok.condb (fun h2 => ?_) (fun _ => Ok.gd (by omega) (Ok.gd (by omega) (Ok.gd (by omega) ?_))))))
  · rw [List.getD_eq_getElem?_getD, List.getElem?_replicate] at h2
    split at h2 <;> simp at h2
  · simp only [Int.toNat_natCast]
    have := hS _ (getD_mem (z := []) (show i < S.length by omega))
    rw [m52_ok _ (by omega)]
    exact Ok.some rfl

theorem m138_D (S : List (List Int)) (h : S.length = 20) (b : List Int) (hb : b.length = 256) : m138 (D S 0 [], ((2 : Int), (b, ()))) = some (D (S.set 2 b) 1 [(2, b)], (0, ())) := by
  apply ok_eq
  unfold m138 D
  dsimp only
  have hrl : (List.replicate 20 false).length = 20 := List.length_replicate
  refine Ok.cond (fun h2 => absurd h2 (by omega)) (fun _ => Ok.condb (fun h => by simp at h) (fun _ => Ok.cond (fun _ => Ok.ncond (fun h2 => absurd (by omega) h2) (fun _ => Ok.ncond (fun h2 => absurd (by omega) h2) (fun _ => Ok.condb (fun h => by simp at h) (fun _ => ?_)))) (fun h2 => absurd (by omega) h2)))
  rw [m52_ok b (by omega)]
  simp only [Option.bind_some]
  refine Ok.gd (by omega) (Ok.gd (by omega) (Ok.gd (by rw [h]; decide) (Ok.gd (by omega) (Ok.gd (by rw [hrl]; decide) (Ok.gd (by rw [hrl]; decide) ?_)))))
  simp only [List.nil_append, List.length_cons, List.length_nil]
  have hw : IntKind.wrap .i64 ((((0 + 1 : Nat) : Int)) - 1024) = -1023 := by rw [wrap64 (by omega) (by omega)]; rfl
  simp only [hw, show ¬ ((-1023 : Int) > 0) by decide, if_false]
  refine Ok.gd (by omega) (Ok.gd (by omega) (Ok.gd (by omega) (Ok.gd (by omega) (Ok.gd (by omega) (Ok.some ?_)))))
  rfl

theorem supF_parts (s q : Nat) : ((supF s q).drop 4).take 4 = be s 4 ∧ ((supF s q).drop 8).take 8 = be q 8 := by
  have e : ∃ z, supF s q = be 1397508656 4 ++ (be s 4 ++ (be q 8 ++ z)) := ⟨List.replicate 236 0 ++ be (Zn (sup s q) (sup s q).length) 4, by simp only [supF, sealed, sup, List.append_assoc]⟩
  obtain ⟨z, e⟩ := e
  have d4 : (supF s q).drop 4 = be s 4 ++ (be q 8 ++ z) := by rw [e, drop_len _ _ _ (be_len _ _)]
  refine ⟨by rw [d4, take_len _ _ _ (be_len _ _)], ?_⟩
  rw [show (8 : Nat) = 4 + 4 from rfl, ← List.drop_drop, d4, drop_len _ _ _ (be_len _ _), take_len _ _ _ (be_len _ _)]

theorem dsup_supF (s q : Nat) (h : okS s q) : dsup (supF s q) = (((s : Int), (q : Int)), (0, ())) := by
  obtain ⟨e1, e2⟩ := supF_parts s q
  obtain ⟨s0, s1, q0, q1⟩ := h
  have v1 : val (be s 4) = s := val_be (by omega)
  have v2 : val (be q 8) = q := val_be (by omega)
  unfold dsup
  rw [e1, e2, v1, v2]
  rw [if_pos ⟨by rw [supF, sealed_len, sup_len], ⟨s0, s1, q0, q1⟩, rfl⟩]

theorem Z_bytes : Bytes Z := Bytes.zeros _

theorem m7_live (l : List (List Int)) (hl : l.length = 16) (hb : ∀ b ∈ l, Bytes b ∧ b.length = 256) (h0 : l.getD 0 [] = supF 0 1) : m7 (l, ()) = some (([], (1, 1)), (0, ())) := by
  apply ok_eq
  unfold m7
  dsimp only
  have hd : dsup (l.getD 0 []) = (((0 : Int), (1 : Int)), (0, ())) := by rw [h0]; exact dsup_supF 0 1 ⟨by decide, by decide, by decide, by decide⟩
  have e0 : (l.getD (Int.toNat 0) []) = l.getD 0 [] := rfl
  refine Ok.cond (fun _ => Ok.ncond (fun h => absurd (by omega) h) (fun _ => Ok.gd (by omega) ?_)) (fun h => absurd (by omega) h)
  rw [e0, m23_ok _ (hb _ (getD_mem (z := []) (by omega))).1, hd]
  simp only [Option.bind_some]
  refine Ok.ncond (fun h => (h (by simp)).elim) (fun _ => Ok.cond (fun h => absurd h (by omega)) (fun _ => Ok.cond (fun _ => Ok.some rfl) (fun h => (h (by simp)).elim)))

def rd (S : List (List Int)) (k : Nat) : List (List Int) := (List.range k).map fun j => S.getD (2 + j) []
theorem rd_succ (S : List (List Int)) (k : Nat) : rd S (k + 1) = rd S k ++ [S.getD (2 + k) []] := by unfold rd; rw [List.range_succ, List.map_append]; rfl
theorem rd_len (S : List (List Int)) (k : Nat) : (rd S k).length = k := by simp [rd]

theorem m6_ok : m6 () = some (true, ()) := by
  apply ok_eq
  unfold m6
  refine Ok.gd (by decide) ?_
  refine Ok.bind (S := fun r => r = D (List.replicate 20 Z) 0 []) ?_ (fun r hr => ?_)
  · refine Ok.loop 20 (fun i x => x = ((i : Int), D (List.replicate i Z) 0 [])) rfl ?_
    rintro i x hi rfl
    refine Ok.cond (fun hc => ?_) (fun hc => ?_)
    rotate_left
    · obtain rfl : i = 20 := by simp only at hc; omega
      exact Ok.inr rfl
    have hi' : i < 20 := by simp only at hc; omega
    have hZ : List.replicate (Int.toNat 256) (0 : Int) = Z := rfl
    have hl : (List.replicate i Z).length = i := List.length_replicate
    unfold D
    simp only [hZ, List.length_cons, List.length_nil, hl]
    refine Ok.gd (by decide) (Ok.gd (by omega) (Ok.gd (by omega) (Ok.inl ⟨hi', ?_⟩)))
    rw [wsucc (by omega), ← List.replicate_succ']
  subst hr
  have hS0 : (List.replicate 20 Z).length = 20 := List.length_replicate
  have h10 : m10 ((16 : Int), ((15 : Int), ((1 : Int), ()))) = some (1, ()) := by unfold m10; rfl
  rw [h10]
  simp only [Option.bind_some]
  refine Ok.ncond (fun h => (h (by simp)).elim) (fun _ => ?_)
  rw [m137_D _ _ _ hS0]
  simp only [Option.bind_some]
  have hw : IntKind.wrap .i64 ((20 : Int) - 16) = 4 := rfl
  rw [hw]
  refine Ok.cond (fun h => absurd h (by decide)) (fun _ => ?_)
  have h36 : m36 (((0 : Int), (1 : Int)), ()) = some (supF 0 1, (0, ())) := by
    rw [m36_ok, if_pos ⟨by decide, by decide, by decide, by decide⟩]; rfl
  rw [h36]
  simp only [Option.bind_some]
  refine Ok.ncond (fun h => (h (by simp)).elim) (fun _ => ?_)
  have hsl : (supF 0 1).length = 256 := by rw [supF, sealed_len, sup_len]
  have hsb : Bytes (supF 0 1) := sealed_bytes (sup_bytes 0 1)
  rw [m138_D _ hS0 _ hsl]
  simp only [Option.bind_some]
  refine Ok.ncond (fun h => (h (by simp)).elim) (fun _ => ?_)
  have hS1 : ((List.replicate 20 Z).set 2 (supF 0 1)).length = 20 := by rw [List.length_set, hS0]
  have hSb : ∀ b ∈ (List.replicate 20 Z).set 2 (supF 0 1), Bytes b ∧ b.length = 256 := by
    intro b hb
    rcases List.mem_or_eq_of_mem_set hb with h | h
    · rw [List.eq_of_mem_replicate h]; exact ⟨Z_bytes, List.length_replicate⟩
    · rw [h]; exact ⟨hsb, hsl⟩
  have hS2 : ((List.replicate 20 Z).set 2 (supF 0 1)).getD 2 [] = supF 0 1 := by
    rw [List.getD_eq_getElem?_getD, List.getElem?_set, if_pos rfl, if_pos (by rw [hS0]; decide)]; rfl
  generalize (List.replicate 20 Z).set 2 (supF 0 1) = S at *
  rw [m134_D _ _ _ hS1]
  simp only [Option.bind_some]
  rw [m137_D _ _ _ hS1]
  simp only [Option.bind_some]
  rw [hw]
  refine Ok.cond (fun h => absurd h (by decide)) (fun _ => ?_)
  refine Ok.bind (S := fun r => r = .inl (rd S 16, D S 1 [(2, supF 0 1)])) ?_ (fun r hr => ?_)
  · refine Ok.loop 16 (fun i x => x = (rd S i, ((i : Int), D S 1 [(2, supF 0 1)]))) rfl ?_
    rintro i x hi rfl
    refine Ok.cond (fun hc => ?_) (fun hc => ?_)
    rotate_left
    · obtain rfl : i = 16 := by simp only at hc; omega
      exact Ok.inr rfl
    have hi' : i < 16 := by simp only at hc; omega
    have hwi : IntKind.wrap .i64 ((2 : Int) + (i : Int)) = ((2 + i : Nat) : Int) := by rw [wrap64 (by omega) (by omega)]; push_cast; rfl
    dsimp only
    rw [hwi, m135_D _ _ _ hS1 (fun b hb => (hSb b hb).2) (2 + i) (by omega)]
    simp only [Option.bind_some]
    refine Ok.ncond (fun h => (h (by simp)).elim) (fun _ => ?_)
    have hl := rd_len S i
    simp only [List.length_cons, List.length_nil, hl]
    refine Ok.gd (by omega) (Ok.gd (by omega) (Ok.inl ⟨hi', ?_⟩))
    rw [wsucc (by omega), rd_succ]
  subst hr
  have h7 := m7_live (rd S 16) (rd_len S 16) (fun b hb => by
    unfold rd at hb
    obtain ⟨j, hj, rfl⟩ := List.mem_map.1 hb
    have hj := List.mem_range.1 hj
    exact hSb _ (getD_mem (by omega))) hS2
  refine Ok.elim (fun y hy => ?_) (fun y hy => by simp at hy)
  simp only [Sum.inl.injEq] at hy
  subst hy
  refine Ok.ncond (fun h => (h (by simp)).elim) (fun _ => Ok.ncond (fun h => (h (by show ((List.length (rd S 16) : Nat) : Int) = 16; rw [rd_len]; rfl)).elim) (fun _ => ?_))
  dsimp only
  rw [h7]
  exact Ok.some rfl
end Go.Proofs.Ytjleeabhpfmhaaa
end

section
open Go Go.Proofs.AM
namespace Go.Proofs.Ytjleeabhpfmhaaa

end Go.Proofs.Ytjleeabhpfmhaaa
end

section
open Go Go.Proofs.AM
namespace Go.Proofs.Ytjleeabhpfmhaaa

end Go.Proofs.Ytjleeabhpfmhaaa
end

section
namespace Go.Proofs.Ytjleeabhpfmhaaa
open Go Go.Proofs.AM

def isBlk (n : Int) : Prop := 0 ≤ n ∧ n < 8192
instance (n : Int) : Decidable (isBlk n) := by unfold isBlk; exact inferInstance

theorem m75_ok (n : Int) : m75 (n, ()) = some (decide (isBlk n), ()) := by
  unfold m75
  dsimp only
  by_cases h : n ≥ 0
  · rw [decide_eq_true h, cond_true]
    have : decide (n < 8192) = decide (isBlk n) := decide_eq_decide.2 ⟨fun h2 => ⟨h, h2⟩, fun h2 => h2.2⟩
    rw [this]
  · rw [decide_eq_false h, cond_false, decide_eq_false (fun h2 : isBlk n => h h2.1)]

theorem m57_ok (n : Int) : m57 (n, ()) = some (decide (isBlk n), ()) := by
  unfold m57
  dsimp only
  by_cases h : n ≥ 0
  · rw [decide_eq_true h, cond_true]
    have : decide (n < 8192) = decide (isBlk n) := decide_eq_decide.2 ⟨fun h2 => ⟨h, h2⟩, fun h2 => h2.2⟩
    rw [this]
  · rw [decide_eq_false h, cond_false, decide_eq_false (fun h2 : isBlk n => h h2.1)]

end Go.Proofs.Ytjleeabhpfmhaaa
end

section
namespace Go.Proofs.Ytjleeabhpfmhaaa
open Go Go.Proofs.AM

abbrev TX := Int × ((List (Int × (List Int))) × (List Int))

def num (t : TX) (j : Nat) : Int := if j < t.2.1.length then (t.2.1.getD j (0, [])).1 else t.2.2.getD (j - t.2.1.length) 0
def tot (t : TX) : Nat := t.2.1.length + t.2.2.length
def size (t : TX) : Nat := (t.2.2.length + 59) / 60 + (t.2.1.length + 47) / 48 + t.2.1.length + 1

def GoodT (t : TX) (i : Nat) : Prop :=
  (∀ j, j < i → isBlk (num t j)) ∧ (∀ j, j < i → j < t.2.1.length → (t.2.1.getD j (0, [])).2.length = 256) ∧ (∀ j k, j < k → k < i → num t j ≠ num t k)

theorem GoodT.zero (t : TX) : GoodT t 0 := ⟨fun j h => by omega, fun j h => by omega, fun j k _ h => by omega⟩
theorem GoodT.mono {t : TX} {i j : Nat} (h : GoodT t i) (hj : j ≤ i) : GoodT t j := ⟨fun k hk => h.1 k (by omega), fun k hk => h.2.1 k (by omega), fun k m h1 h2 => h.2.2 k m h1 (by omega)⟩
theorem GoodT.succ {t : TX} {i : Nat} (h : GoodT t i) (h1 : isBlk (num t i)) (h2 : i < t.2.1.length → (t.2.1.getD i (0, [])).2.length = 256) (h3 : ∀ j, j < i → num t j ≠ num t i) : GoodT t (i + 1) := by
  refine ⟨fun j hj => ?_, fun j hj hw => ?_, fun j k hjk hk => ?_⟩
  · by_cases e : j = i
    · subst e; exact h1
    · exact h.1 j (by omega)
  · by_cases e : j = i
    · subst e; exact h2 hw
    · exact h.2.1 j (by omega) hw
  · by_cases e : k = i
    · subst e; exact h3 j hjk
    · exact h.2.2 j k hjk (by omega)

def okT (t : TX) : Prop := (1 ≤ t.1 ∧ t.1 ≤ 281474976710656) ∧ tot t ≠ 0 ∧ size t ≤ 63 ∧ GoodT t (tot t)

theorem okT_facts {t : TX} (h : okT t) : t.2.1.length ≤ 62 ∧ t.2.2.length ≤ 3720 := by
  have := h.2.2.1
  unfold size at this
  omega

theorem tdiv60 (p : Nat) : Int.tdiv (p : Int) 60 = ((p / 60 : Nat) : Int) := rfl
theorem tdiv48 (p : Nat) : Int.tdiv (p : Int) 48 = ((p / 48 : Nat) : Int) := rfl

theorem ceil60 {n : Nat} (h : n ≤ 140737488355328) : IntKind.wrap .i64 (Int.tdiv (IntKind.wrap .i64 (IntKind.wrap .i64 ((n : Int) + 60) - 1)) 60) = (((n + 59) / 60 : Nat) : Int) := by
  rw [wrap64 (n := (n : Int) + 60) (by omega) (by omega), show (n : Int) + 60 - 1 = ((n + 59 : Nat) : Int) by omega, wrap64 (n := ((n + 59 : Nat) : Int)) (by omega) (by omega), tdiv60, wrap64 (by omega) (by omega)]
theorem ceil48 {n : Nat} (h : n ≤ 140737488355328) : IntKind.wrap .i64 (Int.tdiv (IntKind.wrap .i64 (IntKind.wrap .i64 ((n : Int) + 48) - 1)) 48) = (((n + 47) / 48 : Nat) : Int) := by
  rw [wrap64 (n := (n : Int) + 48) (by omega) (by omega), show (n : Int) + 48 - 1 = ((n + 47 : Nat) : Int) by omega, wrap64 (n := ((n + 47 : Nat) : Int)) (by omega) (by omega), tdiv48, wrap64 (by omega) (by omega)]

theorem m73_ok (t : TX) (hw : t.2.1.length ≤ 140737488355328) (hr : t.2.2.length ≤ 140737488355328) : m73 (t, ()) = some (((size t : Nat) : Int), ()) := by
  unfold m73 m87
  simp only [show ¬ ((60 : Int) = 0) by decide, show ¬ ((48 : Int) = 0) by decide, if_false, Option.bind_some]
  rw [ceil60 hr, ceil48 hw]
  unfold size
  rw [wrap64 (n := (((t.2.2.length + 59) / 60 : Nat) : Int) + (((t.2.1.length + 47) / 48 : Nat) : Int)) (by omega) (by omega), wrap64 (n := (((t.2.2.length + 59) / 60 : Nat) : Int) + (((t.2.1.length + 47) / 48 : Nat) : Int) + ((t.2.1.length : Nat) : Int)) (by omega) (by omega),
    wrap64 (n := (((t.2.2.length + 59) / 60 : Nat) : Int) + (((t.2.1.length + 47) / 48 : Nat) : Int) + ((t.2.1.length : Nat) : Int) + 1) (by omega) (by omega)]
  push_cast; rfl

theorem m56_ok (t : TX) (hw : t.2.1.length ≤ 140737488355328) (hr : t.2.2.length ≤ 140737488355328) : m56 (t, ()) = some (((size t : Nat) : Int), ()) := by
  unfold m56 m79
  simp only [show ¬ ((60 : Int) = 0) by decide, show ¬ ((48 : Int) = 0) by decide, if_false, Option.bind_some]
  rw [ceil60 hr, ceil48 hw]
  unfold size
  rw [wrap64 (n := (((t.2.2.length + 59) / 60 : Nat) : Int) + (((t.2.1.length + 47) / 48 : Nat) : Int)) (by omega) (by omega), wrap64 (n := (((t.2.2.length + 59) / 60 : Nat) : Int) + (((t.2.1.length + 47) / 48 : Nat) : Int) + ((t.2.1.length : Nat) : Int)) (by omega) (by omega),
    wrap64 (n := (((t.2.2.length + 59) / 60 : Nat) : Int) + (((t.2.1.length + 47) / 48 : Nat) : Int) + ((t.2.1.length : Nat) : Int) + 1) (by omega) (by omega)]
  push_cast; rfl

def Seen (t : TX) (es : List (Int × Bool)) (i : Nat) : Prop := ∀ n : Int, (ifind es n).getD false = true ↔ ∃ j, j < i ∧ num t j = n

theorem Seen.zero (t : TX) : Seen t [] 0 := fun n => by simp [ifind]
theorem Seen.succ {t : TX} {es : List (Int × Bool)} {i : Nat} (h : Seen t es i) : Seen t (mset (false, .int .i64) es (num t i) true) (i + 1) := by
  intro n
  rw [mset_ifind]
  by_cases e : n = num t i
  · rw [if_pos e]
    exact ⟨fun _ => ⟨i, by omega, e.symm⟩, fun _ => rfl⟩
  · rw [if_neg e, h n]
    constructor
    · rintro ⟨j, hj, e2⟩; exact ⟨j, by omega, e2⟩
    · rintro ⟨j, hj, e2⟩
      refine ⟨j, ?_, e2⟩
      by_cases e3 : j = i
      · subst e3; exact absurd e2.symm e
      · omega

theorem num_w {t : TX} {i : Nat} (h : i < t.2.1.length) : num t i = (t.2.1.getD i (0, [])).1 := by unfold num; rw [if_pos h]
theorem num_r {t : TX} (i : Nat) : num t (t.2.1.length + i) = t.2.2.getD i 0 := by unfold num; rw [if_neg (by omega), Nat.add_sub_cancel_left]

open Classical in
theorem m51_ok (t : TX) (hw : t.2.1.length ≤ 140737488355328) (hr : t.2.2.length ≤ 140737488355328) : m51 (t, ()) = some (if okT t then (0, ()) else (171, ())) := by
  apply ok_eq
  unfold m51
  rw [m58_ok, m73_ok t hw hr]
  dsimp only [Option.bind_some]
  refine Ok.ncond (fun h => Ok.some ?_) (fun hq => ?_)
  · rw [if_neg (fun h2 => h h2.1)]
  have wt : IntKind.wrap .i64 (((t.2.1.length : Nat) : Int) + ((t.2.2.length : Nat) : Int)) = ((tot t : Nat) : Int) := by rw [wrap64 (by omega) (by omega)]; unfold tot; push_cast; rfl
  rw [wt]
  refine Ok.cond (fun h => Ok.some ?_) (fun ht => Ok.cond (fun h => Ok.some ?_) (fun hs => ?_))
  · rw [if_neg (fun h2 => h2.2.1 (by omega))]
  · rw [if_neg (fun h2 => by have := h2.2.2.1; omega)]
  refine Ok.bind (S := fun r => (∃ es, r = .inl es ∧ GoodT t t.2.1.length ∧ Seen t es t.2.1.length) ∨ ((∃ es, r = .inr (171, es)) ∧ ¬ okT t)) ?_ ?_
  · refine Ok.loop t.2.1.length (fun i x => ∃ es, x = ((i : Int), es) ∧ GoodT t i ∧ Seen t es i) ⟨[], rfl, GoodT.zero t, Seen.zero t⟩ ?_
    rintro i x hi ⟨es, rfl, hg, hse⟩
    refine Ok.cond (fun hc => ?_) (fun hc => ?_)
    rotate_left
    · simp only at hc
      obtain rfl : i = t.2.1.length := by omega
      exact Ok.inr (.inl ⟨es, rfl, hg, hse⟩)
    have hi' : i < t.2.1.length := by simp only at hc; omega
    refine Ok.gd (by simp only; omega) (Ok.gd hc ?_)
    simp only [Int.toNat_natCast, mget_ifind]
    rw [← num_w hi', m75_ok]
    simp only [Option.bind_some]
    have bad : ¬ GoodT t (i + 1) → ¬ okT t := fun h h2 => h (h2.2.2.2.mono (by unfold tot; omega))
    refine Ok.cond (fun hb => Ok.condb (fun hsn => ?_) (fun hsn => Ok.ncond (fun hl => ?_) (fun hl => ?_))) (fun hb => ?_)
    · refine Ok.inr (.inr ⟨⟨_, rfl⟩, bad fun h => ?_⟩)
      obtain ⟨j, hj, e⟩ := (hse _).1 (by simpa using hsn)
      exact h.2.2 j i hj (by omega) e
    · exact Ok.inr (.inr ⟨⟨_, rfl⟩, bad fun h => hl (by rw [h.2.1 i (by omega) hi']; rfl)⟩)
    · refine Ok.inl ⟨hi', _, ?_, hg.succ hb (fun _ => by omega) (fun j hj e => ?_), hse.succ⟩
      · rw [wsucc (by omega)]
      · have := (hse _).2 ⟨j, hj, e⟩
        simp [this] at hsn
    · exact Ok.inr (.inr ⟨⟨_, rfl⟩, bad fun h => hb (h.1 i (by omega))⟩)
  rintro r (⟨es, rfl, hg, hse⟩ | ⟨⟨es, rfl⟩, hno⟩)
  rotate_left
  · exact Ok.some (by rw [if_neg hno])
  show Ok (Option.bind _ _) _
  refine Ok.bind (S := fun r => (∃ es, r = .inl es ∧ okT t) ∨ ((∃ es, r = .inr (171, es)) ∧ ¬ okT t)) ?_ ?_
  · refine Ok.loop t.2.2.length (fun i x => ∃ es, x = ((i : Int), es) ∧ GoodT t (t.2.1.length + i) ∧ Seen t es (t.2.1.length + i)) ⟨es, rfl, hg, hse⟩ ?_
    rintro i x hi ⟨es, rfl, hg, hse⟩
    refine Ok.cond (fun hc => ?_) (fun hc => ?_)
    rotate_left
    · simp only at hc
      obtain rfl : i = t.2.2.length := by omega
      exact Ok.inr (.inl ⟨es, rfl, hq, by omega, by omega, hg⟩)
    have hi' : i < t.2.2.length := by simp only at hc; omega
    refine Ok.gd (by simp only; omega) (Ok.gd hc ?_)
    simp only [Int.toNat_natCast, mget_ifind]
    rw [← num_r, m75_ok]
    simp only [Option.bind_some]
    have bad : ¬ GoodT t (t.2.1.length + i + 1) → ¬ okT t := fun h h2 => h (h2.2.2.2.mono (by unfold tot; omega))
    refine Ok.cond (fun hb => Ok.condb (fun hsn => ?_) (fun hsn => ?_)) (fun hb => ?_)
    · refine Ok.inr (.inr ⟨⟨_, rfl⟩, bad fun h => ?_⟩)
      obtain ⟨j, hj, e⟩ := (hse _).1 (by simpa using hsn)
      exact h.2.2 j (t.2.1.length + i) hj (by omega) e
    · refine Ok.inl ⟨hi', _, ?_, hg.succ hb (fun h => by omega) (fun j hj e => ?_), hse.succ⟩
      · rw [wsucc (by omega)]
      · have := (hse _).2 ⟨j, hj, e⟩
        simp [this] at hsn
    · exact Ok.inr (.inr ⟨⟨_, rfl⟩, bad fun h => hb (h.1 (t.2.1.length + i) (by omega))⟩)
  rintro r (⟨es, rfl, h⟩ | ⟨⟨es, rfl⟩, hno⟩)
  · exact Ok.some (by rw [if_pos h])
  · exact Ok.some (by rw [if_neg hno])

def SeenB (t : TX) (l : List Bool) (i : Nat) : Prop := l.length = 8192 ∧ ∀ n : Nat, l.getD n false = true ↔ ∃ j, j < i ∧ num t j = (n : Int)

theorem getD_setB {l : List Bool} {i j : Nat} {y : Bool} (h : i < l.length) : (l.set i y).getD j false = if j = i then y else l.getD j false := by
  rw [List.getD_eq_getElem?_getD, List.getElem?_set]
  by_cases e : i = j
  · subst e; simp [h]
  · rw [if_neg e, if_neg (fun h => e h.symm), List.getD_eq_getElem?_getD]

theorem SeenB.zero (t : TX) : SeenB t (List.replicate (Int.toNat 8192) false) 0 := by
  refine ⟨List.length_replicate.trans (by decide), fun n => ⟨fun h => ?_, fun ⟨j, hj, _⟩ => by omega⟩⟩
  rw [List.getD_eq_getElem?_getD, List.getElem?_replicate] at h
  split at h <;> simp at h

theorem SeenB.succ {t : TX} {l : List Bool} {i : Nat} (h : SeenB t l i) (hb : isBlk (num t i)) : SeenB t (l.set (num t i).toNat true) (i + 1) := by
  obtain ⟨b0, b1⟩ := hb
  refine ⟨by rw [List.length_set]; exact h.1, fun n => ?_⟩
  rw [getD_setB (by rw [h.1]; omega)]
  by_cases e : n = (num t i).toNat
  · rw [if_pos e]
    exact ⟨fun _ => ⟨i, by omega, by omega⟩, fun _ => rfl⟩
  · rw [if_neg e, h.2 n]
    constructor
    · rintro ⟨j, hj, e2⟩; exact ⟨j, by omega, e2⟩
    · rintro ⟨j, hj, e2⟩
      refine ⟨j, ?_, e2⟩
      by_cases e3 : j = i
      · subst e3; omega
      · omega

open Classical in
theorem m31_ok (t : TX) (hw : t.2.1.length ≤ 140737488355328) (hr : t.2.2.length ≤ 140737488355328) : m31 (t, ()) = some (if okT t then (0, ()) else (171, ())) := by
  apply ok_eq
  unfold m31
  rw [m56_ok t hw hr]
  dsimp only [Option.bind_some]
  have wt : IntKind.wrap .i64 (((t.2.1.length : Nat) : Int) + ((t.2.2.length : Nat) : Int)) = ((tot t : Nat) : Int) := by rw [wrap64 (by omega) (by omega)]; unfold tot; push_cast; rfl
  rw [wt]
  refine Ok.cond (fun h => Ok.some ?_) (fun h1 => Ok.cond (fun h => Ok.some ?_) (fun h2 => Ok.cond (fun h => Ok.some ?_) (fun ht => Ok.cond (fun h => Ok.some ?_) (fun hs => Ok.gd (by decide) ?_))))
  · rw [if_neg (fun h2 => by have := h2.1; omega)]
  · rw [if_neg (fun h2 => by have := h2.1; omega)]
  · rw [if_neg (fun h2 => h2.2.1 (by omega))]
  · rw [if_neg (fun h2 => by have := h2.2.2.1; omega)]
  refine Ok.bind (S := fun r => (∃ es, r = .inl es ∧ okT t) ∨ ((∃ es, r = .inr (171, es)) ∧ ¬ okT t)) ?_ ?_
  rotate_left
  · rintro r (⟨es, rfl, h⟩ | ⟨⟨es, rfl⟩, hno⟩)
    · exact Ok.some (by rw [if_pos h])
    · exact Ok.some (by rw [if_neg hno])
  refine Ok.loop (tot t) (fun i x => ∃ es, x = ((i : Int), es) ∧ GoodT t i ∧ SeenB t es i) ⟨_, rfl, GoodT.zero t, SeenB.zero t⟩ ?_
  rintro i x hi ⟨es, rfl, hg, hse⟩
  refine Ok.cond (fun hc => ?_) (fun hc => ?_)
  rotate_left
  · simp only at hc
    obtain rfl : i = tot t := by omega
    exact Ok.inr (.inl ⟨es, rfl, ⟨by omega, by omega⟩, by omega, by omega, hg⟩)
  have hi' : i < tot t := by simp only at hc; omega
  have bad : ¬ GoodT t (i + 1) → ¬ okT t := fun h h2 => h (h2.2.2.2.mono (by omega))
  refine Ok.cond (fun hiw => ?_) (fun hiw => ?_)
  · have hiw' : i < t.2.1.length := by simp only at hiw; omega
    refine Ok.gd (by simp only; omega) (Ok.gd hiw (Ok.gd (by simp only; omega) (Ok.gd hiw ?_)))
    simp only [Int.toNat_natCast]
    simp only [← num_w hiw']
    rw [m57_ok]
    simp only [Option.bind_some]
    refine Ok.ncond (fun hl => ?_) (fun hl => Ok.ncond (fun hb => ?_) (fun hb => ?_))
    · exact Ok.inr (.inr ⟨⟨_, rfl⟩, bad fun h => hl (by rw [h.2.1 i (by omega) hiw']; rfl)⟩)
    · exact Ok.inr (.inr ⟨⟨_, rfl⟩, bad fun h => hb (h.1 i (by omega))⟩)
    · have hb0 := hb.1
      have hb1 := hb.2
      have hlen := hse.1
      refine Ok.gd hb0 (Ok.gd (by omega) (Ok.gd (by omega) (Ok.condb (fun hsn => ?_) (fun hsn => Ok.gd hb0 (Ok.gd (by omega) (Ok.gd (by omega) ?_))))))
      · refine Ok.inr (.inr ⟨⟨_, rfl⟩, bad fun h => ?_⟩)
        obtain ⟨j, hj, e⟩ := (hse.2 _).1 hsn
        exact h.2.2 j i hj (by omega) (by omega)
      · refine Ok.inl ⟨hi', _, ?_, hg.succ hb (fun _ => by omega) (fun j hj e => ?_), hse.succ hb⟩
        · rw [wsucc (by unfold tot at hi'; omega)]
        · have := (hse.2 (num t i).toNat).2 ⟨j, hj, by omega⟩
          rw [this] at hsn
          simp at hsn
  · have hiw' : t.2.1.length ≤ i := by simp only at hiw; omega
    obtain ⟨m, rfl⟩ : ∃ m, i = t.2.1.length + m := ⟨i - t.2.1.length, by omega⟩
    have hm : m < t.2.2.length := by unfold tot at hi'; omega
    have wm : IntKind.wrap .i64 (((t.2.1.length + m : Nat) : Int) - ((t.2.1.length : Nat) : Int)) = (m : Int) := by rw [wrap64 (by omega) (by omega)]; omega
    dsimp only
    rw [wm]
    refine Ok.gd (by omega) (Ok.gd (by omega) ?_)
    simp only [Int.toNat_natCast]
    simp only [← num_r]
    rw [m57_ok]
    simp only [Option.bind_some]
    refine Ok.ncond (fun hb => ?_) (fun hb => ?_)
    · exact Ok.inr (.inr ⟨⟨_, rfl⟩, bad fun h => hb (h.1 _ (by omega))⟩)
    · have hb0 := hb.1
      have hb1 := hb.2
      have hlen := hse.1
      refine Ok.gd hb0 (Ok.gd (by omega) (Ok.gd (by omega) (Ok.condb (fun hsn => ?_) (fun hsn => Ok.gd hb0 (Ok.gd (by omega) (Ok.gd (by omega) ?_))))))
      · refine Ok.inr (.inr ⟨⟨_, rfl⟩, bad fun h => ?_⟩)
        obtain ⟨j, hj, e⟩ := (hse.2 _).1 hsn
        exact h.2.2 j (t.2.1.length + m) hj (by omega) (by omega)
      · refine Ok.inl ⟨hi', _, ?_, hg.succ hb (fun h => by omega) (fun j hj e => ?_), hse.succ hb⟩
        · rw [wsucc (by unfold tot at hi'; omega)]
        · have := (hse.2 (num t (t.2.1.length + m)).toNat).2 ⟨j, hj, by omega⟩
          rw [this] at hsn
          simp at hsn
end Go.Proofs.Ytjleeabhpfmhaaa
end

section
namespace Go.Proofs.Ytjleeabhpfmhaaa
open Go Go.Proofs.AM

def d0 : TX := ((0 : Int), (([] : List (Int × (List Int))), ([] : List Int)))

section
open Classical
noncomputable def lst (l : List TX) : Nat → Int → Int
  | 0, _ => 0
  | i + 1, n => if okT (l.getD i d0) ∧ n ∈ (l.getD i d0).2.2 then max (lst l i n) (l.getD i d0).1 else lst l i n

noncomputable def dw (t : TX) (L : Int → Int) (f : Int → Option (List Int)) : Nat → Int → Option (List Int)
  | 0, n => f n
  | k + 1, n => if (t.2.1.getD k (0, [])).1 = n ∧ L n < t.1 then some (t.2.1.getD k (0, [])).2 else dw t L f k n

noncomputable def dm (l : List TX) (L : Int → Int) : Nat → Int → Option (List Int)
  | 0, _ => none
  | i + 1, n => if okT (l.getD i d0) then dw (l.getD i d0) L (dm l L i) (l.getD i d0).2.1.length n else dm l L i n
end

def keysU (f : Int → Option (List Int)) : Nat → List Int
  | 0 => []
  | n + 1 => keysU f n ++ (if (f (n : Int)).isSome = true then [(n : Int)] else [])

def outD (f : Int → Option (List Int)) (n : Nat) : List (Int × List Int) := (keysU f n).map fun k => (k, (f k).getD [])

theorem keysU_mem (f : Int → Option (List Int)) : ∀ n x, x ∈ keysU f n ↔ 0 ≤ x ∧ x < (n : Int) ∧ (f x).isSome = true
  | 0, x => by simp [keysU]; omega
  | n + 1, x => by
    rw [keysU, List.mem_append, keysU_mem f n x]
    by_cases h : (f (n : Int)).isSome = true
    · rw [if_pos h, List.mem_singleton]
      constructor
      · rintro (⟨a, b, c⟩ | rfl)
        · exact ⟨a, by omega, c⟩
        · exact ⟨by omega, by omega, h⟩
      · rintro ⟨a, b, c⟩
        by_cases e : x = (n : Int)
        · exact .inr e
        · exact .inl ⟨a, by omega, c⟩
    · rw [if_neg h]
      constructor
      · rintro (⟨a, b, c⟩ | hx)
        · exact ⟨a, by omega, c⟩
        · simp at hx
      · rintro ⟨a, b, c⟩
        by_cases e : x = (n : Int)
        · subst e; exact absurd c h
        · exact .inl ⟨a, by omega, c⟩

theorem keysU_lt (f : Int → Option (List Int)) : ∀ n, (keysU f n).Pairwise (· < ·)
  | 0 => List.Pairwise.nil
  | n + 1 => by
    rw [keysU, List.pairwise_append]
    refine ⟨keysU_lt f n, ?_, fun a ha b hb => ?_⟩
    · split
      · exact List.pairwise_singleton _ _
      · exact List.Pairwise.nil
    · have := ((keysU_mem f n a).1 ha).2.1
      split at hb
      · rw [List.mem_singleton] at hb; omega
      · simp at hb

theorem keysU_len (f : Int → Option (List Int)) : ∀ n, (keysU f n).length ≤ n
  | 0 => by simp [keysU]
  | n + 1 => by
    have := keysU_len f n
    rw [keysU, List.length_append]
    split <;> simp <;> omega

theorem lt_unique : ∀ {l m : List Int}, l.Pairwise (· < ·) → m.Pairwise (· < ·) → (∀ x, x ∈ l ↔ x ∈ m) → l = m
  | [], [], _, _, _ => rfl
  | [], y :: m, _, _, h => by have := (h y).2 (by simp); simp at this
  | x :: l, [], _, _, h => by have := (h x).1 (by simp); simp at this
  | x :: l, y :: m, h1, h2, h => by
    rw [List.pairwise_cons] at h1 h2
    have e : x = y := by
      have a := (h x).1 (by simp)
      have b := (h y).2 (by simp)
      rcases List.mem_cons.1 a with a | a
      · exact a
      · rcases List.mem_cons.1 b with b | b
        · exact b.symm
        · have := h1.1 y b; have := h2.1 x a; omega
    subst e
    rw [lt_unique h1.2 h2.2 (fun z => ?_)]
    constructor
    · intro hz
      rcases List.mem_cons.1 ((h z).1 (List.mem_cons_of_mem _ hz)) with e | e
      · have := h1.1 z hz; omega
      · exact e
    · intro hz
      rcases List.mem_cons.1 ((h z).2 (List.mem_cons_of_mem _ hz)) with e | e
      · have := h2.1 z hz; omega
      · exact e

theorem sortI_lt {l : List Int} (h : l.Nodup) : (sortI l).Pairwise (· < ·) := by
  have h1 : (sortI l).Pairwise (fun a b => decide (a ≤ b) = true) := List.pairwise_mergeSort (fun a b c h1 h2 => by simp only [decide_eq_true_eq] at *; omega) (fun a b => by simp only [Bool.or_eq_true, decide_eq_true_eq]; omega) l
  have h2 : (sortI l).Nodup := (sortI_perm l).nodup_iff.2 h
  rw [List.Nodup] at h2
  refine List.Pairwise.imp₂ (fun a b h1 h2 => ?_) h1 h2
  simp only [decide_eq_true_eq] at h1
  omega

theorem mset_len {V : Type} {q : IntKind} (es : List (Int × V)) (x : Int) (v : V) : (mset (false, .int q) es x v).length ≤ es.length + 1 := by
  induction es with
  | nil => show ([((x : Int), v)]).length ≤ _; simp
  | cons p r ih =>
    show (cond (decide (x = p.1)) ((x, v) :: r) (p :: mset (false, .int q) r x v)).length ≤ _
    by_cases h : x = p.1
    · simp only [h, decide_true, cond_true, List.length_cons]; omega
    · simp only [h, decide_false, cond_false, List.length_cons]; omega

theorem ifind_some {V : Type} {es : List (Int × V)} {x : Int} (h : (ifind es x).isSome = true) : x ∈ es.map Prod.fst := by
  induction es with
  | nil => simp [ifind] at h
  | cons p r ih =>
    rw [ifind_cons] at h
    rw [List.map_cons]
    by_cases e : x = p.1
    · rw [e]; exact List.mem_cons_self
    · rw [if_neg e] at h
      exact List.mem_cons_of_mem _ (ih h)

theorem ifind_isSome {V : Type} {es : List (Int × V)} {x : Int} : (ifind es x).isSome = true ↔ x ∈ es.map Prod.fst :=
  ⟨ifind_some, fun h => by
    cases hf : ifind es x with
    | some v => rfl
    | none =>
      exfalso
      induction es with
      | nil => simp at h
      | cons p r ih =>
        rw [ifind_cons] at hf
        by_cases e : x = p.1
        · rw [if_pos e] at hf; simp at hf
        · rw [if_neg e] at hf
          rw [List.map_cons, List.mem_cons] at h
          exact ih (h.resolve_left e) hf⟩

theorem dw_ok {t : TX} (ht : okT t) {L : Int → Int} {f : Int → Option (List Int)} (hf : ∀ n v, f n = some v → isBlk n ∧ v.length = 256) : ∀ k, k ≤ t.2.1.length → ∀ n v, dw t L f k n = some v → isBlk n ∧ v.length = 256
  | 0, _, n, v, h => hf n v h
  | k + 1, hk, n, v, h => by
    unfold dw at h
    split at h
    · rename_i hc
      have hg := ht.2.2.2
      have hkt : k < tot t := by unfold tot; omega
      simp only [Option.some.injEq] at h
      subst h
      refine ⟨?_, hg.2.1 k hkt (by omega)⟩
      rw [← hc.1, ← num_w (by omega)]
      exact hg.1 k hkt
    · exact dw_ok ht hf k (by omega) n v h

theorem dm_ok (l : List TX) (L : Int → Int) : ∀ i n v, dm l L i n = some v → isBlk n ∧ v.length = 256
  | 0, n, v, h => by simp [dm] at h
  | i + 1, n, v, h => by
    unfold dm at h
    split at h
    · rename_i hc
      exact dw_ok hc (dm_ok l L i) _ (Nat.le_refl _) n v h
    · exact dm_ok l L i n v h

structure SmallL (l : List TX) : Prop where
  n : l.length ≤ 12
  w : ∀ t ∈ l, t.2.1.length ≤ 140737488355328 ∧ t.2.2.length ≤ 140737488355328

open Classical in
theorem m17_ok (l : List TX) (hs : SmallL l) : m17 (l, ()) = some (outD (dm l (lst l l.length) l.length) 8192, ()) := by
  have hn := hs.n
  have hd : ∀ i, l.getD i ((0 : Int), (([] : List (Int × (List Int))), ([] : List Int))) = l.getD i d0 := fun _ => rfl
  apply ok_eq
  unfold m17
  dsimp only
  simp only [hd]
  refine Ok.bind (S := fun es => ∀ n, (ifind es n).getD 0 = lst l l.length n) ?_ (fun y1 hy1 => ?_)
  · refine Ok.loop l.length (fun i x => ∃ es, x = ((i : Int), es) ∧ ∀ n, (ifind es n).getD 0 = lst l i n) ⟨[], rfl, fun n => rfl⟩ ?_
    rintro i x hi ⟨es, rfl, he⟩
    refine Ok.cond (fun hc => ?_) (fun hc => ?_)
    rotate_left
    · obtain rfl : i = l.length := by simp only at hc; omega
      exact Ok.inr he
    have hi' : i < l.length := by simp only at hc; omega
    have hsm := hs.w _ (getD_mem (z := d0) hi')
    refine Ok.gd (by simp only; omega) (Ok.gd hc ?_)
    simp only [Int.toNat_natCast]
    rw [m51_ok _ hsm.1 hsm.2]
    simp only [Option.bind_some]
    by_cases hok : okT (l.getD i d0)
    rotate_left
    · rw [if_neg hok]
      refine Ok.cond (fun h => absurd h (by decide)) (fun _ => Ok.inl ⟨hi', es, by rw [wsucc (by omega)], fun n => ?_⟩)
      rw [lst, if_neg (fun h => hok h.1)]
      exact he n
    rw [if_pos hok]
    refine Ok.cond (fun _ => ?_) (fun h => (h (by simp)).elim)
    have hl : ∀ n, lst l (i + 1) n = if n ∈ (l.getD i d0).2.2 then max (lst l i n) (l.getD i d0).1 else lst l i n := fun n => by
      rw [lst]
      by_cases h : n ∈ (l.getD i d0).2.2
      · rw [if_pos ⟨hok, h⟩, if_pos h]
      · rw [if_neg (fun h2 => h h2.2), if_neg h]
    have hf := okT_facts hok
    refine Ok.bind (S := fun es => ∀ n, (ifind es n).getD 0 = lst l (i + 1) n) ?_ (fun es hes => Ok.inl ⟨hi', es, by rw [wsucc (by omega)], hes⟩)
    refine Ok.loop (l.getD i d0).2.2.length (fun j x => ∃ es, x = ((j : Int), es) ∧ ∀ n, (ifind es n).getD 0 = if n ∈ (l.getD i d0).2.2.take j then max (lst l i n) (l.getD i d0).1 else lst l i n) ⟨es, rfl, fun n => by simpa using he n⟩ ?_
    rintro j x hj ⟨es, rfl, he⟩
    refine Ok.cond (fun hc => ?_) (fun hc => ?_)
    rotate_left
    · obtain rfl : j = (l.getD i d0).2.2.length := by simp only at hc; omega
      refine Ok.inr fun n => ?_
      rw [he, List.take_length, hl]
    have hj' : j < (l.getD i d0).2.2.length := by simp only at hc; omega
    refine Ok.gd (by simp only; omega) (Ok.gd hc (Ok.inl ⟨hj', mset (false, .int .i64) es ((l.getD i d0).2.2.getD j 0) (if (l.getD i d0).1 > mget (false, .int .i64) es ((l.getD i d0).2.2.getD j 0) 0 then (l.getD i d0).1 else mget (false, .int .i64) es ((l.getD i d0).2.2.getD j 0) 0), ?_, fun n => ?_⟩))
    · rw [wsucc (by omega)]
      rfl
    · rw [mset_ifind, mget_ifind, he, take_snoc (l.getD i d0).2.2 j hj' 0]
      generalize (l.getD i d0).2.2.getD j 0 = m
      by_cases e : n = m
      · subst e
        rw [if_pos rfl, if_pos (List.mem_append_right _ (List.mem_singleton.2 rfl)), Option.getD_some]
        split <;> split <;> omega
      · rw [if_neg e, he]
        by_cases h : n ∈ (l.getD i d0).2.2.take j
        · rw [if_pos h, if_pos (List.mem_append_left _ h)]
        · rw [if_neg h, if_neg (fun h2 => (List.mem_append.1 h2).elim h (fun h3 => e (List.mem_singleton.1 h3)))]
  generalize lst l l.length = L at *
  refine Ok.bind (S := fun es => (∀ n, ifind es n = dm l L l.length n) ∧ (es.map Prod.fst).Nodup ∧ es.length ≤ 62 * l.length) ?_ (fun y2 hy2 => ?_)
  · refine Ok.loop l.length (fun i x => ∃ es, x = ((i : Int), es) ∧ (∀ n, ifind es n = dm l L i n) ∧ (es.map Prod.fst).Nodup ∧ es.length ≤ 62 * i) ⟨[], rfl, fun n => rfl, by simp, by simp⟩ ?_
    rintro i x hi ⟨es, rfl, he, hnd, hlen⟩
    refine Ok.cond (fun hc => ?_) (fun hc => ?_)
    rotate_left
    · obtain rfl : i = l.length := by simp only at hc; omega
      exact Ok.inr ⟨he, hnd, hlen⟩
    have hi' : i < l.length := by simp only at hc; omega
    have hsm := hs.w _ (getD_mem (z := d0) hi')
    refine Ok.gd (by simp only; omega) (Ok.gd hc ?_)
    simp only [Int.toNat_natCast]
    rw [m51_ok _ hsm.1 hsm.2]
    simp only [Option.bind_some]
    by_cases hok : okT (l.getD i d0)
    rotate_left
    · rw [if_neg hok]
      refine Ok.ncond (fun _ => Ok.inl ⟨hi', es, by rw [wsucc (by omega)], fun n => ?_, hnd, by omega⟩) (fun h => absurd h (by decide))
      rw [dm, if_neg hok]
      exact he n
    rw [if_pos hok]
    refine Ok.ncond (fun h => (h (by simp)).elim) (fun _ => ?_)
    have hl : ∀ n, dm l L (i + 1) n = dw (l.getD i d0) L (dm l L i) (l.getD i d0).2.1.length n := fun n => by rw [dm, if_pos hok]
    have hf := okT_facts hok
    refine Ok.bind (S := fun es => (∀ n, ifind es n = dm l L (i + 1) n) ∧ (es.map Prod.fst).Nodup ∧ es.length ≤ 62 * (i + 1)) ?_ (fun es hes => Ok.inl ⟨hi', es, by rw [wsucc (by omega)], hes⟩)
    refine Ok.loop (l.getD i d0).2.1.length (fun j x => ∃ es, x = ((j : Int), es) ∧ (∀ n, ifind es n = dw (l.getD i d0) L (dm l L i) j n) ∧ (es.map Prod.fst).Nodup ∧ es.length ≤ 62 * i + j) ⟨es, rfl, he, hnd, by omega⟩ ?_
    rintro j x hj ⟨es, rfl, he, hnd, hlen⟩
    refine Ok.cond (fun hc => ?_) (fun hc => ?_)
    rotate_left
    · obtain rfl : j = (l.getD i d0).2.1.length := by simp only at hc; omega
      exact Ok.inr ⟨fun n => by rw [he, hl], hnd, by show es.length ≤ _; omega⟩
    have hj' : j < (l.getD i d0).2.1.length := by simp only at hc; omega
    have h256 := hok.2.2.2.2.1 j (by unfold tot; omega) hj'
    refine Ok.gd (by simp only; omega) (Ok.gd hc ?_)
    simp only [Int.toNat_natCast, mget_ifind, hy1]
    have hdw : ∀ n, dw (l.getD i d0) L (dm l L i) (j + 1) n = if ((l.getD i d0).2.1.getD j (0, [])).1 = n ∧ L n < (l.getD i d0).1 then some ((l.getD i d0).2.1.getD j (0, [])).2 else dw (l.getD i d0) L (dm l L i) j n := fun n => by rw [dw]
    generalize (l.getD i d0).2.1.getD j (0, []) = wr at *
    refine Ok.cond (fun hlt => ?_) (fun hlt => ?_)
    · rw [m52_ok _ (by omega)]
      simp only [Option.bind_some]
      have hml := mset_len (q := .i64) es wr.1 wr.2
      refine Ok.inl ⟨hj', _, by rw [wsucc (by omega)], fun n => ?_, mset_nodup _ _ _ hnd, by omega⟩
      rw [mset_ifind, hdw]
      by_cases e : n = wr.1
      · subst e; rw [if_pos rfl, if_pos ⟨rfl, hlt⟩]
      · rw [if_neg e, if_neg (fun h => e h.1.symm), he]
    · refine Ok.inl ⟨hj', es, by rw [wsucc (by omega)], fun n => ?_, hnd, by omega⟩
      rw [hdw, he]
      by_cases e : wr.1 = n
      · subst e; rw [if_neg (fun h => hlt h.2)]
      · rw [if_neg (fun h => e h.1)]
  obtain ⟨he, hnd, hlen⟩ := hy2
  generalize hD : dm l L l.length = Df at *
  have hDok : ∀ n v, Df n = some v → isBlk n ∧ v.length = 256 := fun n v h => dm_ok l L l.length n v (by rw [hD]; exact h)
  refine Ok.of ?_ rfl
  refine lateM_of (fun L' x => (x ++ L'.map Prod.fst).Perm (y2.map Prod.fst)) ?_ ?_ y2 [] (by simp)
  · intro L' x hq j p hj
    have hjl := (List.getElem?_eq_some_iff.1 hj).1
    have hlx := hq.length_eq
    simp only [List.length_append, List.length_map] at hlx
    refine ⟨x ++ [p.1], ?_, ?_⟩
    · simp only [List.length_cons, List.length_nil]
      rw [gd_pos (by omega), gd_pos (by omega)]
    · refine List.Perm.trans ?_ hq
      rw [List.append_assoc]
      refine List.Perm.append_left _ ?_
      have h1 : (p :: L'.eraseIdx j).Perm L' := by
        obtain ⟨h3, h4⟩ := List.getElem?_eq_some_iff.1 hj
        have h5 : L' = L'.take j ++ p :: L'.drop (j + 1) := by rw [← h4, ← List.drop_eq_getElem_cons h3, List.take_append_drop]
        rw [List.eraseIdx_eq_take_drop_succ]
        conv => rhs; rw [h5]
        exact List.perm_middle.symm
      have := h1.map Prod.fst
      simpa using this
  · intro x hq
    simp only [List.map_nil, List.append_nil] at hq
    refine ⟨x, rfl, ?_⟩
    have hxl := hq.length_eq
    rw [List.length_map] at hxl
    have hsort : sortI x = keysU Df 8192 := by
      refine lt_unique (sortI_lt (hq.nodup_iff.2 hnd)) (keysU_lt _ _) fun z => ?_
      rw [(sortI_perm x).mem_iff, hq.mem_iff, keysU_mem, ← ifind_isSome, he]
      constructor
      · intro h
        obtain ⟨v, hv⟩ := Option.isSome_iff_exists.1 h
        have := (hDok z v hv).1
        exact ⟨this.1, this.2, h⟩
      · intro h; exact h.2.2
    have hsl := sortI_len x
    have hku := keysU_len Df 8192
    have hkm := keysU_mem Df 8192
    have hout : outD Df 8192 = (keysU Df 8192).map fun k => (k, (Df k).getD []) := rfl
    rw [gd_pos (by omega), hout]
    simp only [Option.bind_some]
    rw [hsort] at hsl ⊢
    clear hsort hout
    generalize keysU Df 8192 = KU at *
    have hres : Ok (loopM (X := (Int × (List (Int × (List Int))))) (E := (List (Int × (List Int)))) (fun (x5 : (Int × (List (Int × (List Int))))) =>
      bif (decide (x5.1 < (((List.length (KU)) : Nat) : Int))) then
        (gd ((0 : Int) ≤ x5.1) (gd (x5.1 < (((List.length (KU)) : Nat) : Int)) (gd ((Int.toNat x5.1) < (List.length (KU))) (Option.bind (m52 ((mget (false, (.int .i64)) y2 (List.getD (KU) (Int.toNat x5.1) (0 : Int)) ([] : List Int)), ())) fun (y6 : ((List Int) × Unit)) =>
              gd ((((List.length x5.2) + (List.length (((List.getD (KU) (Int.toNat x5.1) (0 : Int)), y6.1) :: ([] : List (Int × (List Int)))))) * 32) ≤ 140737488355328) (gd (((List.length x5.2) + (List.length (((List.getD (KU) (Int.toNat x5.1) (0 : Int)), y6.1) :: ([] : List (Int × (List Int)))))) ≤ 140737488355328) (some (Sum.inl ((Go.IntKind.wrap .i64 (x5.1 + (1 : Int))), (x5.2 ++ (((List.getD (KU) (Int.toNat x5.1) (0 : Int)), y6.1) :: ([] : List (Int × (List Int)))))))))))))
      else
        (some (Sum.inr x5.2))) ((0 : Int), ([] : List (Int × (List Int))))) (fun r => r = KU.map fun k => (k, (Df k).getD [])) := by
      refine Ok.loop (KU).length (fun i x => x = ((i : Int), ((KU).take i).map fun k => (k, (Df k).getD []))) rfl ?_
      rintro i x hi rfl
      refine Ok.cond (fun hc => ?_) (fun hc => ?_)
      rotate_left
      · obtain rfl : i = (KU).length := by simp only at hc; omega
        exact Ok.inr (by rw [List.take_length])
      have hi' : i < (KU).length := by simp only at hc; omega
      have hk := ((hkm _).1 (getD_mem (z := 0) hi')).2.2
      obtain ⟨v, hv⟩ := Option.isSome_iff_exists.1 hk
      have hvl := (hDok _ v hv).2
      refine Ok.gd (by simp only; omega) (Ok.gd hc (Ok.gd (by simp only; omega) ?_))
      simp only [Int.toNat_natCast, mget_ifind, he]
      rw [m52_ok _ (by rw [hv]; show v.length ≤ _; omega)]
      simp only [Option.bind_some, List.length_map, List.length_take, List.length_cons, List.length_nil]
      refine Ok.gd (by omega) (Ok.gd (by omega) (Ok.inl ⟨hi', ?_⟩))
      rw [wsucc (by omega), take_snoc (KU) i hi' 0, List.map_append]
      rfl
    rw [ok_eq hres]
    simp only [Option.bind_some]
end Go.Proofs.Ytjleeabhpfmhaaa
end

section
namespace Go.Proofs.Ytjleeabhpfmhaaa
open Go Go.Proofs.AM

open Classical in
theorem lst_lt (l : List TX) (b s : Int) : ∀ i, lst l i b < s ↔ (0 < s ∧ ∀ j, j < i → okT (l.getD j d0) → b ∈ (l.getD j d0).2.2 → (l.getD j d0).1 < s)
  | 0 => by simp [lst]
  | i + 1 => by
    have ih := lst_lt l b s i
    rw [lst]
    by_cases h : okT (l.getD i d0) ∧ b ∈ (l.getD i d0).2.2
    · rw [if_pos h]
      constructor
      · intro h1
        have h2 := ih.1 (by omega)
        refine ⟨h2.1, fun j hj hok hm => ?_⟩
        by_cases e : j = i
        · subst e; omega
        · exact h2.2 j (by omega) hok hm
      · intro h1
        have h2 := ih.2 ⟨h1.1, fun j hj => h1.2 j (by omega)⟩
        have := h1.2 i (by omega) h.1 h.2
        omega
    · rw [if_neg h, ih]
      constructor
      · intro h1
        refine ⟨h1.1, fun j hj hok hm => ?_⟩
        by_cases e : j = i
        · subst e; exact absurd ⟨hok, hm⟩ h
        · exact h1.2 j (by omega) hok hm
      · intro h1
        exact ⟨h1.1, fun j hj => h1.2 j (by omega)⟩

open Classical in
theorem m32_ok (l : List TX) (hs : SmallL l) (i0 k0 : Nat) (hi0 : i0 < l.length) (hk0 : k0 < (l.getD i0 d0).2.1.length) (hok0 : okT (l.getD i0 d0)) :
    Ok (m32 (l, ((i0 : Int), ((k0 : Int), ())))) (fun r => r.1 = true ↔ lst l l.length ((l.getD i0 d0).2.1.getD k0 (0, [])).1 < (l.getD i0 d0).1) := by
  have hn := hs.n
  have hd : ∀ i, l.getD i ((0 : Int), (([] : List (Int × (List Int))), ([] : List Int))) = l.getD i d0 := fun _ => rfl
  rw [lst_lt]
  have hpos : 0 < (l.getD i0 d0).1 := by have := hok0.1.1; omega
  unfold m32
  dsimp only
  simp only [hd, Int.toNat_natCast]
  refine Ok.bind (S := fun r => (r = .inl () ∧ ∀ j, j < l.length → okT (l.getD j d0) → ((l.getD i0 d0).2.1.getD k0 (0, [])).1 ∈ (l.getD j d0).2.2 → (l.getD j d0).1 < (l.getD i0 d0).1) ∨
      (r = .inr false ∧ ∃ j, j < l.length ∧ okT (l.getD j d0) ∧ ((l.getD i0 d0).2.1.getD k0 (0, [])).1 ∈ (l.getD j d0).2.2 ∧ ¬ (l.getD j d0).1 < (l.getD i0 d0).1)) ?_ ?_
  rotate_left
  · rintro r (⟨rfl, h⟩ | ⟨rfl, j, h1, h2, h3, h4⟩)
    · exact Ok.some ⟨fun _ => ⟨hpos, h⟩, fun _ => rfl⟩
    · exact Ok.some ⟨fun e => by simp at e, fun h => absurd (h.2 j h1 h2 h3) h4⟩
  refine Ok.loop l.length (fun i x => x = (i : Int) ∧ ∀ j, j < i → okT (l.getD j d0) → ((l.getD i0 d0).2.1.getD k0 (0, [])).1 ∈ (l.getD j d0).2.2 → (l.getD j d0).1 < (l.getD i0 d0).1) ⟨rfl, fun j hj => by omega⟩ ?_
  rintro i x hi ⟨rfl, hprev⟩
  refine Ok.cond (fun hc => ?_) (fun hc => Ok.inr (.inl ⟨rfl, fun j hj => hprev j (by omega)⟩))
  have hi' : i < l.length := by omega
  have hsm := hs.w _ (getD_mem (z := d0) hi')
  refine Ok.gd (by omega) (Ok.gd hc ?_)
  simp only [Int.toNat_natCast]
  rw [m31_ok _ hsm.1 hsm.2]
  simp only [Option.bind_some]
  have next : (okT (l.getD i d0) → ((l.getD i0 d0).2.1.getD k0 (0, [])).1 ∈ (l.getD i d0).2.2 → (l.getD i d0).1 < (l.getD i0 d0).1) → ∀ j, j < i + 1 → okT (l.getD j d0) → ((l.getD i0 d0).2.1.getD k0 (0, [])).1 ∈ (l.getD j d0).2.2 → (l.getD j d0).1 < (l.getD i0 d0).1 := fun h j hj => by
    by_cases e : j = i
    · subst e; exact h
    · exact hprev j (by omega)
  by_cases hok : okT (l.getD i d0)
  rotate_left
  · rw [if_neg hok]
    exact Ok.ncond (fun _ => Ok.inl ⟨hi', wsucc (by omega), next fun h => absurd h hok⟩) (fun h => absurd h (by decide))
  rw [if_pos hok]
  refine Ok.ncond (fun h => (h (by simp)).elim) (fun _ => Ok.gd (by omega) (Ok.gd hc (Ok.gd (by omega) (Ok.gd (by omega) (Ok.cond (fun hlt => Ok.inl ⟨hi', wsucc (by omega), next fun _ _ => hlt⟩) (fun hge => ?_))))))
  have hf := okT_facts hok
  refine Ok.bind (S := fun r => (r = .inl () ∧ ((l.getD i0 d0).2.1.getD k0 (0, [])).1 ∉ (l.getD i d0).2.2) ∨ (r = .inr false ∧ ((l.getD i0 d0).2.1.getD k0 (0, [])).1 ∈ (l.getD i d0).2.2)) ?_ ?_
  rotate_left
  · rintro r (⟨rfl, h⟩ | ⟨rfl, h⟩)
    · exact Ok.inl ⟨hi', wsucc (by omega), next fun _ h2 => absurd h2 h⟩
    · exact Ok.inr (.inr ⟨rfl, i, hi', hok, h, hge⟩)
  refine Ok.loop (l.getD i d0).2.2.length (fun k x => x = (k : Int) ∧ ((l.getD i0 d0).2.1.getD k0 (0, [])).1 ∉ (l.getD i d0).2.2.take k) ⟨rfl, by simp⟩ ?_
  rintro k x hk ⟨rfl, hnot⟩
  refine Ok.gd (by omega) (Ok.gd hc (Ok.cond (fun hc2 => ?_) (fun hc2 => Ok.inr (.inl ⟨rfl, ?_⟩))))
  rotate_left
  · have : (l.getD i d0).2.2.take k = (l.getD i d0).2.2 := List.take_of_length_le (by omega)
    rw [this] at hnot; exact hnot
  have hk' : k < (l.getD i d0).2.2.length := by omega
  refine Ok.gd (by omega) (Ok.gd hc (Ok.gd (by omega) (Ok.gd hc2 (Ok.gd (by omega) (Ok.gd (by omega) (Ok.gd (by omega) (Ok.gd (by omega) ?_)))))))
  simp only [Int.toNat_natCast]
  refine Ok.cond (fun he => Ok.inr (.inr ⟨rfl, ?_⟩)) (fun hne => Ok.inl ⟨hk', wsucc (by omega), ?_⟩)
  · rw [← he]; exact getD_mem hk'
  · rw [take_snoc _ k hk' 0]
    intro h
    rcases List.mem_append.1 h with h | h
    · exact hnot h
    · exact hne (List.mem_singleton.1 h).symm

open Classical in
theorem m18_ok (l : List TX) (hs : SmallL l) : m18 (l, ()) = some (outD (dm l (lst l l.length) l.length) 8192, ()) := by
  have hn := hs.n
  have hd : ∀ i, l.getD i ((0 : Int), (([] : List (Int × (List Int))), ([] : List Int))) = l.getD i d0 := fun _ => rfl
  apply ok_eq
  unfold m18
  dsimp only
  simp only [hd]
  generalize hL : lst l l.length = L
  generalize hD : dm l L l.length = Df
  refine Ok.bind (S := fun r => r = outD Df 8192) ?_ (fun r hr => Ok.some (by rw [hr]))
  refine Ok.loop 8192 (fun b x => x = (outD Df b, (b : Int))) rfl ?_
  rintro b x hb rfl
  refine Ok.cond (fun hc => ?_) (fun hc => ?_)
  rotate_left
  · have hb8 : b = 8192 := by simp only at hc; omega
    exact Ok.inr (by show outD Df b = outD Df 8192; rw [hb8])
  have hb' : b < 8192 := by simp only at hc; omega
  have hku := keysU_len Df b
  have hol : (outD Df b).length = (keysU Df b).length := by unfold outD; rw [List.length_map]
  have hos : outD Df (b + 1) = if (Df (b : Int)).isSome = true then outD Df b ++ [((b : Int), (Df (b : Int)).getD [])] else outD Df b := by
    unfold outD
    rw [keysU, List.map_append]
    split
    · rfl
    · simp
  refine Ok.bind (S := fun r => r = ((Df (b : Int)).isSome, (Df (b : Int)).getD [])) ?_ (fun r hr => ?_)
  rotate_left
  · subst hr
    refine Ok.condb (fun h => ?_) (fun h => ?_)
    · simp only [List.length_cons, List.length_nil, hol]
      refine Ok.gd (by omega) (Ok.gd (by omega) (Ok.inl ⟨hb', ?_⟩))
      have h : (Df (b : Int)).isSome = true := h
      rw [hos, if_pos h, wsucc (by omega)]
    · have h : (Df (b : Int)).isSome = false := h
      refine Ok.inl ⟨hb', ?_⟩
      rw [hos, h, if_neg (by simp), wsucc (by omega)]
  refine Ok.loop l.length (fun i x => x = ((dm l L i (b : Int)).isSome, ((dm l L i (b : Int)).getD [], (i : Int)))) rfl ?_
  rintro i x hi rfl
  refine Ok.cond (fun hc => ?_) (fun hc => ?_)
  rotate_left
  · obtain rfl : i = l.length := by simp only at hc; omega
    exact Ok.inr (by rw [hD])
  have hi' : i < l.length := by simp only at hc; omega
  have hsm := hs.w _ (getD_mem (z := d0) hi')
  refine Ok.gd (by simp only; omega) (Ok.gd hc ?_)
  simp only [Int.toNat_natCast]
  rw [m31_ok _ hsm.1 hsm.2]
  simp only [Option.bind_some]
  by_cases hok : okT (l.getD i d0)
  rotate_left
  · rw [if_neg hok]
    refine Ok.ncond (fun _ => Ok.inl ⟨hi', ?_⟩) (fun h => absurd h (by decide))
    rw [dm, if_neg hok, wsucc (by omega)]
  rw [if_pos hok]
  refine Ok.ncond (fun h => (h (by simp)).elim) (fun _ => ?_)
  have hf := okT_facts hok
  have hdm : dm l L (i + 1) (b : Int) = dw (l.getD i d0) L (dm l L i) (l.getD i d0).2.1.length (b : Int) := by rw [dm, if_pos hok]
  refine Ok.bind (S := fun r => r = ((dm l L (i + 1) (b : Int)).isSome, (dm l L (i + 1) (b : Int)).getD [])) ?_ (fun r hr => ?_)
  rotate_left
  · subst hr
    exact Ok.inl ⟨hi', by rw [wsucc (by omega)]⟩
  refine Ok.loop (l.getD i d0).2.1.length (fun k x => x = ((dw (l.getD i d0) L (dm l L i) k (b : Int)).isSome, ((dw (l.getD i d0) L (dm l L i) k (b : Int)).getD [], (k : Int)))) rfl ?_
  rintro k x hk rfl
  refine Ok.gd (by omega) (Ok.gd (by omega) (Ok.cond (fun hc2 => ?_) (fun hc2 => ?_)))
  rotate_left
  · obtain rfl : k = (l.getD i d0).2.1.length := by simp only at hc2; omega
    exact Ok.inr (by rw [hdm])
  have hk' : k < (l.getD i d0).2.1.length := by simp only at hc2; omega
  have hdw : dw (l.getD i d0) L (dm l L i) (k + 1) (b : Int) = if ((l.getD i d0).2.1.getD k (0, [])).1 = (b : Int) ∧ L (b : Int) < (l.getD i d0).1 then some ((l.getD i d0).2.1.getD k (0, [])).2 else dw (l.getD i d0) L (dm l L i) k (b : Int) := by rw [dw]
  refine Ok.gd (by omega) (Ok.gd (by omega) (Ok.gd (by simp only; omega) (Ok.gd hc2 ?_)))
  simp only [Int.toNat_natCast]
  refine Ok.cond (fun he => ?_) (fun hne => ?_)
  · refine Ok.bind (m32_ok l hs i k hi' hk' hok) fun r hr => ?_
    rw [he, hL] at hr
    refine Ok.condb (fun h => ?_) (fun h => ?_)
    · refine Ok.gd (by omega) (Ok.gd (by omega) (Ok.gd (by omega) (Ok.gd (by omega) (Ok.inl ⟨hk', ?_⟩))))
      rw [hdw, if_pos ⟨he, hr.1 h⟩, wsucc (by omega)]
      rfl
    · refine Ok.inl ⟨hk', ?_⟩
      rw [hdw, if_neg (fun h2 => by have := hr.2 h2.2; rw [this] at h; simp at h), wsucc (by omega)]
  · refine Ok.inl ⟨hk', ?_⟩
    rw [hdw, if_neg (fun h2 => hne h2.1), wsucc (by omega)]

theorem m15_ok (l : List TX) (hl : l.length ≤ 140737488355328) : Ok (m15 (l, ())) (fun r => r.1 = true → l.length ≤ 12) := by
  unfold m15
  dsimp only
  have hm : (if (12 : Int) < ((l.length : Nat) : Int) then (12 : Int) else ((l.length : Nat) : Int)) = ((min 12 l.length : Nat) : Int) := by split <;> omega
  simp only [hm]
  refine Ok.gd (by omega) (Ok.gd (by omega) ?_)
  have et : List.take (Int.toNat ((min 12 l.length : Nat) : Int) - Int.toNat 0) (List.drop (Int.toNat 0) l) = l.take (min 12 l.length) := by
    rw [Int.toNat_natCast]; rfl
  simp only [et]
  have htl : (l.take (min 12 l.length)).length = min 12 l.length := by rw [List.length_take]; omega
  generalize l.take (min 12 l.length) = m at *
  refine Ok.bind (S := fun _ => True) ?_ (fun r _ => ?_)
  · refine Ok.loop m.length (fun i x => ∃ n : Nat, x = ((n : Int), (i : Int)) ∧ n ≤ 400 * i) ⟨0, rfl, by omega⟩ ?_
    rintro i x hi ⟨n, rfl, hn⟩
    refine Ok.cond (fun hc => ?_) (fun hc => Ok.inr trivial)
    have hi' : i < m.length := by simp only at hc; omega
    refine Ok.gd (by simp only; omega) (Ok.gd hc ?_)
    simp only [Int.toNat_natCast]
    generalize List.length (m.getD i ((0 : Int), (([] : List (Int × (List Int))), ([] : List Int)))).2.1 = a
    generalize List.length (m.getD i ((0 : Int), (([] : List (Int × (List Int))), ([] : List Int)))).2.2 = b
    have h1 : (if (100 : Int) < ((a : Nat) : Int) then (100 : Int) else ((a : Nat) : Int)) = ((min 100 a : Nat) : Int) := by split <;> omega
    have h2 : (if (300 : Int) < ((b : Nat) : Int) then (300 : Int) else ((b : Nat) : Int)) = ((min 300 b : Nat) : Int) := by split <;> omega
    refine Ok.inl ⟨hi', n + (min 100 a + min 300 b), ?_, by omega⟩
    rw [h1, h2, wrap64 (n := ((min 100 a : Nat) : Int) + ((min 300 b : Nat) : Int)) (by omega) (by omega), wrap64 (n := (n : Int) + (((min 100 a : Nat) : Int) + ((min 300 b : Nat) : Int))) (by omega) (by omega), wsucc (by omega)]
    push_cast; rfl
  · refine Ok.cond (fun h => Ok.some fun _ => by omega) (fun h => Ok.some fun h2 => by simp at h2)
end Go.Proofs.Ytjleeabhpfmhaaa
end

section
namespace Go.Proofs.Ytjleeabhpfmhaaa
open Go Go.Proofs.AM

theorem m16_self (l : List (Int × List Int)) (h : l.length ≤ 100000) : m16 (l, (l, ())) = some (true, ()) := by
  apply ok_eq
  unfold m16
  dsimp only
  refine Ok.ncond (fun h => (h rfl).elim) (fun _ => Ok.bind (S := fun r => r = .inl ()) ?_ (fun r hr => by subst hr; exact Ok.some rfl))
  refine Ok.loop l.length (fun i x => x = (i : Int)) rfl ?_
  rintro i x hi rfl
  refine Ok.cond (fun hc => ?_) (fun hc => Ok.inr rfl)
  refine Ok.gd (by omega) (Ok.gd hc (Ok.gd (by omega) (Ok.gd hc (Ok.ncond (fun h => (h rfl).elim) (fun _ => Ok.gd (by omega) (Ok.gd hc (Ok.gd (by omega) (Ok.gd hc ?_))))))))
  have : ∀ b : ByteArray, streq b b = true := fun b => (streq_iff b b).2 rfl
  rw [this]
  exact Ok.condb (fun h => absurd h (by decide)) (fun _ => Ok.inl ⟨by omega, wsucc (by omega)⟩)

theorem outD_len (f : Int → Option (List Int)) (n : Nat) : (outD f n).length ≤ n := by
  unfold outD
  rw [List.length_map]
  exact keysU_len f n

theorem redos_same (l : List TX) (hs : SmallL l) : ∃ O : List (Int × List Int), O.length ≤ 100000 ∧ m17 (l, ()) = some (O, ()) ∧ m18 (l, ()) = some (O, ()) :=
  ⟨_, Nat.le_trans (outD_len _ _) (by decide), m17_ok l hs, m18_ok l hs⟩

theorem m5_ok (l : List TX) (hl : l.length ≤ 140737488355328) (ht : ∀ t ∈ l, t.2.1.length ≤ 140737488355328 ∧ t.2.2.length ≤ 140737488355328) : m5 (l, ()) = some (true, ()) := by
  apply ok_eq
  unfold m5
  rw [m6_ok]
  simp only [Option.bind_some]
  refine Ok.condb (fun h => absurd h (by decide)) (fun _ => Ok.bind (m15_ok l hl) fun r hr => ?_)
  refine Ok.condb (fun _ => Ok.some rfl) (fun h => ?_)
  have hs : SmallL l := ⟨hr (by simpa using h), ht⟩
  obtain ⟨O, hO, h17, h18⟩ := redos_same l hs
  rw [h17, h18]
  simp only [Option.bind_some]
  rw [m16_self O hO]
  exact Ok.some rfl

abbrev kT : K := .pair (.int .i64) (.pair (.sl (.pair (.int .i64) (.sl (.int .u8)))) (.sl (.int .i64)))

theorem kT_sz (t : TX) (h : kT.sz t) : t.2.1.length ≤ 140737488355328 ∧ t.2.2.length ≤ 140737488355328 := by
  have h1 : List.length t.2.1 * (K.pair (.int .i64) (.sl (.int .u8))).wd ≤ 140737488351232 := h.2.1.1
  have h2 : List.length t.2.2 * (K.int .i64).wd ≤ 140737488351232 := h.2.2.1
  have w1 : (K.pair (.int .i64) (.sl (.int .u8))).wd = 32 := rfl
  have w2 : (K.int .i64).wd = 8 := rfl
  rw [w1] at h1
  rw [w2] at h2
  omega

theorem ReplayRedos_pure : ∀ x : AM.PDen [(false, (.sl (.pair (.int .i64) (.pair (.sl (.pair (.int .i64) (.sl (.int .u8)))) (.sl (.int .i64))))))], AM.PWf _ x → AM.PSz _ x → m5 x = some (true, ()) := by
  rintro ⟨l, ⟨⟩⟩ _ hz
  have hz1 : List.length l * kT.wd ≤ 140737488351232 ∧ ∀ t ∈ (show List TX from l), kT.sz t := hz.1
  have hw : kT.wd = 56 := rfl
  rw [hw] at hz1
  exact m5_ok l (by have := hz1.1; omega) fun t hm => kT_sz t (hz1.2 t hm)
end Go.Proofs.Ytjleeabhpfmhaaa
end
