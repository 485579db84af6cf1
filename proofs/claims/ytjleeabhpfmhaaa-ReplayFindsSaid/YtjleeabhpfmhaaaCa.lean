/- What the functions of this claim compute, each shown by the kernel, and what that comes to, with no program in sight. No condition. -/
import Derived.Test.YtjleeabhpfmhaaaProg
import Derived.Test.YtjleeabhpfmhaaaAmd
import Derived.KernelRfl
import Derived.Shelf.Spec.SlicesGrow
set_option maxRecDepth 2000
set_option linter.unusedVariables false
set_option linter.unusedSimpArgs false
section
namespace Go.Proofs.Ytjleeabhpfmhaaa
open Go Go.Proofs.AM
abbrev TyD : Type := ((List (List Int)) × ((List Bool) × (Bool × (Bool × (Int × (Int × (List (Int × (List Int)))))))))
abbrev TyT : Type := (Int × ((List (Int × (List Int))) × (List Int)))
end Go.Proofs.Ytjleeabhpfmhaaa
end
section
namespace Go.Proofs.Ytjleeabhpfmhaaa
theorem Try.follows : Try.prog.follows .mixedOrders = true := by kernel_rfl
end Go.Proofs.Ytjleeabhpfmhaaa
end

section
open Go Go.Proofs.AM
namespace Go.Proofs.Ytjleeabhpfmhaaa

noncomputable def m10 (x : Int × Int × Int × Unit) : Option (Int × Unit) :=
 bif (decide (x.1 < (2 : Int))) then
 (some ((0 : Int), ()))
 else
 (bif (decide (x.2.1 < (1 : Int))) then
 (some ((0 : Int), ()))
 else
 (bif (decide (x.2.1 > (Go.IntKind.wrap .i64 (x.1 - (1 : Int))))) then
 (some ((0 : Int), ()))
 else
 (bif (decide (x.2.2.1 < (0 : Int))) then
 (some ((0 : Int), ()))
 else
 (bif (decide (x.2.2.1 > (Go.IntKind.wrap .i64 (x.1 - (2 : Int))))) then
 (some ((0 : Int), ()))
 else
 (if (Go.IntKind.wrap .i64 (x.1 - (1 : Int))) = (0 : Int) then
 (none)
 else
 (some ((Go.IntKind.wrap .i64 ((1 : Int) + (Int.tmod (Go.IntKind.wrap .i64 ((Go.IntKind.wrap .i64 (x.2.1 - (1 : Int))) + x.2.2.1)) (Go.IntKind.wrap .i64 (x.1 - (1 : Int)))))), ())))))))

noncomputable def r10 : PDen [(false, (.int .i64)), (false, (.int .i64)), (false, (.int .i64))] → Option (PDen [(false, (.int .i64))]) := fun x => afun Try.prog (envOf [] [] [] []) ⟨[], []⟩ Try.f10 [(false, (.int .i64)), (false, (.int .i64)), (false, (.int .i64))] [(false, (.int .i64))] false x
theorem r10_eq : r10 = m10 := by kernel_rfl

theorem c10 : CS.Sound Try.prog 10 ⟨[(false, (.int .i64)), (false, (.int .i64)), (false, (.int .i64))], [(false, (.int .i64))], false, m10⟩ := afun_sound' (envOf_sound (CSs.nil) (HDs.nil) (IDs.nil)) rfl Try.follows (f := 10) (fn := Try.f10) Try.func10 (by kernel_rfl) (by kernel_rfl) r10_eq
end Go.Proofs.Ytjleeabhpfmhaaa
end

section
open Go Go.Proofs.AM
namespace Go.Proofs.Ytjleeabhpfmhaaa

noncomputable def m35 (x : (List Int) × Int × Unit) : Option (Int × ((List Int) × Unit)) :=
 gd ((0 : Int) ≤ x.2.1) (gd (x.2.1 ≤ (((List.length x.1) : Nat) : Int)) (Option.bind (loopM (X := (Int × Int)) (E := Int) (fun (x1 : (Int × Int)) =>
 bif (decide (x1.2 < (((List.length (List.take ((Int.toNat x.2.1) - (Int.toNat (0 : Int))) (List.drop (Int.toNat (0 : Int)) x.1))) : Nat) : Int))) then
 (gd ((0 : Int) ≤ x1.2) (gd (x1.2 < (((List.length (List.take ((Int.toNat x.2.1) - (Int.toNat (0 : Int))) (List.drop (Int.toNat (0 : Int)) x.1))) : Nat) : Int)) (some (Sum.inl ((ior .u64 (ishl .u64 x1.1 (8 : Int)) (Go.IntKind.wrap .u64 (List.getD (List.take ((Int.toNat x.2.1) - (Int.toNat (0 : Int))) (List.drop (Int.toNat (0 : Int)) x.1)) (Int.toNat x1.2) (0 : Int)))), (Go.IntKind.wrap .i64 (x1.2 + (1 : Int))))))))
 else
 (some (Sum.inr x1.1))) ((0 : Int), (0 : Int))) fun (y1 : Int) =>
 gd ((0 : Int) ≤ x.2.1) (gd (x.2.1 ≤ (((List.length x.1) : Nat) : Int)) (gd ((((List.length x.1) : Nat) : Int) ≤ (((List.length x.1) : Nat) : Int)) (some (y1, ((List.take ((Int.toNat (((List.length x.1) : Nat) : Int)) - (Int.toNat x.2.1)) (List.drop (Int.toNat x.2.1) x.1)), ())))))))

noncomputable def r35 : PDen [(false, (.sl (.int .u8))), (false, (.int .i64))] → Option (PDen [(false, (.int .u64)), (false, (.sl (.int .u8)))]) := fun x => afun Try.prog (envOf [] [] [] []) ⟨[(0, ⟨[.slot 6 (.d false (.int .u64) true), .slot 13 (.d false (.int .i64) true)], [], [(some 0, [.slot 6 (.d false (.int .u64) true)])], none⟩)], []⟩ Try.f35 [(false, (.sl (.int .u8))), (false, (.int .i64))] [(false, (.int .u64)), (false, (.sl (.int .u8)))] true x
theorem r35_eq : r35 = m35 := by kernel_rfl

theorem c35 : CS.Sound Try.prog 35 ⟨[(false, (.sl (.int .u8))), (false, (.int .i64))], [(false, (.int .u64)), (false, (.sl (.int .u8)))], true, m35⟩ := afun_sound' (envOf_sound (CSs.nil) (HDs.nil) (IDs.nil)) rfl Try.follows (f := 35) (fn := Try.f35) Try.func35 (by kernel_rfl) (by kernel_rfl) r35_eq
end Go.Proofs.Ytjleeabhpfmhaaa
end

section
open Go Go.Proofs.AM
namespace Go.Proofs.Ytjleeabhpfmhaaa

noncomputable def m58 (x : Int × Unit) : Option (Bool × Unit) :=
 bif (decide (x.1 ≥ (1 : Int))) then
 (some ((decide (x.1 ≤ (281474976710656 : Int))), ()))
 else
 (some (false, ()))

noncomputable def r58 : PDen [(false, (.int .i64))] → Option (PDen [(false, .bool)]) := fun x => afun Try.prog (envOf [] [] [] []) ⟨[], []⟩ Try.f58 [(false, (.int .i64))] [(false, .bool)] false x
theorem r58_eq : r58 = m58 := by kernel_rfl

theorem c58 : CS.Sound Try.prog 58 ⟨[(false, (.int .i64))], [(false, .bool)], false, m58⟩ := afun_sound' (envOf_sound (CSs.nil) (HDs.nil) (IDs.nil)) rfl Try.follows (f := 58) (fn := Try.f58) Try.func58 (by kernel_rfl) (by kernel_rfl) r58_eq
end Go.Proofs.Ytjleeabhpfmhaaa
end

section
namespace Go.Proofs
open Go.Shelf
def Try.growBytes_ren : Go.Shelf.Ren := ⟨fun | 4 => 91 | n => n, fun | 22 => 33 | 25 => 5 | 3 => 3 | 4 => 4 | 9 => 9 | 20 => 20 | 0 => 0 | n => n, fun | n => n⟩
theorem Try.growBytes : Go.Proofs.Lays8.n4 Try.prog Try.growBytes_ren := {
  mixed := by kernel_rfl
  f4 := ⟨Try.f91.name, by decide, Try.func91.trans (congrArg some (by kernel_rfl))⟩
  t0 := Try.underlying0
  a0 := Try.isAgg0
  z0 := Try.sizeOf0
  v0 := Try.zeroValue0
  t3 := Try.underlying3
  a3 := Try.isAgg3
  z3 := Try.sizeOf3
  v3 := Try.zeroValue3
  t4 := Try.underlying4
  a4 := Try.isAgg4
  z4 := Try.sizeOf4
  v4 := Try.zeroValue4
  t9 := Try.underlying9
  a9 := Try.isAgg9
  z9 := Try.sizeOf9
  v9 := Try.zeroValue9
  t20 := Try.underlying20
  a20 := Try.isAgg20
  z20 := Try.sizeOf20
  v20 := Try.zeroValue20
  t22 := Try.underlying33
  a22 := Try.isAgg33
  z22 := Try.sizeOf33
  v22 := Try.zeroValue33 }
end Go.Proofs
end

section
open Go Go.Proofs.AM
namespace Go.Proofs.Ytjleeabhpfmhaaa
theorem g91 : (growHD 5 (.int .u8) 1).Sound Try.prog 91 := by
  have h : (Try.prog.info? 5).map (fun i => (i.size, i.bytes, i.zero)) = some (1, 1, some (.int .u8 0)) := by kernel_rfl
  obtain ⟨i, hi, hs⟩ := Option.map_eq_some_iff.1 h
  simp only [Prod.mk.injEq] at hs
  exact growHD_sound Try.growBytes rfl rfl (fun args w => enters_of Try.func91 (by kernel_rfl) rfl args w) hi hs.2.2 rfl hs.1 (by decide) hs.2.1
end Go.Proofs.Ytjleeabhpfmhaaa
end

section
open Go Go.Proofs.AM
namespace Go.Proofs.Ytjleeabhpfmhaaa

noncomputable def m80 (x : (List (List Int)) × Unit) : Option ((List Int) × Unit) :=
 Option.bind (loopM (X := (Int × Int)) (E := Int) (fun (x1 : (Int × Int)) =>
 bif (decide (x1.2 < (((List.length x.1) : Nat) : Int))) then
 (gd ((0 : Int) ≤ x1.2) (gd (x1.2 < (((List.length x.1) : Nat) : Int)) (bif (decide ((Go.IntKind.wrap .i64 (x1.1 + (((List.length (List.getD x.1 (Int.toNat x1.2) ([] : List Int))) : Nat) : Int))) < (0 : Int))) then
 (none)
 else
 (some (Sum.inl ((Go.IntKind.wrap .i64 (x1.1 + (((List.length (List.getD x.1 (Int.toNat x1.2) ([] : List Int))) : Nat) : Int))), (Go.IntKind.wrap .i64 (x1.2 + (1 : Int)))))))))
 else
 (some (Sum.inr x1.1))) ((0 : Int), (0 : Int))) fun (y1 : Int) =>
 Option.bind (gd ((0 : Int) ≤ y1) (gd ((y1 * (1 : Int)) ≤ (140737488355328 : Int)) (gd (y1 ≤ (4611686018427387904 : Int)) (some ())))) fun (y2 : Unit) =>
 Option.bind (loopM (X := ((List Int) × Int)) (E := (List Int)) (fun (x3 : ((List Int) × Int)) =>
 bif (decide (x3.2 < (((List.length x.1) : Nat) : Int))) then
 (gd ((0 : Int) ≤ x3.2) (gd (x3.2 < (((List.length x.1) : Nat) : Int)) (gd ((((List.length x3.1) + (List.length (List.getD x.1 (Int.toNat x3.2) ([] : List Int)))) * 1) ≤ 140737488355328) (gd (((List.length x3.1) + (List.length (List.getD x.1 (Int.toNat x3.2) ([] : List Int)))) ≤ 140737488355328) (some (Sum.inl ((x3.1 ++ (List.getD x.1 (Int.toNat x3.2) ([] : List Int))), (Go.IntKind.wrap .i64 (x3.2 + (1 : Int))))))))))
 else
 (some (Sum.inr x3.1))) (([] : List Int), (0 : Int))) fun (y3 : (List Int)) =>
 some (y3, ())

noncomputable def r80 : PDen [(false, (.sl (.sl (.int .u8))))] → Option (PDen [(false, (.sl (.int .u8)))]) := fun x => afun Try.prog (envOf [] [(91, growHD 5 (.int .u8) 1)] [] []) ⟨[(0, ⟨[.slot 3 (.d false (.int .i64) true), .slot 11 (.d false (.int .i64) true)], [], [(some 0, [.slot 3 (.d false (.int .i64) true)])], none⟩), (2, ⟨[.slot 6 (.v 5 (.int .u8) true), .slot 27 (.d false (.int .i64) true)], [0], [(some 2, [.slot 6 (.v 5 (.int .u8) true)])], none⟩)], []⟩ Try.f80 [(false, (.sl (.sl (.int .u8))))] [(false, (.sl (.int .u8)))] false x
theorem r80_eq : r80 = m80 := by kernel_rfl

theorem c80 : CS.Sound Try.prog 80 ⟨[(false, (.sl (.sl (.int .u8))))], [(false, (.sl (.int .u8)))], false, m80⟩ := afun_sound' (envOf_sound (CSs.nil) (HDs.cons g91 (HDs.nil)) (IDs.nil)) rfl Try.follows (f := 80) (fn := Try.f80) Try.func80 (by kernel_rfl) (by kernel_rfl) r80_eq
end Go.Proofs.Ytjleeabhpfmhaaa
end

section
open Go Go.Proofs.AM
namespace Go.Proofs.Ytjleeabhpfmhaaa

noncomputable def m92 (x : (List Int) × Unit) : Option (Int × Unit) :=
 Option.bind (loopM (X := (Int × Int)) (E := Int) (fun (x1 : (Int × Int)) =>
 bif (decide (x1.2 < (((List.length x.1) : Nat) : Int))) then
 (gd ((0 : Int) ≤ x1.2) (gd (x1.2 < (((List.length x.1) : Nat) : Int)) (Option.bind (loopM (X := (Int × Int)) (E := Int) (fun (x2 : (Int × Int)) =>
 bif (decide (x2.2 < (8 : Int))) then
 (gd ((0 : Int) ≤ x2.2) (bif (decide ((iand .u8 (ishr .u8 (List.getD x.1 (Int.toNat x1.2) (0 : Int)) x2.2) (1 : Int)) = (0 : Int))) then
 (some (Sum.inl ((Go.IntKind.wrap .i64 (x2.1 + (1 : Int))), (Go.IntKind.wrap .i64 (x2.2 + (1 : Int))))))
 else
 (some (Sum.inl (x2.1, (Go.IntKind.wrap .i64 (x2.2 + (1 : Int))))))))
 else
 (some (Sum.inr x2.1))) (x1.1, (0 : Int))) fun (y2 : Int) =>
 some (Sum.inl (y2, (Go.IntKind.wrap .i64 (x1.2 + (1 : Int))))))))
 else
 (some (Sum.inr x1.1))) ((0 : Int), (0 : Int))) fun (y1 : Int) =>
 some (y1, ())

noncomputable def r92 : PDen [(false, (.sl (.int .u8)))] → Option (PDen [(false, (.int .i64))]) := fun x => afun Try.prog (envOf [] [] [] []) ⟨[(0, ⟨[.slot 3 (.d false (.int .i64) true), .slot 9 (.d false (.int .i64) true)], [], [(some 0, [.slot 3 (.d false (.int .i64) true)])], none⟩), (2, ⟨[.slot 3 (.d false (.int .i64) true), .slot 13 (.d false (.int .i64) true)], [], [(some 2, [.slot 3 (.d false (.int .i64) true)])], none⟩)], []⟩ Try.f92 [(false, (.sl (.int .u8)))] [(false, (.int .i64))] false x
theorem r92_eq : r92 = m92 := by kernel_rfl

theorem c92 : CS.Sound Try.prog 92 ⟨[(false, (.sl (.int .u8)))], [(false, (.int .i64))], false, m92⟩ := afun_sound' (envOf_sound (CSs.nil) (HDs.nil) (IDs.nil)) rfl Try.follows (f := 92) (fn := Try.f92) Try.func92 (by kernel_rfl) (by kernel_rfl) r92_eq
end Go.Proofs.Ytjleeabhpfmhaaa
end

section
open Go Go.Proofs.AM
namespace Go.Proofs.Ytjleeabhpfmhaaa

noncomputable def m81 (x : (List Int) × Unit) : Option ((List Int) × Unit) :=
 Option.bind (m92 (x.1, ())) fun (y1 : (Int × Unit)) =>
 some (((Go.IntKind.wrap .u8 (ishr .i64 y1.1 (24 : Int))) :: ((Go.IntKind.wrap .u8 (ishr .i64 y1.1 (16 : Int))) :: ((Go.IntKind.wrap .u8 (ishr .i64 y1.1 (8 : Int))) :: ((Go.IntKind.wrap .u8 y1.1) :: ([] : List Int))))), ())

noncomputable def r81 : PDen [(false, (.sl (.int .u8)))] → Option (PDen [(false, (.sl (.int .u8)))]) := fun x => afun Try.prog (envOf [(92, ⟨[(false, (.sl (.int .u8)))], [(false, (.int .i64))], false, m92⟩)] [] [] []) ⟨[], []⟩ Try.f81 [(false, (.sl (.int .u8)))] [(false, (.sl (.int .u8)))] false x
theorem r81_eq : r81 = m81 := by kernel_rfl

theorem c81 : CS.Sound Try.prog 81 ⟨[(false, (.sl (.int .u8)))], [(false, (.sl (.int .u8)))], false, m81⟩ := afun_sound' (envOf_sound (CSs.cons c92 (CSs.nil)) (HDs.nil) (IDs.nil)) rfl Try.follows (f := 81) (fn := Try.f81) Try.func81 (by kernel_rfl) (by kernel_rfl) r81_eq
end Go.Proofs.Ytjleeabhpfmhaaa
end

section
open Go Go.Proofs.AM
namespace Go.Proofs.Ytjleeabhpfmhaaa

noncomputable def m59 (x : (List Int) × Unit) : Option ((List Int) × (Int × Unit)) :=
 bif (decide ((((List.length x.1) : Nat) : Int) > (1048576 : Int))) then
 (some (([] : List Int), ((3 : Int), ())))
 else
 (Option.bind (m81 (x.1, ())) fun (y1 : ((List Int) × Unit)) =>
 Option.bind (m80 ((x.1 :: (y1.1 :: ([] : List (List Int)))), ())) fun (y2 : ((List Int) × Unit)) =>
 some (y2.1, ((0 : Int), ())))

noncomputable def r59 : PDen [(false, (.sl (.int .u8)))] → Option (PDen [(false, (.sl (.int .u8))), (false, (.int .i64))]) := fun x => afun Try.prog (envOf [(80, ⟨[(false, (.sl (.sl (.int .u8))))], [(false, (.sl (.int .u8)))], false, m80⟩), (81, ⟨[(false, (.sl (.int .u8)))], [(false, (.sl (.int .u8)))], false, m81⟩)] [] [] []) ⟨[], []⟩ Try.f59 [(false, (.sl (.int .u8)))] [(false, (.sl (.int .u8))), (false, (.int .i64))] false x
theorem r59_eq : r59 = m59 := by kernel_rfl

theorem c59 : CS.Sound Try.prog 59 ⟨[(false, (.sl (.int .u8)))], [(false, (.sl (.int .u8))), (false, (.int .i64))], false, m59⟩ := afun_sound' (envOf_sound (CSs.cons c80 (CSs.cons c81 (CSs.nil))) (HDs.nil) (IDs.nil)) rfl Try.follows (f := 59) (fn := Try.f59) Try.func59 (by kernel_rfl) (by kernel_rfl) r59_eq
end Go.Proofs.Ytjleeabhpfmhaaa
end

section
open Go Go.Proofs.AM
namespace Go.Proofs.Ytjleeabhpfmhaaa

noncomputable def m60 (x : (List Int) × Int × Unit) : Option (List Int) :=
 gd ((0 : Int) ≤ (Go.IntKind.wrap .i64 (x.2.1 - (((List.length x.1) : Nat) : Int)))) (gd ((((List.length x.1) + (List.length (List.replicate (Int.toNat (Go.IntKind.wrap .i64 (x.2.1 - (((List.length x.1) : Nat) : Int)))) (0 : Int)))) * 1) ≤ 140737488355328) (gd (((List.length x.1) + (List.length (List.replicate (Int.toNat (Go.IntKind.wrap .i64 (x.2.1 - (((List.length x.1) : Nat) : Int)))) (0 : Int)))) ≤ 140737488355328) (some (x.1 ++ (List.replicate (Int.toNat (Go.IntKind.wrap .i64 (x.2.1 - (((List.length x.1) : Nat) : Int)))) (0 : Int))))))

noncomputable def r60 : PDen ((false, (.sl (.int .u8))) :: [(false, (.int .i64))]) → Option (List (K.den (.int .u8))) := fun x => afunCO Try.prog (envOf [] [] [] []) ⟨[], []⟩ Try.f60 5 (.int .u8) [(false, (.int .i64))] x
theorem r60_eq : r60 = m60 := by kernel_rfl

theorem c60 : COc.Sound Try.prog 60 ⟨5, (.int .u8), [(false, (.int .i64))], m60⟩ := afunCO_sound' (envOf_sound (CSs.nil) (HDs.nil) (IDs.nil)) rfl Try.follows (f := 60) (fn := Try.f60) Try.func60 (by kernel_rfl) (by kernel_rfl) r60_eq
end Go.Proofs.Ytjleeabhpfmhaaa
end

section
open Go Go.Proofs.AM
namespace Go.Proofs.Ytjleeabhpfmhaaa

noncomputable def m61 (x : (List Int) × Int × Int × Unit) : Option (List Int) :=
 Option.bind (loopM (X := ((List Int) × Int)) (E := (List Int)) (fun (x1 : ((List Int) × Int)) =>
 bif (decide (x1.2 ≥ (0 : Int))) then
 (gd ((0 : Int) ≤ (Go.IntKind.wrap .i64 ((8 : Int) * x1.2))) (gd ((((List.length x1.1) + (List.length ((Go.IntKind.wrap .u8 (ishr .u64 x.2.1 (Go.IntKind.wrap .i64 ((8 : Int) * x1.2)))) :: ([] : List Int)))) * 1) ≤ 140737488355328) (gd (((List.length x1.1) + (List.length ((Go.IntKind.wrap .u8 (ishr .u64 x.2.1 (Go.IntKind.wrap .i64 ((8 : Int) * x1.2)))) :: ([] : List Int)))) ≤ 140737488355328) (some (Sum.inl ((x1.1 ++ ((Go.IntKind.wrap .u8 (ishr .u64 x.2.1 (Go.IntKind.wrap .i64 ((8 : Int) * x1.2)))) :: ([] : List Int))), (Go.IntKind.wrap .i64 (x1.2 - (1 : Int)))))))))
 else
 (some (Sum.inr x1.1))) (x.1, (Go.IntKind.wrap .i64 (x.2.2.1 - (1 : Int))))) fun (y1 : (List Int)) =>
 some y1

noncomputable def r61 : PDen ((false, (.sl (.int .u8))) :: [(false, (.int .u64)), (false, (.int .i64))]) → Option (List (K.den (.int .u8))) := fun x => afunCO Try.prog (envOf [] [] [] []) ⟨[(0, ⟨[.slot 0 (.v 5 (.int .u8) true), .slot 7 (.d false (.int .i64) true)], [0], [(some 0, [.slot 0 (.v 5 (.int .u8) true)])], none⟩)], []⟩ Try.f61 5 (.int .u8) [(false, (.int .u64)), (false, (.int .i64))] x
theorem r61_eq : r61 = m61 := by kernel_rfl

theorem c61 : COc.Sound Try.prog 61 ⟨5, (.int .u8), [(false, (.int .u64)), (false, (.int .i64))], m61⟩ := afunCO_sound' (envOf_sound (CSs.nil) (HDs.nil) (IDs.nil)) rfl Try.follows (f := 61) (fn := Try.f61) Try.func61 (by kernel_rfl) (by kernel_rfl) r61_eq
end Go.Proofs.Ytjleeabhpfmhaaa
end

section
open Go Go.Proofs.AM
namespace Go.Proofs.Ytjleeabhpfmhaaa

noncomputable def m36 (x : (Int × Int) × Unit) : Option ((List Int) × (Int × Unit)) :=
 bif (decide (x.1.1 < (0 : Int))) then
 (some (([] : List Int), ((1 : Int), ())))
 else
 (bif (decide (x.1.1 ≥ (64 : Int))) then
 (some (([] : List Int), ((1 : Int), ())))
 else
 (Option.bind (m58 (x.1.2, ())) fun (y1 : (Bool × Unit)) =>
 bif (!y1.1) then
 (some (([] : List Int), ((1 : Int), ())))
 else
 (Option.bind (m61 (([] : List Int), ((1397508656 : Int), ((4 : Int), ())))) fun (y2 : (List Int)) =>
 Option.bind (m61 (y2, ((Go.IntKind.wrap .u64 x.1.1), ((4 : Int), ())))) fun (y3 : (List Int)) =>
 Option.bind (m61 (y3, ((Go.IntKind.wrap .u64 x.1.2), ((8 : Int), ())))) fun (y4 : (List Int)) =>
 Option.bind (m60 (y4, ((252 : Int), ()))) fun (y5 : (List Int)) =>
 Option.bind (m59 (y5, ())) fun (y6 : ((List Int) × (Int × Unit))) =>
 some (y6.1, (y6.2.1, ())))))

noncomputable def r36 : PDen [(true, (.pair (.int .i64) (.int .i64)))] → Option (PDen [(false, (.sl (.int .u8))), (false, (.int .i64))]) := fun x => afun Try.prog (envOf [(58, ⟨[(false, (.int .i64))], [(false, .bool)], false, m58⟩), (59, ⟨[(false, (.sl (.int .u8)))], [(false, (.sl (.int .u8))), (false, (.int .i64))], false, m59⟩)] [(60, COc.hd ⟨5, (.int .u8), [(false, (.int .i64))], m60⟩), (61, COc.hd ⟨5, (.int .u8), [(false, (.int .u64)), (false, (.int .i64))], m61⟩)] [] []) ⟨[], []⟩ Try.f36 [(true, (.pair (.int .i64) (.int .i64)))] [(false, (.sl (.int .u8))), (false, (.int .i64))] false x
theorem r36_eq : r36 = m36 := by kernel_rfl

theorem c36 : CS.Sound Try.prog 36 ⟨[(true, (.pair (.int .i64) (.int .i64)))], [(false, (.sl (.int .u8))), (false, (.int .i64))], false, m36⟩ := afun_sound' (envOf_sound (CSs.cons c58 (CSs.cons c59 (CSs.nil))) (HDs.cons (COc.Sound.hd c60) (HDs.cons (COc.Sound.hd c61) (HDs.nil))) (IDs.nil)) rfl Try.follows (f := 36) (fn := Try.f36) Try.func36 (by kernel_rfl) (by kernel_rfl) r36_eq
end Go.Proofs.Ytjleeabhpfmhaaa
end

section
open Go Go.Proofs.AM
namespace Go.Proofs.Ytjleeabhpfmhaaa

noncomputable def m37 (x : (List Int) × (List Int) × Unit) : Option (Bool × Unit) :=
 some ((streq (Go.strOfNums x.1) (Go.strOfNums x.2.1)), ())

noncomputable def r37 : PDen [(false, (.sl (.int .u8))), (false, (.sl (.int .u8)))] → Option (PDen [(false, .bool)]) := fun x => afun Try.prog (envOf [] [] [] []) ⟨[], []⟩ Try.f37 [(false, (.sl (.int .u8))), (false, (.sl (.int .u8)))] [(false, .bool)] false x
theorem r37_eq : r37 = m37 := by kernel_rfl

theorem c37 : CS.Sound Try.prog 37 ⟨[(false, (.sl (.int .u8))), (false, (.sl (.int .u8)))], [(false, .bool)], false, m37⟩ := afun_sound' (envOf_sound (CSs.nil) (HDs.nil) (IDs.nil)) rfl Try.follows (f := 37) (fn := Try.f37) Try.func37 (by kernel_rfl) (by kernel_rfl) r37_eq
end Go.Proofs.Ytjleeabhpfmhaaa
end

section
open Go Go.Proofs.AM
namespace Go.Proofs.Ytjleeabhpfmhaaa

noncomputable def m23 (x : (List Int) × Unit) : Option ((Int × Int) × (Int × Unit)) :=
 bif (!(decide ((((List.length x.1) : Nat) : Int) = (256 : Int)))) then
 (some (((0 : Int), (0 : Int)), ((170 : Int), ())))
 else
 (gd ((4 : Int) ≤ (((List.length x.1) : Nat) : Int)) (gd ((((List.length x.1) : Nat) : Int) ≤ (((List.length x.1) : Nat) : Int)) (Option.bind (m35 ((List.take ((Int.toNat (((List.length x.1) : Nat) : Int)) - (Int.toNat (4 : Int))) (List.drop (Int.toNat (4 : Int)) x.1)), ((4 : Int), ()))) fun (y1 : (Int × ((List Int) × Unit))) =>
 Option.bind (m35 (y1.2.1, ((8 : Int), ()))) fun (y2 : (Int × ((List Int) × Unit))) =>
 Option.bind (m36 (((Go.IntKind.wrap .i64 y1.1), (Go.IntKind.wrap .i64 y2.1)), ())) fun (y3 : ((List Int) × (Int × Unit))) =>
 bif (!(decide (y3.2.1 = (0 : Int)))) then
 (some (((0 : Int), (0 : Int)), ((170 : Int), ())))
 else
 (Option.bind (m37 (y3.1, (x.1, ()))) fun (y4 : (Bool × Unit)) =>
 bif (!y4.1) then
 (some (((0 : Int), (0 : Int)), ((170 : Int), ())))
 else
 (some (((Go.IntKind.wrap .i64 y1.1), (Go.IntKind.wrap .i64 y2.1)), ((0 : Int), ())))))))

noncomputable def r23 : PDen [(false, (.sl (.int .u8)))] → Option (PDen [(true, (.pair (.int .i64) (.int .i64))), (false, (.int .i64))]) := fun x => afun Try.prog (envOf [(35, ⟨[(false, (.sl (.int .u8))), (false, (.int .i64))], [(false, (.int .u64)), (false, (.sl (.int .u8)))], true, m35⟩), (36, ⟨[(true, (.pair (.int .i64) (.int .i64)))], [(false, (.sl (.int .u8))), (false, (.int .i64))], false, m36⟩), (37, ⟨[(false, (.sl (.int .u8))), (false, (.sl (.int .u8)))], [(false, .bool)], false, m37⟩)] [] [] []) ⟨[], []⟩ Try.f23 [(false, (.sl (.int .u8)))] [(true, (.pair (.int .i64) (.int .i64))), (false, (.int .i64))] false x
theorem r23_eq : r23 = m23 := by kernel_rfl

theorem c23 : CS.Sound Try.prog 23 ⟨[(false, (.sl (.int .u8)))], [(true, (.pair (.int .i64) (.int .i64))), (false, (.int .i64))], false, m23⟩ := afun_sound' (envOf_sound (CSs.cons c35 (CSs.cons c36 (CSs.cons c37 (CSs.nil)))) (HDs.nil) (IDs.nil)) rfl Try.follows (f := 23) (fn := Try.f23) Try.func23 (by kernel_rfl) (by kernel_rfl) r23_eq
end Go.Proofs.Ytjleeabhpfmhaaa
end

section
open Go Go.Proofs.AM
namespace Go.Proofs.Ytjleeabhpfmhaaa

noncomputable def m75 (x : Int × Unit) : Option (Bool × Unit) :=
 bif (decide (x.1 ≥ (0 : Int))) then
 (some ((decide (x.1 < (8192 : Int))), ()))
 else
 (some (false, ()))

noncomputable def r75 : PDen [(false, (.int .i64))] → Option (PDen [(false, .bool)]) := fun x => afun Try.prog (envOf [] [] [] []) ⟨[], []⟩ Try.f75 [(false, (.int .i64))] [(false, .bool)] false x
theorem r75_eq : r75 = m75 := by kernel_rfl

theorem c75 : CS.Sound Try.prog 75 ⟨[(false, (.int .i64))], [(false, .bool)], false, m75⟩ := afun_sound' (envOf_sound (CSs.nil) (HDs.nil) (IDs.nil)) rfl Try.follows (f := 75) (fn := Try.f75) Try.func75 (by kernel_rfl) (by kernel_rfl) r75_eq
end Go.Proofs.Ytjleeabhpfmhaaa
end

section
open Go Go.Proofs.AM
namespace Go.Proofs.Ytjleeabhpfmhaaa

noncomputable def m82 (x : (Int × (Int × ((List (Int × Bool)) × ((List Int) × Int)))) × Unit) : Option (Bool × Unit) :=
 Option.bind (m58 (x.1.2.1, ())) fun (y1 : (Bool × Unit)) =>
 bif (!y1.1) then
 (some (false, ()))
 else
 (bif (decide (x.1.1 = (1 : Int))) then
 (bif (decide ((((List.length x.1.2.2.2.1) : Nat) : Int) = (0 : Int))) then
 (bif (decide (x.1.2.2.2.2 = (0 : Int))) then
 (bif (decide ((((List.length x.1.2.2.1) : Nat) : Int) ≥ (1 : Int))) then
 (bif (decide ((((List.length x.1.2.2.1) : Nat) : Int) ≤ (48 : Int))) then
 (Option.bind (loopM (X := Int) (E := (Unit ⊕ Int)) (fun (x2 : Int) =>
 bif (decide (x2 < (((List.length x.1.2.2.1) : Nat) : Int))) then
 (gd ((0 : Int) ≤ x2) (gd (x2 < (((List.length x.1.2.2.1) : Nat) : Int)) (Option.bind (m75 ((List.getD x.1.2.2.1 (Int.toNat x2) ((0 : Int), false)).1, ())) fun (y3 : (Bool × Unit)) =>
 bif (!y3.1) then
 (some (Sum.inr (Sum.inr x2)))
 else
 (some (Sum.inl (Go.IntKind.wrap .i64 (x2 + (1 : Int))))))))
 else
 (some (Sum.inr (Sum.inl ())))) (0 : Int)) fun (y2 : (Unit ⊕ Int)) =>
 Sum.elim (fun y3 =>
 some ((!(decide ((-1 : Int) ≥ (0 : Int)))), ())) (fun y3 =>
 some ((!(decide (y3 ≥ (0 : Int)))), ())) y2)
 else
 (some (false, ())))
 else
 (some (false, ())))
 else
 (some (false, ())))
 else
 (some (false, ())))
 else
 (bif (decide (x.1.1 = (3 : Int))) then
 (bif (decide ((((List.length x.1.2.2.1) : Nat) : Int) = (0 : Int))) then
 (bif (decide (x.1.2.2.2.2 = (0 : Int))) then
 (bif (decide ((((List.length x.1.2.2.2.1) : Nat) : Int) ≥ (1 : Int))) then
 (bif (decide ((((List.length x.1.2.2.2.1) : Nat) : Int) ≤ (60 : Int))) then
 (Option.bind (loopM (X := Int) (E := (Unit ⊕ Int)) (fun (x2 : Int) =>
 bif (decide (x2 < (((List.length x.1.2.2.2.1) : Nat) : Int))) then
 (gd ((0 : Int) ≤ x2) (gd (x2 < (((List.length x.1.2.2.2.1) : Nat) : Int)) (Option.bind (m75 ((List.getD x.1.2.2.2.1 (Int.toNat x2) (0 : Int)), ())) fun (y3 : (Bool × Unit)) =>
 bif (!y3.1) then
 (some (Sum.inr (Sum.inr x2)))
 else
 (some (Sum.inl (Go.IntKind.wrap .i64 (x2 + (1 : Int))))))))
 else
 (some (Sum.inr (Sum.inl ())))) (0 : Int)) fun (y2 : (Unit ⊕ Int)) =>
 Sum.elim (fun y3 =>
 some ((!(decide ((-1 : Int) ≥ (0 : Int)))), ())) (fun y3 =>
 some ((!(decide (y3 ≥ (0 : Int)))), ())) y2)
 else
 (some (false, ())))
 else
 (some (false, ())))
 else
 (some (false, ())))
 else
 (some (false, ())))
 else
 (bif (decide (x.1.1 = (2 : Int))) then
 (bif (decide ((((List.length x.1.2.2.1) : Nat) : Int) = (0 : Int))) then
 (bif (decide ((((List.length x.1.2.2.2.1) : Nat) : Int) = (0 : Int))) then
 (bif (decide (x.1.2.2.2.2 ≥ (1 : Int))) then
 (some ((decide (x.1.2.2.2.2 ≤ (64 : Int))), ()))
 else
 (some (false, ())))
 else
 (some (false, ())))
 else
 (some (false, ())))
 else
 (some (false, ())))))

noncomputable def i82_94 : ID := aInl Try.prog (envOf [(75, ⟨[(false, (.int .i64))], [(false, .bool)], false, m75⟩)] [] [] []) ⟨[], []⟩ Try.f94
noncomputable def i82_108 : ID := aInl Try.prog (envOf [] [] [] [(94, i82_94)]) ⟨[(2000, ⟨[.slot 8 (.d false (.int .i64) true)], [], [(some 0, []), (none, [.slot 4 (.d false (.int .i64) true)])], none⟩)], []⟩ Try.f108
noncomputable def i82_93 : ID := aInl Try.prog (envOf [] [] [] [(108, i82_108)]) ⟨[], []⟩ Try.f93
noncomputable def i82_96 : ID := aInl Try.prog (envOf [(75, ⟨[(false, (.int .i64))], [(false, .bool)], false, m75⟩)] [] [] []) ⟨[], []⟩ Try.f96
noncomputable def i82_109 : ID := aInl Try.prog (envOf [] [] [] [(96, i82_96)]) ⟨[(2000, ⟨[.slot 8 (.d false (.int .i64) true)], [], [(some 0, []), (none, [.slot 4 (.d false (.int .i64) true)])], none⟩)], []⟩ Try.f109
noncomputable def i82_95 : ID := aInl Try.prog (envOf [] [] [] [(109, i82_109)]) ⟨[], []⟩ Try.f95
noncomputable def r82 : PDen [(true, (.pair (.int .i64) (.pair (.int .i64) (.pair (.sl (.pair (.int .i64) .bool)) (.pair (.sl (.int .i64)) (.int .i64))))))] → Option (PDen [(false, .bool)]) := fun x => afun Try.prog (envOf [(58, ⟨[(false, (.int .i64))], [(false, .bool)], false, m58⟩)] [] [] [(93, i82_93), (95, i82_95)]) ⟨[], []⟩ Try.f82 [(true, (.pair (.int .i64) (.pair (.int .i64) (.pair (.sl (.pair (.int .i64) .bool)) (.pair (.sl (.int .i64)) (.int .i64))))))] [(false, .bool)] false x
theorem r82_eq : r82 = m82 := by kernel_rfl

theorem i82_94_sound : i82_94.Sound Try.prog 94 := aInl_sound' (envOf_sound (CSs.cons c75 (CSs.nil)) (HDs.nil) (IDs.nil)) Try.follows (f := 94) (fn := Try.f94) Try.func94 (by kernel_rfl) (by kernel_rfl)
theorem i82_108_sound : i82_108.Sound Try.prog 108 := aInl_sound' (envOf_sound (CSs.nil) (HDs.nil) (IDs.cons i82_94_sound (IDs.nil))) Try.follows (f := 108) (fn := Try.f108) Try.func108 (by kernel_rfl) (by kernel_rfl)
theorem i82_93_sound : i82_93.Sound Try.prog 93 := aInl_sound' (envOf_sound (CSs.nil) (HDs.nil) (IDs.cons i82_108_sound (IDs.nil))) Try.follows (f := 93) (fn := Try.f93) Try.func93 (by kernel_rfl) (by kernel_rfl)
theorem i82_96_sound : i82_96.Sound Try.prog 96 := aInl_sound' (envOf_sound (CSs.cons c75 (CSs.nil)) (HDs.nil) (IDs.nil)) Try.follows (f := 96) (fn := Try.f96) Try.func96 (by kernel_rfl) (by kernel_rfl)
theorem i82_109_sound : i82_109.Sound Try.prog 109 := aInl_sound' (envOf_sound (CSs.nil) (HDs.nil) (IDs.cons i82_96_sound (IDs.nil))) Try.follows (f := 109) (fn := Try.f109) Try.func109 (by kernel_rfl) (by kernel_rfl)
theorem i82_95_sound : i82_95.Sound Try.prog 95 := aInl_sound' (envOf_sound (CSs.nil) (HDs.nil) (IDs.cons i82_109_sound (IDs.nil))) Try.follows (f := 95) (fn := Try.f95) Try.func95 (by kernel_rfl) (by kernel_rfl)
theorem c82 : CS.Sound Try.prog 82 ⟨[(true, (.pair (.int .i64) (.pair (.int .i64) (.pair (.sl (.pair (.int .i64) .bool)) (.pair (.sl (.int .i64)) (.int .i64))))))], [(false, .bool)], false, m82⟩ := afun_sound' (envOf_sound (CSs.cons c58 (CSs.nil)) (HDs.nil) (IDs.cons i82_93_sound (IDs.cons i82_95_sound (IDs.nil)))) rfl Try.follows (f := 82) (fn := Try.f82) Try.func82 (by kernel_rfl) (by kernel_rfl) r82_eq
end Go.Proofs.Ytjleeabhpfmhaaa
end

section
open Go Go.Proofs.AM
namespace Go.Proofs.Ytjleeabhpfmhaaa

noncomputable def m62 (x : (Int × (Int × ((List (Int × Bool)) × ((List Int) × Int)))) × Unit) : Option ((List Int) × (Int × Unit)) :=
 Option.bind (m82 (x.1, ())) fun (y1 : (Bool × Unit)) =>
 bif (!y1.1) then
 (some (([] : List Int), ((170 : Int), ())))
 else
 (Option.bind (m61 (([] : List Int), ((1397508641 : Int), ((4 : Int), ())))) fun (y2 : (List Int)) =>
 Option.bind (m61 (y2, ((Go.IntKind.wrap .u64 x.1.1), ((1 : Int), ())))) fun (y3 : (List Int)) =>
 Option.bind (m61 (y3, ((Go.IntKind.wrap .u64 x.1.2.1), ((8 : Int), ())))) fun (y4 : (List Int)) =>
 Option.bind (m61 (y4, ((Go.IntKind.wrap .u64 (Go.IntKind.wrap .i64 ((Go.IntKind.wrap .i64 ((((List.length x.1.2.2.1) : Nat) : Int) + (((List.length x.1.2.2.2.1) : Nat) : Int))) + x.1.2.2.2.2))), ((1 : Int), ())))) fun (y5 : (List Int)) =>
 Option.bind (loopM (X := ((List Int) × Int)) (E := (List Int)) (fun (x6 : ((List Int) × Int)) =>
 bif (decide (x6.2 < (((List.length x.1.2.2.1) : Nat) : Int))) then
 (gd ((0 : Int) ≤ x6.2) (gd (x6.2 < (((List.length x.1.2.2.1) : Nat) : Int)) (bif (List.getD x.1.2.2.1 (Int.toNat x6.2) ((0 : Int), false)).2 then
 (Option.bind (m61 (x6.1, ((Go.IntKind.wrap .u64 (List.getD x.1.2.2.1 (Int.toNat x6.2) ((0 : Int), false)).1), ((4 : Int), ())))) fun (y7 : (List Int)) =>
 Option.bind (m61 (y7, ((1 : Int), ((1 : Int), ())))) fun (y8 : (List Int)) =>
 some (Sum.inl (y8, (Go.IntKind.wrap .i64 (x6.2 + (1 : Int))))))
 else
 (Option.bind (m61 (x6.1, ((Go.IntKind.wrap .u64 (List.getD x.1.2.2.1 (Int.toNat x6.2) ((0 : Int), false)).1), ((4 : Int), ())))) fun (y7 : (List Int)) =>
 Option.bind (m61 (y7, ((0 : Int), ((1 : Int), ())))) fun (y8 : (List Int)) =>
 some (Sum.inl (y8, (Go.IntKind.wrap .i64 (x6.2 + (1 : Int)))))))))
 else
 (some (Sum.inr x6.1))) (y5, (0 : Int))) fun (y6 : (List Int)) =>
 Option.bind (loopM (X := ((List Int) × Int)) (E := (List Int)) (fun (x7 : ((List Int) × Int)) =>
 bif (decide (x7.2 < (((List.length x.1.2.2.2.1) : Nat) : Int))) then
 (gd ((0 : Int) ≤ x7.2) (gd (x7.2 < (((List.length x.1.2.2.2.1) : Nat) : Int)) (Option.bind (m61 (x7.1, ((Go.IntKind.wrap .u64 (List.getD x.1.2.2.2.1 (Int.toNat x7.2) (0 : Int))), ((4 : Int), ())))) fun (y8 : (List Int)) =>
 some (Sum.inl (y8, (Go.IntKind.wrap .i64 (x7.2 + (1 : Int))))))))
 else
 (some (Sum.inr x7.1))) (y6, (0 : Int))) fun (y7 : (List Int)) =>
 Option.bind (m60 (y7, ((256 : Int), ()))) fun (y8 : (List Int)) =>
 some (y8, ((0 : Int), ())))

noncomputable def r62 : PDen [(true, (.pair (.int .i64) (.pair (.int .i64) (.pair (.sl (.pair (.int .i64) .bool)) (.pair (.sl (.int .i64)) (.int .i64))))))] → Option (PDen [(false, (.sl (.int .u8))), (false, (.int .i64))]) := fun x => afun Try.prog (envOf [(82, ⟨[(true, (.pair (.int .i64) (.pair (.int .i64) (.pair (.sl (.pair (.int .i64) .bool)) (.pair (.sl (.int .i64)) (.int .i64))))))], [(false, .bool)], false, m82⟩)] [(60, COc.hd ⟨5, (.int .u8), [(false, (.int .i64))], m60⟩), (61, COc.hd ⟨5, (.int .u8), [(false, (.int .u64)), (false, (.int .i64))], m61⟩)] [] []) ⟨[(0, ⟨[.slot 4 (.v 5 (.int .u8) true), .slot 38 (.d false (.int .i64) true)], [4], [(some 0, [.slot 4 (.v 5 (.int .u8) true)])], none⟩), (2, ⟨[.slot 4 (.v 5 (.int .u8) true), .slot 55 (.d false (.int .i64) true)], [5], [(some 2, [.slot 4 (.v 5 (.int .u8) true)])], none⟩)], []⟩ Try.f62 [(true, (.pair (.int .i64) (.pair (.int .i64) (.pair (.sl (.pair (.int .i64) .bool)) (.pair (.sl (.int .i64)) (.int .i64))))))] [(false, (.sl (.int .u8))), (false, (.int .i64))] false x
theorem r62_eq : r62 = m62 := by kernel_rfl

theorem c62 : CS.Sound Try.prog 62 ⟨[(true, (.pair (.int .i64) (.pair (.int .i64) (.pair (.sl (.pair (.int .i64) .bool)) (.pair (.sl (.int .i64)) (.int .i64))))))], [(false, (.sl (.int .u8))), (false, (.int .i64))], false, m62⟩ := afun_sound' (envOf_sound (CSs.cons c82 (CSs.nil)) (HDs.cons (COc.Sound.hd c60) (HDs.cons (COc.Sound.hd c61) (HDs.nil))) (IDs.nil)) rfl Try.follows (f := 62) (fn := Try.f62) Try.func62 (by kernel_rfl) (by kernel_rfl) r62_eq
end Go.Proofs.Ytjleeabhpfmhaaa
end

section
open Go Go.Proofs.AM
namespace Go.Proofs.Ytjleeabhpfmhaaa

noncomputable def m38 (x : (List Int) × Unit) : Option ((Int × (Int × ((List (Int × Bool)) × ((List Int) × Int)))) × (Int × Unit)) :=
 bif (!(decide ((((List.length x.1) : Nat) : Int) = (256 : Int)))) then
 (some (((0 : Int), ((0 : Int), (([] : List (Int × Bool)), (([] : List Int), (0 : Int))))), ((170 : Int), ())))
 else
 (gd ((4 : Int) ≤ (((List.length x.1) : Nat) : Int)) (gd ((((List.length x.1) : Nat) : Int) ≤ (((List.length x.1) : Nat) : Int)) (Option.bind (m35 ((List.take ((Int.toNat (((List.length x.1) : Nat) : Int)) - (Int.toNat (4 : Int))) (List.drop (Int.toNat (4 : Int)) x.1)), ((1 : Int), ()))) fun (y1 : (Int × ((List Int) × Unit))) =>
 Option.bind (m35 (y1.2.1, ((8 : Int), ()))) fun (y2 : (Int × ((List Int) × Unit))) =>
 Option.bind (m35 (y2.2.1, ((1 : Int), ()))) fun (y3 : (Int × ((List Int) × Unit))) =>
 bif (decide ((Go.IntKind.wrap .i64 y1.1) = (1 : Int))) then
 (bif (decide (y3.1 ≤ (48 : Int))) then
 (Option.bind (loopM (X := ((List Int) × (Int × (Int × (Int × ((List (Int × Bool)) × ((List Int) × Int))))))) (E := (Int × (Int × ((List (Int × Bool)) × ((List Int) × Int))))) (fun (x4 : ((List Int) × (Int × (Int × (Int × ((List (Int × Bool)) × ((List Int) × Int))))))) =>
 bif (decide (x4.2.1 < y3.1)) then
 (Option.bind (m35 (x4.1, ((4 : Int), ()))) fun (y5 : (Int × ((List Int) × Unit))) =>
 Option.bind (m35 (y5.2.1, ((1 : Int), ()))) fun (y6 : (Int × ((List Int) × Unit))) =>
 gd ((((List.length x4.2.2.2.2.1) + (List.length (((Go.IntKind.wrap .i64 y5.1), (decide (y6.1 = (1 : Int)))) :: ([] : List (Int × Bool))))) * 16) ≤ 140737488355328) (gd (((List.length x4.2.2.2.2.1) + (List.length (((Go.IntKind.wrap .i64 y5.1), (decide (y6.1 = (1 : Int)))) :: ([] : List (Int × Bool))))) ≤ 140737488355328) (some (Sum.inl (y6.2.1, ((Go.IntKind.wrap .u64 (x4.2.1 + (1 : Int))), (x4.2.2.1, (x4.2.2.2.1, ((x4.2.2.2.2.1 ++ (((Go.IntKind.wrap .i64 y5.1), (decide (y6.1 = (1 : Int)))) :: ([] : List (Int × Bool)))), (x4.2.2.2.2.2.1, x4.2.2.2.2.2.2))))))))))
 else
 (some (Sum.inr (x4.2.2.1, (x4.2.2.2.1, (x4.2.2.2.2.1, (x4.2.2.2.2.2.1, x4.2.2.2.2.2.2))))))) (y3.2.1, ((0 : Int), ((Go.IntKind.wrap .i64 y1.1), ((Go.IntKind.wrap .i64 y2.1), (([] : List (Int × Bool)), (([] : List Int), (0 : Int)))))))) fun (y4 : (Int × (Int × ((List (Int × Bool)) × ((List Int) × Int))))) =>
 Option.bind (m62 (y4, ())) fun (y5 : ((List Int) × (Int × Unit))) =>
 bif (!(decide (y5.2.1 = (0 : Int)))) then
 (some (((0 : Int), ((0 : Int), (([] : List (Int × Bool)), (([] : List Int), (0 : Int))))), ((170 : Int), ())))
 else
 (Option.bind (m37 (y5.1, (x.1, ()))) fun (y6 : (Bool × Unit)) =>
 bif (!y6.1) then
 (some (((0 : Int), ((0 : Int), (([] : List (Int × Bool)), (([] : List Int), (0 : Int))))), ((170 : Int), ())))
 else
 (some (y4, ((0 : Int), ())))))
 else
 (bif (decide ((Go.IntKind.wrap .i64 y1.1) = (3 : Int))) then
 (bif (decide (y3.1 ≤ (60 : Int))) then
 (Option.bind (loopM (X := ((List Int) × (Int × (Int × (Int × ((List (Int × Bool)) × ((List Int) × Int))))))) (E := (Int × (Int × ((List (Int × Bool)) × ((List Int) × Int))))) (fun (x4 : ((List Int) × (Int × (Int × (Int × ((List (Int × Bool)) × ((List Int) × Int))))))) =>
 bif (decide (x4.2.1 < y3.1)) then
 (Option.bind (m35 (x4.1, ((4 : Int), ()))) fun (y5 : (Int × ((List Int) × Unit))) =>
 gd ((((List.length x4.2.2.2.2.2.1) + (List.length ((Go.IntKind.wrap .i64 y5.1) :: ([] : List Int)))) * 8) ≤ 140737488355328) (gd (((List.length x4.2.2.2.2.2.1) + (List.length ((Go.IntKind.wrap .i64 y5.1) :: ([] : List Int)))) ≤ 140737488355328) (some (Sum.inl (y5.2.1, ((Go.IntKind.wrap .u64 (x4.2.1 + (1 : Int))), (x4.2.2.1, (x4.2.2.2.1, (x4.2.2.2.2.1, ((x4.2.2.2.2.2.1 ++ ((Go.IntKind.wrap .i64 y5.1) :: ([] : List Int))), x4.2.2.2.2.2.2))))))))))
 else
 (some (Sum.inr (x4.2.2.1, (x4.2.2.2.1, (x4.2.2.2.2.1, (x4.2.2.2.2.2.1, x4.2.2.2.2.2.2))))))) (y3.2.1, ((0 : Int), ((Go.IntKind.wrap .i64 y1.1), ((Go.IntKind.wrap .i64 y2.1), (([] : List (Int × Bool)), (([] : List Int), (0 : Int)))))))) fun (y4 : (Int × (Int × ((List (Int × Bool)) × ((List Int) × Int))))) =>
 Option.bind (m62 (y4, ())) fun (y5 : ((List Int) × (Int × Unit))) =>
 bif (!(decide (y5.2.1 = (0 : Int)))) then
 (some (((0 : Int), ((0 : Int), (([] : List (Int × Bool)), (([] : List Int), (0 : Int))))), ((170 : Int), ())))
 else
 (Option.bind (m37 (y5.1, (x.1, ()))) fun (y6 : (Bool × Unit)) =>
 bif (!y6.1) then
 (some (((0 : Int), ((0 : Int), (([] : List (Int × Bool)), (([] : List Int), (0 : Int))))), ((170 : Int), ())))
 else
 (some (y4, ((0 : Int), ())))))
 else
 (Option.bind (m62 (((Go.IntKind.wrap .i64 y1.1), ((Go.IntKind.wrap .i64 y2.1), (([] : List (Int × Bool)), (([] : List Int), (Go.IntKind.wrap .i64 y3.1))))), ())) fun (y4 : ((List Int) × (Int × Unit))) =>
 bif (!(decide (y4.2.1 = (0 : Int)))) then
 (some (((0 : Int), ((0 : Int), (([] : List (Int × Bool)), (([] : List Int), (0 : Int))))), ((170 : Int), ())))
 else
 (Option.bind (m37 (y4.1, (x.1, ()))) fun (y5 : (Bool × Unit)) =>
 bif (!y5.1) then
 (some (((0 : Int), ((0 : Int), (([] : List (Int × Bool)), (([] : List Int), (0 : Int))))), ((170 : Int), ())))
 else
 (some (((Go.IntKind.wrap .i64 y1.1), ((Go.IntKind.wrap .i64 y2.1), (([] : List (Int × Bool)), (([] : List Int), (Go.IntKind.wrap .i64 y3.1))))), ((0 : Int), ()))))))
 else
 (Option.bind (m62 (((Go.IntKind.wrap .i64 y1.1), ((Go.IntKind.wrap .i64 y2.1), (([] : List (Int × Bool)), (([] : List Int), (Go.IntKind.wrap .i64 y3.1))))), ())) fun (y4 : ((List Int) × (Int × Unit))) =>
 bif (!(decide (y4.2.1 = (0 : Int)))) then
 (some (((0 : Int), ((0 : Int), (([] : List (Int × Bool)), (([] : List Int), (0 : Int))))), ((170 : Int), ())))
 else
 (Option.bind (m37 (y4.1, (x.1, ()))) fun (y5 : (Bool × Unit)) =>
 bif (!y5.1) then
 (some (((0 : Int), ((0 : Int), (([] : List (Int × Bool)), (([] : List Int), (0 : Int))))), ((170 : Int), ())))
 else
 (some (((Go.IntKind.wrap .i64 y1.1), ((Go.IntKind.wrap .i64 y2.1), (([] : List (Int × Bool)), (([] : List Int), (Go.IntKind.wrap .i64 y3.1))))), ((0 : Int), ())))))))
 else
 (bif (decide ((Go.IntKind.wrap .i64 y1.1) = (3 : Int))) then
 (bif (decide (y3.1 ≤ (60 : Int))) then
 (Option.bind (loopM (X := ((List Int) × (Int × (Int × (Int × ((List (Int × Bool)) × ((List Int) × Int))))))) (E := (Int × (Int × ((List (Int × Bool)) × ((List Int) × Int))))) (fun (x4 : ((List Int) × (Int × (Int × (Int × ((List (Int × Bool)) × ((List Int) × Int))))))) =>
 bif (decide (x4.2.1 < y3.1)) then
 (Option.bind (m35 (x4.1, ((4 : Int), ()))) fun (y5 : (Int × ((List Int) × Unit))) =>
 gd ((((List.length x4.2.2.2.2.2.1) + (List.length ((Go.IntKind.wrap .i64 y5.1) :: ([] : List Int)))) * 8) ≤ 140737488355328) (gd (((List.length x4.2.2.2.2.2.1) + (List.length ((Go.IntKind.wrap .i64 y5.1) :: ([] : List Int)))) ≤ 140737488355328) (some (Sum.inl (y5.2.1, ((Go.IntKind.wrap .u64 (x4.2.1 + (1 : Int))), (x4.2.2.1, (x4.2.2.2.1, (x4.2.2.2.2.1, ((x4.2.2.2.2.2.1 ++ ((Go.IntKind.wrap .i64 y5.1) :: ([] : List Int))), x4.2.2.2.2.2.2))))))))))
 else
 (some (Sum.inr (x4.2.2.1, (x4.2.2.2.1, (x4.2.2.2.2.1, (x4.2.2.2.2.2.1, x4.2.2.2.2.2.2))))))) (y3.2.1, ((0 : Int), ((Go.IntKind.wrap .i64 y1.1), ((Go.IntKind.wrap .i64 y2.1), (([] : List (Int × Bool)), (([] : List Int), (0 : Int)))))))) fun (y4 : (Int × (Int × ((List (Int × Bool)) × ((List Int) × Int))))) =>
 Option.bind (m62 (y4, ())) fun (y5 : ((List Int) × (Int × Unit))) =>
 bif (!(decide (y5.2.1 = (0 : Int)))) then
 (some (((0 : Int), ((0 : Int), (([] : List (Int × Bool)), (([] : List Int), (0 : Int))))), ((170 : Int), ())))
 else
 (Option.bind (m37 (y5.1, (x.1, ()))) fun (y6 : (Bool × Unit)) =>
 bif (!y6.1) then
 (some (((0 : Int), ((0 : Int), (([] : List (Int × Bool)), (([] : List Int), (0 : Int))))), ((170 : Int), ())))
 else
 (some (y4, ((0 : Int), ())))))
 else
 (Option.bind (m62 (((Go.IntKind.wrap .i64 y1.1), ((Go.IntKind.wrap .i64 y2.1), (([] : List (Int × Bool)), (([] : List Int), (Go.IntKind.wrap .i64 y3.1))))), ())) fun (y4 : ((List Int) × (Int × Unit))) =>
 bif (!(decide (y4.2.1 = (0 : Int)))) then
 (some (((0 : Int), ((0 : Int), (([] : List (Int × Bool)), (([] : List Int), (0 : Int))))), ((170 : Int), ())))
 else
 (Option.bind (m37 (y4.1, (x.1, ()))) fun (y5 : (Bool × Unit)) =>
 bif (!y5.1) then
 (some (((0 : Int), ((0 : Int), (([] : List (Int × Bool)), (([] : List Int), (0 : Int))))), ((170 : Int), ())))
 else
 (some (((Go.IntKind.wrap .i64 y1.1), ((Go.IntKind.wrap .i64 y2.1), (([] : List (Int × Bool)), (([] : List Int), (Go.IntKind.wrap .i64 y3.1))))), ((0 : Int), ()))))))
 else
 (Option.bind (m62 (((Go.IntKind.wrap .i64 y1.1), ((Go.IntKind.wrap .i64 y2.1), (([] : List (Int × Bool)), (([] : List Int), (Go.IntKind.wrap .i64 y3.1))))), ())) fun (y4 : ((List Int) × (Int × Unit))) =>
 bif (!(decide (y4.2.1 = (0 : Int)))) then
 (some (((0 : Int), ((0 : Int), (([] : List (Int × Bool)), (([] : List Int), (0 : Int))))), ((170 : Int), ())))
 else
 (Option.bind (m37 (y4.1, (x.1, ()))) fun (y5 : (Bool × Unit)) =>
 bif (!y5.1) then
 (some (((0 : Int), ((0 : Int), (([] : List (Int × Bool)), (([] : List Int), (0 : Int))))), ((170 : Int), ())))
 else
 (some (((Go.IntKind.wrap .i64 y1.1), ((Go.IntKind.wrap .i64 y2.1), (([] : List (Int × Bool)), (([] : List Int), (Go.IntKind.wrap .i64 y3.1))))), ((0 : Int), ())))))))))

noncomputable def r38 : PDen [(false, (.sl (.int .u8)))] → Option (PDen [(true, (.pair (.int .i64) (.pair (.int .i64) (.pair (.sl (.pair (.int .i64) .bool)) (.pair (.sl (.int .i64)) (.int .i64)))))), (false, (.int .i64))]) := fun x => afun Try.prog (envOf [(35, ⟨[(false, (.sl (.int .u8))), (false, (.int .i64))], [(false, (.int .u64)), (false, (.sl (.int .u8)))], true, m35⟩), (37, ⟨[(false, (.sl (.int .u8))), (false, (.sl (.int .u8)))], [(false, .bool)], false, m37⟩), (62, ⟨[(true, (.pair (.int .i64) (.pair (.int .i64) (.pair (.sl (.pair (.int .i64) .bool)) (.pair (.sl (.int .i64)) (.int .i64))))))], [(false, (.sl (.int .u8))), (false, (.int .i64))], false, m62⟩)] [] [] []) ⟨[(1, ⟨[.slot 5 (.d false (.sl (.int .u8)) false), .slot 51 (.d false (.int .u64) true), .cell 1 0 (.d false (.int .i64) true), .cell 1 1 (.d false (.int .i64) true), .cell 1 2 (.v 90 (.pair (.int .i64) .bool) true), .cell 1 3 (.v 3 (.int .i64) true), .cell 1 4 (.d false (.int .i64) true)], [], [(some 1, [.cell 1 0 (.d false (.int .i64) true), .cell 1 1 (.d false (.int .i64) true), .cell 1 2 (.v 90 (.pair (.int .i64) .bool) true), .cell 1 3 (.v 3 (.int .i64) true), .cell 1 4 (.d false (.int .i64) true)])], none⟩), (3, ⟨[.slot 5 (.d false (.sl (.int .u8)) false), .slot 83 (.d false (.int .u64) true), .cell 1 0 (.d false (.int .i64) true), .cell 1 1 (.d false (.int .i64) true), .cell 1 2 (.v 90 (.pair (.int .i64) .bool) true), .cell 1 3 (.v 3 (.int .i64) true), .cell 1 4 (.d false (.int .i64) true)], [], [(some 3, [.cell 1 0 (.d false (.int .i64) true), .cell 1 1 (.d false (.int .i64) true), .cell 1 2 (.v 90 (.pair (.int .i64) .bool) true), .cell 1 3 (.v 3 (.int .i64) true), .cell 1 4 (.d false (.int .i64) true)])], none⟩)], []⟩ Try.f38 [(false, (.sl (.int .u8)))] [(true, (.pair (.int .i64) (.pair (.int .i64) (.pair (.sl (.pair (.int .i64) .bool)) (.pair (.sl (.int .i64)) (.int .i64)))))), (false, (.int .i64))] false x
theorem r38_eq : r38 = m38 := by kernel_rfl

theorem c38 : CS.Sound Try.prog 38 ⟨[(false, (.sl (.int .u8)))], [(true, (.pair (.int .i64) (.pair (.int .i64) (.pair (.sl (.pair (.int .i64) .bool)) (.pair (.sl (.int .i64)) (.int .i64)))))), (false, (.int .i64))], false, m38⟩ := afun_sound' (envOf_sound (CSs.cons c35 (CSs.cons c37 (CSs.cons c62 (CSs.nil)))) (HDs.nil) (IDs.nil)) rfl Try.follows (f := 38) (fn := Try.f38) Try.func38 (by kernel_rfl) (by kernel_rfl) r38_eq
end Go.Proofs.Ytjleeabhpfmhaaa
end

section
open Go Go.Proofs.AM
namespace Go.Proofs.Ytjleeabhpfmhaaa

noncomputable def m63 (x : Unit) : Option ((List Int) × Unit) :=
 Option.bind (m61 (([] : List Int), ((1397508641 : Int), ((4 : Int), ())))) fun (y1 : (List Int)) =>
 some (y1, ())

noncomputable def r63 : PDen [] → Option (PDen [(false, (.sl (.int .u8)))]) := fun x => afun Try.prog (envOf [] [(61, COc.hd ⟨5, (.int .u8), [(false, (.int .u64)), (false, (.int .i64))], m61⟩)] [] []) ⟨[], []⟩ Try.f63 [] [(false, (.sl (.int .u8)))] false x
theorem r63_eq : r63 = m63 := by kernel_rfl

theorem c63 : CS.Sound Try.prog 63 ⟨[], [(false, (.sl (.int .u8)))], false, m63⟩ := afun_sound' (envOf_sound (CSs.nil) (HDs.cons (COc.Sound.hd c61) (HDs.nil)) (IDs.nil)) rfl Try.follows (f := 63) (fn := Try.f63) Try.func63 (by kernel_rfl) (by kernel_rfl) r63_eq
end Go.Proofs.Ytjleeabhpfmhaaa
end

section
open Go Go.Proofs.AM
namespace Go.Proofs.Ytjleeabhpfmhaaa

noncomputable def m52 (x : (List Int) × Unit) : Option ((List Int) × Unit) :=
 both (bif (decide ((((List.length x.1) : Nat) : Int) = (0 : Int))) then
 (some (([] : List Int), ()))
 else
 (gd ((((List.length ([] : List Int)) + (List.length x.1)) * 1) ≤ 140737488355328) (gd (((List.length ([] : List Int)) + (List.length x.1)) ≤ 140737488355328) (some ((([] : List Int) ++ x.1), ()))))) (gd ((((List.length ([] : List Int)) + (List.length x.1)) * 1) ≤ 140737488355328) (gd (((List.length ([] : List Int)) + (List.length x.1)) ≤ 140737488355328) (some ((([] : List Int) ++ x.1), ()))))

noncomputable def r52 : PDen [(false, (.sl (.int .u8)))] → Option (PDen [(false, (.sl (.int .u8)))]) := fun x => afunM Try.prog (envOf [] [] [] []) ⟨[], []⟩ Try.f52 [(false, (.sl (.int .u8)))] [(false, (.sl (.int .u8)))] [(.s 5)] false x
theorem r52_eq : r52 = m52 := by kernel_rfl

theorem c52 : OM.Sound Try.prog 52 ⟨[(false, (.sl (.int .u8)))], [(false, (.sl (.int .u8)))], [(.s 5)], false, m52⟩ := afunM_sound' (envOf_sound (CSs.nil) (HDs.nil) (IDs.nil)) rfl Try.follows (f := 52) (fn := Try.f52) Try.func52 (by kernel_rfl) (by kernel_rfl) r52_eq
end Go.Proofs.Ytjleeabhpfmhaaa
end

section
open Go Go.Proofs.AM
namespace Go.Proofs.Ytjleeabhpfmhaaa

noncomputable def m39 (x : (List Int) × Bool × Unit) : Option ((List Int) × Unit) :=
 Option.bind (m52 (x.1, ())) fun (y1 : ((List Int) × Unit)) =>
 bif x.2.1 then
 (bif (decide ((((List.length y1.1) : Nat) : Int) ≥ (4 : Int))) then
 (Option.bind (m63 ()) fun (y2 : ((List Int) × Unit)) =>
 some (((List.take (List.length y1.1) y2.1) ++ (List.drop (List.length y2.1) y1.1)), ()))
 else
 (some (y1.1, ())))
 else
 (some (y1.1, ()))

noncomputable def r39 : PDen [(false, (.sl (.int .u8))), (false, .bool)] → Option (PDen [(false, (.sl (.int .u8)))]) := fun x => afun Try.prog (envOf [(63, ⟨[], [(false, (.sl (.int .u8)))], false, m63⟩)] [(52, OM.hd ⟨[(false, (.sl (.int .u8)))], [(false, (.sl (.int .u8)))], [(.s 5)], false, m52⟩)] [] []) ⟨[], []⟩ Try.f39 [(false, (.sl (.int .u8))), (false, .bool)] [(false, (.sl (.int .u8)))] false x
theorem r39_eq : r39 = m39 := by kernel_rfl

theorem c39 : CS.Sound Try.prog 39 ⟨[(false, (.sl (.int .u8))), (false, .bool)], [(false, (.sl (.int .u8)))], false, m39⟩ := afun_sound' (envOf_sound (CSs.cons c63 (CSs.nil)) (HDs.cons (OM.Sound.hd c52) (HDs.nil)) (IDs.nil)) rfl Try.follows (f := 39) (fn := Try.f39) Try.func39 (by kernel_rfl) (by kernel_rfl) r39_eq
end Go.Proofs.Ytjleeabhpfmhaaa
end

section
open Go Go.Proofs.AM
namespace Go.Proofs.Ytjleeabhpfmhaaa

noncomputable def m87 (x : Int × Int × Unit) : Option (Int × Unit) :=
 if x.2.1 = (0 : Int) then
 (none)
 else
 (some ((Go.IntKind.wrap .i64 (Int.tdiv (Go.IntKind.wrap .i64 ((Go.IntKind.wrap .i64 (x.1 + x.2.1)) - (1 : Int))) x.2.1)), ()))

noncomputable def r87 : PDen [(false, (.int .i64)), (false, (.int .i64))] → Option (PDen [(false, (.int .i64))]) := fun x => afun Try.prog (envOf [] [] [] []) ⟨[], []⟩ Try.f87 [(false, (.int .i64)), (false, (.int .i64))] [(false, (.int .i64))] false x
theorem r87_eq : r87 = m87 := by kernel_rfl

theorem c87 : CS.Sound Try.prog 87 ⟨[(false, (.int .i64)), (false, (.int .i64))], [(false, (.int .i64))], false, m87⟩ := afun_sound' (envOf_sound (CSs.nil) (HDs.nil) (IDs.nil)) rfl Try.follows (f := 87) (fn := Try.f87) Try.func87 (by kernel_rfl) (by kernel_rfl) r87_eq
end Go.Proofs.Ytjleeabhpfmhaaa
end

section
open Go Go.Proofs.AM
namespace Go.Proofs.Ytjleeabhpfmhaaa

noncomputable def m73 (x : TyT × Unit) : Option (Int × Unit) :=
 Option.bind (m87 ((((List.length x.1.2.2) : Nat) : Int), ((60 : Int), ()))) fun (y1 : (Int × Unit)) =>
 Option.bind (m87 ((((List.length x.1.2.1) : Nat) : Int), ((48 : Int), ()))) fun (y2 : (Int × Unit)) =>
 some ((Go.IntKind.wrap .i64 ((Go.IntKind.wrap .i64 ((Go.IntKind.wrap .i64 (y1.1 + y2.1)) + (((List.length x.1.2.1) : Nat) : Int))) + (1 : Int))), ())

noncomputable def r73 : PDen [(true, (.pair (.int .i64) (.pair (.sl (.pair (.int .i64) (.sl (.int .u8)))) (.sl (.int .i64)))))] → Option (PDen [(false, (.int .i64))]) := fun x => afun Try.prog (envOf [(87, ⟨[(false, (.int .i64)), (false, (.int .i64))], [(false, (.int .i64))], false, m87⟩)] [] [] []) ⟨[], []⟩ Try.f73 [(true, (.pair (.int .i64) (.pair (.sl (.pair (.int .i64) (.sl (.int .u8)))) (.sl (.int .i64)))))] [(false, (.int .i64))] false x
theorem r73_eq : r73 = m73 := by kernel_rfl

theorem c73 : CS.Sound Try.prog 73 ⟨[(true, (.pair (.int .i64) (.pair (.sl (.pair (.int .i64) (.sl (.int .u8)))) (.sl (.int .i64)))))], [(false, (.int .i64))], false, m73⟩ := afun_sound' (envOf_sound (CSs.cons c87 (CSs.nil)) (HDs.nil) (IDs.nil)) rfl Try.follows (f := 73) (fn := Try.f73) Try.func73 (by kernel_rfl) (by kernel_rfl) r73_eq
end Go.Proofs.Ytjleeabhpfmhaaa
end

section
open Go Go.Proofs.AM
namespace Go.Proofs.Ytjleeabhpfmhaaa

noncomputable def m51 (x : TyT × Unit) : Option (Int × Unit) :=
 Option.bind (m58 (x.1.1, ())) fun (y1 : (Bool × Unit)) =>
 bif (!y1.1) then
 (some ((171 : Int), ()))
 else
 (bif (decide ((Go.IntKind.wrap .i64 ((((List.length x.1.2.1) : Nat) : Int) + (((List.length x.1.2.2) : Nat) : Int))) = (0 : Int))) then
 (some ((171 : Int), ()))
 else
 (Option.bind (m73 (x.1, ())) fun (y2 : (Int × Unit)) =>
 bif (decide (y2.1 > (63 : Int))) then
 (some ((171 : Int), ()))
 else
 (Option.bind (loopM (X := (Int × (List (Int × Bool)))) (E := ((List (Int × Bool)) ⊕ (Int × (List (Int × Bool))))) (fun (x3 : (Int × (List (Int × Bool)))) =>
 bif (decide (x3.1 < (((List.length x.1.2.1) : Nat) : Int))) then
 (gd ((0 : Int) ≤ x3.1) (gd (x3.1 < (((List.length x.1.2.1) : Nat) : Int)) (Option.bind (m75 ((List.getD x.1.2.1 (Int.toNat x3.1) ((0 : Int), ([] : List Int))).1, ())) fun (y4 : (Bool × Unit)) =>
 bif y4.1 then
 (bif (!(!(mget (false, (.int .i64)) x3.2 (List.getD x.1.2.1 (Int.toNat x3.1) ((0 : Int), ([] : List Int))).1 false))) then
 (some (Sum.inr (Sum.inr ((171 : Int), (mset (false, (.int .i64)) x3.2 (List.getD x.1.2.1 (Int.toNat x3.1) ((0 : Int), ([] : List Int))).1 true)))))
 else
 (bif (!(decide ((((List.length (List.getD x.1.2.1 (Int.toNat x3.1) ((0 : Int), ([] : List Int))).2) : Nat) : Int) = (256 : Int)))) then
 (some (Sum.inr (Sum.inr ((171 : Int), (mset (false, (.int .i64)) x3.2 (List.getD x.1.2.1 (Int.toNat x3.1) ((0 : Int), ([] : List Int))).1 true)))))
 else
 (some (Sum.inl ((Go.IntKind.wrap .i64 (x3.1 + (1 : Int))), (mset (false, (.int .i64)) x3.2 (List.getD x.1.2.1 (Int.toNat x3.1) ((0 : Int), ([] : List Int))).1 true))))))
 else
 (some (Sum.inr (Sum.inr ((171 : Int), (mset (false, (.int .i64)) x3.2 (List.getD x.1.2.1 (Int.toNat x3.1) ((0 : Int), ([] : List Int))).1 true))))))))
 else
 (some (Sum.inr (Sum.inl x3.2)))) ((0 : Int), ([] : List (Int × Bool)))) fun (y3 : ((List (Int × Bool)) ⊕ (Int × (List (Int × Bool))))) =>
 Sum.elim (fun y4 =>
 Option.bind (loopM (X := (Int × (List (Int × Bool)))) (E := ((List (Int × Bool)) ⊕ (Int × (List (Int × Bool))))) (fun (x5 : (Int × (List (Int × Bool)))) =>
 bif (decide (x5.1 < (((List.length x.1.2.2) : Nat) : Int))) then
 (gd ((0 : Int) ≤ x5.1) (gd (x5.1 < (((List.length x.1.2.2) : Nat) : Int)) (Option.bind (m75 ((List.getD x.1.2.2 (Int.toNat x5.1) (0 : Int)), ())) fun (y6 : (Bool × Unit)) =>
 bif y6.1 then
 (bif (!(!(mget (false, (.int .i64)) x5.2 (List.getD x.1.2.2 (Int.toNat x5.1) (0 : Int)) false))) then
 (some (Sum.inr (Sum.inr ((171 : Int), (mset (false, (.int .i64)) x5.2 (List.getD x.1.2.2 (Int.toNat x5.1) (0 : Int)) true)))))
 else
 (some (Sum.inl ((Go.IntKind.wrap .i64 (x5.1 + (1 : Int))), (mset (false, (.int .i64)) x5.2 (List.getD x.1.2.2 (Int.toNat x5.1) (0 : Int)) true)))))
 else
 (some (Sum.inr (Sum.inr ((171 : Int), (mset (false, (.int .i64)) x5.2 (List.getD x.1.2.2 (Int.toNat x5.1) (0 : Int)) true))))))))
 else
 (some (Sum.inr (Sum.inl x5.2)))) ((0 : Int), y4)) fun (y5 : ((List (Int × Bool)) ⊕ (Int × (List (Int × Bool))))) =>
 Sum.elim (fun y6 =>
 some ((0 : Int), ())) (fun y6 =>
 some (y6.1, ())) y5) (fun y4 =>
 some (y4.1, ())) y3)))

noncomputable def i51_74 : ID := aInl Try.prog (envOf [(75, ⟨[(false, (.int .i64))], [(false, .bool)], false, m75⟩)] [] [] []) ⟨[], []⟩ Try.f74
noncomputable def r51 : PDen [(true, (.pair (.int .i64) (.pair (.sl (.pair (.int .i64) (.sl (.int .u8)))) (.sl (.int .i64)))))] → Option (PDen [(false, (.int .i64))]) := fun x => afun Try.prog (envOf [(58, ⟨[(false, (.int .i64))], [(false, .bool)], false, m58⟩), (73, ⟨[(true, (.pair (.int .i64) (.pair (.sl (.pair (.int .i64) (.sl (.int .u8)))) (.sl (.int .i64)))))], [(false, (.int .i64))], false, m73⟩)] [] [] [(74, i51_74)]) ⟨[(0, ⟨[.slot 33 (.d false (.int .i64) true), .map 1 (false, (.int .i64)) (false, .bool) true], [], [(some 0, [.map 1 (false, (.int .i64)) (false, .bool) true]), (none, [.slot 2 (.d false (.int .i64) true), .map 1 (false, (.int .i64)) (false, .bool) true])], none⟩), (2, ⟨[.slot 52 (.d false (.int .i64) true), .map 1 (false, (.int .i64)) (false, .bool) true], [], [(some 2, [.map 1 (false, (.int .i64)) (false, .bool) true]), (none, [.slot 2 (.d false (.int .i64) true), .map 1 (false, (.int .i64)) (false, .bool) true])], none⟩)], []⟩ Try.f51 [(true, (.pair (.int .i64) (.pair (.sl (.pair (.int .i64) (.sl (.int .u8)))) (.sl (.int .i64)))))] [(false, (.int .i64))] false x
theorem r51_eq : r51 = m51 := by kernel_rfl

theorem i51_74_sound : i51_74.Sound Try.prog 74 := aInl_sound' (envOf_sound (CSs.cons c75 (CSs.nil)) (HDs.nil) (IDs.nil)) Try.follows (f := 74) (fn := Try.f74) Try.func74 (by kernel_rfl) (by kernel_rfl)
theorem c51 : CS.Sound Try.prog 51 ⟨[(true, (.pair (.int .i64) (.pair (.sl (.pair (.int .i64) (.sl (.int .u8)))) (.sl (.int .i64)))))], [(false, (.int .i64))], false, m51⟩ := afun_sound' (envOf_sound (CSs.cons c58 (CSs.cons c73 (CSs.nil))) (HDs.nil) (IDs.cons i51_74_sound (IDs.nil))) rfl Try.follows (f := 51) (fn := Try.f51) Try.func51 (by kernel_rfl) (by kernel_rfl) r51_eq
end Go.Proofs.Ytjleeabhpfmhaaa
end

section
open Go Go.Proofs.AM
namespace Go.Proofs.Ytjleeabhpfmhaaa

noncomputable def m85 (x : (List Int) × (List Int) × Unit) : Option (Bool × Unit) :=
 bif (decide ((((List.length x.1) : Nat) : Int) ≥ (((List.length x.2.1) : Nat) : Int))) then
 (gd ((0 : Int) ≤ (((List.length x.2.1) : Nat) : Int)) (gd ((((List.length x.2.1) : Nat) : Int) ≤ (((List.length x.1) : Nat) : Int)) (Option.bind (m37 ((List.take ((Int.toNat (((List.length x.2.1) : Nat) : Int)) - (Int.toNat (0 : Int))) (List.drop (Int.toNat (0 : Int)) x.1)), (x.2.1, ()))) fun (y1 : (Bool × Unit)) =>
 some (y1.1, ()))))
 else
 (some (false, ()))

noncomputable def r85 : PDen [(false, (.sl (.int .u8))), (false, (.sl (.int .u8)))] → Option (PDen [(false, .bool)]) := fun x => afun Try.prog (envOf [(37, ⟨[(false, (.sl (.int .u8))), (false, (.sl (.int .u8)))], [(false, .bool)], false, m37⟩)] [] [] []) ⟨[], []⟩ Try.f85 [(false, (.sl (.int .u8))), (false, (.sl (.int .u8)))] [(false, .bool)] false x
theorem r85_eq : r85 = m85 := by kernel_rfl

theorem c85 : CS.Sound Try.prog 85 ⟨[(false, (.sl (.int .u8))), (false, (.sl (.int .u8)))], [(false, .bool)], false, m85⟩ := afun_sound' (envOf_sound (CSs.cons c37 (CSs.nil)) (HDs.nil) (IDs.nil)) rfl Try.follows (f := 85) (fn := Try.f85) Try.func85 (by kernel_rfl) (by kernel_rfl) r85_eq
end Go.Proofs.Ytjleeabhpfmhaaa
end

section
open Go Go.Proofs.AM
namespace Go.Proofs.Ytjleeabhpfmhaaa

noncomputable def m67 (x : (List Int) × Unit) : Option ((List Int) × (Bool × Unit)) :=
 Option.bind (m52 (x.1, ())) fun (y1 : ((List Int) × Unit)) =>
 Option.bind (m63 ()) fun (y2 : ((List Int) × Unit)) =>
 Option.bind (m85 (x.1, (y2.1, ()))) fun (y3 : (Bool × Unit)) =>
 bif (!y3.1) then
 (some (y1.1, (false, ())))
 else
 (gd ((4 : Int) ≤ (((List.length y1.1) : Nat) : Int)) (gd (((Int.toNat (0 : Int)) + ((Int.toNat (4 : Int)) - (Int.toNat (0 : Int)))) ≤ (List.length y1.1)) (some ((((List.take (Int.toNat (0 : Int)) y1.1) ++ (List.replicate ((Int.toNat (4 : Int)) - (Int.toNat (0 : Int))) (0 : Int))) ++ (List.drop ((Int.toNat (0 : Int)) + ((Int.toNat (4 : Int)) - (Int.toNat (0 : Int)))) y1.1)), (true, ())))))

noncomputable def r67 : PDen [(false, (.sl (.int .u8)))] → Option (PDen [(false, (.sl (.int .u8))), (false, .bool)]) := fun x => afun Try.prog (envOf [(63, ⟨[], [(false, (.sl (.int .u8)))], false, m63⟩), (85, ⟨[(false, (.sl (.int .u8))), (false, (.sl (.int .u8)))], [(false, .bool)], false, m85⟩)] [(52, OM.hd ⟨[(false, (.sl (.int .u8)))], [(false, (.sl (.int .u8)))], [(.s 5)], false, m52⟩)] [] []) ⟨[], []⟩ Try.f67 [(false, (.sl (.int .u8)))] [(false, (.sl (.int .u8))), (false, .bool)] false x
theorem r67_eq : r67 = m67 := by kernel_rfl

theorem c67 : CS.Sound Try.prog 67 ⟨[(false, (.sl (.int .u8)))], [(false, (.sl (.int .u8))), (false, .bool)], false, m67⟩ := afun_sound' (envOf_sound (CSs.cons c63 (CSs.cons c85 (CSs.nil))) (HDs.cons (OM.Sound.hd c52) (HDs.nil)) (IDs.nil)) rfl Try.follows (f := 67) (fn := Try.f67) Try.func67 (by kernel_rfl) (by kernel_rfl) r67_eq
end Go.Proofs.Ytjleeabhpfmhaaa
end

section
open Go Go.Proofs.AM
namespace Go.Proofs.Ytjleeabhpfmhaaa

noncomputable def m40 (x : TyT × Unit) : Option ((List (List Int)) × (Int × Unit)) :=
 Option.bind (m51 (x.1, ())) fun (y1 : (Int × Unit)) =>
 bif (!(decide (y1.1 = (0 : Int)))) then
 (some (([] : List (List Int)), (y1.1, ())))
 else
 (bif (decide ((60 : Int) < (1 : Int))) then
 (none)
 else
 (Option.bind (loopM (X := (Int × (List (List Int)))) (E := (List (List Int))) (fun (x2 : (Int × (List (List Int)))) =>
 bif (decide (x2.1 < (((List.length x.1.2.2) : Nat) : Int))) then
 (gd ((0 : Int) ≤ x2.1) (gd (x2.1 ≤ (((List.length x.1.2.2) : Nat) : Int)) (gd ((((List.length x.1.2.2) : Nat) : Int) ≤ (((List.length x.1.2.2) : Nat) : Int)) (gd ((0 : Int) ≤ x2.1) (gd (x2.1 ≤ (Go.IntKind.wrap .i64 (x2.1 + (if (((List.length (List.take ((Int.toNat (((List.length x.1.2.2) : Nat) : Int)) - (Int.toNat x2.1)) (List.drop (Int.toNat x2.1) x.1.2.2))) : Nat) : Int) < (60 : Int) then (((List.length (List.take ((Int.toNat (((List.length x.1.2.2) : Nat) : Int)) - (Int.toNat x2.1)) (List.drop (Int.toNat x2.1) x.1.2.2))) : Nat) : Int) else (60 : Int))))) (gd ((Go.IntKind.wrap .i64 (x2.1 + (if (((List.length (List.take ((Int.toNat (((List.length x.1.2.2) : Nat) : Int)) - (Int.toNat x2.1)) (List.drop (Int.toNat x2.1) x.1.2.2))) : Nat) : Int) < (60 : Int) then (((List.length (List.take ((Int.toNat (((List.length x.1.2.2) : Nat) : Int)) - (Int.toNat x2.1)) (List.drop (Int.toNat x2.1) x.1.2.2))) : Nat) : Int) else (60 : Int)))) ≤ (Go.IntKind.wrap .i64 (x2.1 + (if (((List.length (List.take ((Int.toNat (((List.length x.1.2.2) : Nat) : Int)) - (Int.toNat x2.1)) (List.drop (Int.toNat x2.1) x.1.2.2))) : Nat) : Int) < (60 : Int) then (((List.length (List.take ((Int.toNat (((List.length x.1.2.2) : Nat) : Int)) - (Int.toNat x2.1)) (List.drop (Int.toNat x2.1) x.1.2.2))) : Nat) : Int) else (60 : Int))))) (gd ((Go.IntKind.wrap .i64 (x2.1 + (if (((List.length (List.take ((Int.toNat (((List.length x.1.2.2) : Nat) : Int)) - (Int.toNat x2.1)) (List.drop (Int.toNat x2.1) x.1.2.2))) : Nat) : Int) < (60 : Int) then (((List.length (List.take ((Int.toNat (((List.length x.1.2.2) : Nat) : Int)) - (Int.toNat x2.1)) (List.drop (Int.toNat x2.1) x.1.2.2))) : Nat) : Int) else (60 : Int)))) ≤ (((List.length x.1.2.2) : Nat) : Int)) (Option.bind (m62 (((3 : Int), (x.1.1, (([] : List (Int × Bool)), ((List.take ((Int.toNat (Go.IntKind.wrap .i64 (x2.1 + (if (((List.length (List.take ((Int.toNat (((List.length x.1.2.2) : Nat) : Int)) - (Int.toNat x2.1)) (List.drop (Int.toNat x2.1) x.1.2.2))) : Nat) : Int) < (60 : Int) then (((List.length (List.take ((Int.toNat (((List.length x.1.2.2) : Nat) : Int)) - (Int.toNat x2.1)) (List.drop (Int.toNat x2.1) x.1.2.2))) : Nat) : Int) else (60 : Int))))) - (Int.toNat x2.1)) (List.drop (Int.toNat x2.1) x.1.2.2)), (0 : Int))))), ())) fun (y3 : ((List Int) × (Int × Unit))) =>
 bif (decide (y3.2.1 = (0 : Int))) then
 (gd ((((List.length x2.2) + (List.length (y3.1 :: ([] : List (List Int))))) * 24) ≤ 140737488355328) (gd (((List.length x2.2) + (List.length (y3.1 :: ([] : List (List Int))))) ≤ 140737488355328) (some (Sum.inl ((Go.IntKind.wrap .i64 (x2.1 + (60 : Int))), (x2.2 ++ (y3.1 :: ([] : List (List Int)))))))))
 else
 (some (Sum.inl ((Go.IntKind.wrap .i64 (x2.1 + (60 : Int))), x2.2)))))))))))
 else
 (some (Sum.inr x2.2))) ((0 : Int), ([] : List (List Int)))) fun (y2 : (List (List Int))) =>
 bif (decide ((48 : Int) < (1 : Int))) then
 (none)
 else
 (Option.bind (loopM (X := (Int × (List (List Int)))) (E := (List (List Int))) (fun (x3 : (Int × (List (List Int)))) =>
 bif (decide (x3.1 < (((List.length x.1.2.1) : Nat) : Int))) then
 (gd ((0 : Int) ≤ x3.1) (gd (x3.1 ≤ (((List.length x.1.2.1) : Nat) : Int)) (gd ((((List.length x.1.2.1) : Nat) : Int) ≤ (((List.length x.1.2.1) : Nat) : Int)) (gd ((0 : Int) ≤ x3.1) (gd (x3.1 ≤ (Go.IntKind.wrap .i64 (x3.1 + (if (((List.length (List.take ((Int.toNat (((List.length x.1.2.1) : Nat) : Int)) - (Int.toNat x3.1)) (List.drop (Int.toNat x3.1) x.1.2.1))) : Nat) : Int) < (48 : Int) then (((List.length (List.take ((Int.toNat (((List.length x.1.2.1) : Nat) : Int)) - (Int.toNat x3.1)) (List.drop (Int.toNat x3.1) x.1.2.1))) : Nat) : Int) else (48 : Int))))) (gd ((Go.IntKind.wrap .i64 (x3.1 + (if (((List.length (List.take ((Int.toNat (((List.length x.1.2.1) : Nat) : Int)) - (Int.toNat x3.1)) (List.drop (Int.toNat x3.1) x.1.2.1))) : Nat) : Int) < (48 : Int) then (((List.length (List.take ((Int.toNat (((List.length x.1.2.1) : Nat) : Int)) - (Int.toNat x3.1)) (List.drop (Int.toNat x3.1) x.1.2.1))) : Nat) : Int) else (48 : Int)))) ≤ (Go.IntKind.wrap .i64 (x3.1 + (if (((List.length (List.take ((Int.toNat (((List.length x.1.2.1) : Nat) : Int)) - (Int.toNat x3.1)) (List.drop (Int.toNat x3.1) x.1.2.1))) : Nat) : Int) < (48 : Int) then (((List.length (List.take ((Int.toNat (((List.length x.1.2.1) : Nat) : Int)) - (Int.toNat x3.1)) (List.drop (Int.toNat x3.1) x.1.2.1))) : Nat) : Int) else (48 : Int))))) (gd ((Go.IntKind.wrap .i64 (x3.1 + (if (((List.length (List.take ((Int.toNat (((List.length x.1.2.1) : Nat) : Int)) - (Int.toNat x3.1)) (List.drop (Int.toNat x3.1) x.1.2.1))) : Nat) : Int) < (48 : Int) then (((List.length (List.take ((Int.toNat (((List.length x.1.2.1) : Nat) : Int)) - (Int.toNat x3.1)) (List.drop (Int.toNat x3.1) x.1.2.1))) : Nat) : Int) else (48 : Int)))) ≤ (((List.length x.1.2.1) : Nat) : Int)) (Option.bind (loopM (X := ((List (Int × Bool)) × ((List (List Int)) × Int))) (E := ((List (Int × Bool)) × (List (List Int)))) (fun (x4 : ((List (Int × Bool)) × ((List (List Int)) × Int))) =>
 bif (decide (x4.2.2 < (((List.length (List.take ((Int.toNat (Go.IntKind.wrap .i64 (x3.1 + (if (((List.length (List.take ((Int.toNat (((List.length x.1.2.1) : Nat) : Int)) - (Int.toNat x3.1)) (List.drop (Int.toNat x3.1) x.1.2.1))) : Nat) : Int) < (48 : Int) then (((List.length (List.take ((Int.toNat (((List.length x.1.2.1) : Nat) : Int)) - (Int.toNat x3.1)) (List.drop (Int.toNat x3.1) x.1.2.1))) : Nat) : Int) else (48 : Int))))) - (Int.toNat x3.1)) (List.drop (Int.toNat x3.1) x.1.2.1))) : Nat) : Int))) then
 (gd ((0 : Int) ≤ x4.2.2) (gd (x4.2.2 < (((List.length (List.take ((Int.toNat (Go.IntKind.wrap .i64 (x3.1 + (if (((List.length (List.take ((Int.toNat (((List.length x.1.2.1) : Nat) : Int)) - (Int.toNat x3.1)) (List.drop (Int.toNat x3.1) x.1.2.1))) : Nat) : Int) < (48 : Int) then (((List.length (List.take ((Int.toNat (((List.length x.1.2.1) : Nat) : Int)) - (Int.toNat x3.1)) (List.drop (Int.toNat x3.1) x.1.2.1))) : Nat) : Int) else (48 : Int))))) - (Int.toNat x3.1)) (List.drop (Int.toNat x3.1) x.1.2.1))) : Nat) : Int)) (Option.bind (m67 ((List.getD (List.take ((Int.toNat (Go.IntKind.wrap .i64 (x3.1 + (if (((List.length (List.take ((Int.toNat (((List.length x.1.2.1) : Nat) : Int)) - (Int.toNat x3.1)) (List.drop (Int.toNat x3.1) x.1.2.1))) : Nat) : Int) < (48 : Int) then (((List.length (List.take ((Int.toNat (((List.length x.1.2.1) : Nat) : Int)) - (Int.toNat x3.1)) (List.drop (Int.toNat x3.1) x.1.2.1))) : Nat) : Int) else (48 : Int))))) - (Int.toNat x3.1)) (List.drop (Int.toNat x3.1) x.1.2.1)) (Int.toNat x4.2.2) ((0 : Int), ([] : List Int))).2, ())) fun (y5 : ((List Int) × (Bool × Unit))) =>
 gd ((((List.length x4.1) + (List.length (((List.getD (List.take ((Int.toNat (Go.IntKind.wrap .i64 (x3.1 + (if (((List.length (List.take ((Int.toNat (((List.length x.1.2.1) : Nat) : Int)) - (Int.toNat x3.1)) (List.drop (Int.toNat x3.1) x.1.2.1))) : Nat) : Int) < (48 : Int) then (((List.length (List.take ((Int.toNat (((List.length x.1.2.1) : Nat) : Int)) - (Int.toNat x3.1)) (List.drop (Int.toNat x3.1) x.1.2.1))) : Nat) : Int) else (48 : Int))))) - (Int.toNat x3.1)) (List.drop (Int.toNat x3.1) x.1.2.1)) (Int.toNat x4.2.2) ((0 : Int), ([] : List Int))).1, y5.2.1) :: ([] : List (Int × Bool))))) * 16) ≤ 140737488355328) (gd (((List.length x4.1) + (List.length (((List.getD (List.take ((Int.toNat (Go.IntKind.wrap .i64 (x3.1 + (if (((List.length (List.take ((Int.toNat (((List.length x.1.2.1) : Nat) : Int)) - (Int.toNat x3.1)) (List.drop (Int.toNat x3.1) x.1.2.1))) : Nat) : Int) < (48 : Int) then (((List.length (List.take ((Int.toNat (((List.length x.1.2.1) : Nat) : Int)) - (Int.toNat x3.1)) (List.drop (Int.toNat x3.1) x.1.2.1))) : Nat) : Int) else (48 : Int))))) - (Int.toNat x3.1)) (List.drop (Int.toNat x3.1) x.1.2.1)) (Int.toNat x4.2.2) ((0 : Int), ([] : List Int))).1, y5.2.1) :: ([] : List (Int × Bool))))) ≤ 140737488355328) (gd ((((List.length x4.2.1) + (List.length (y5.1 :: ([] : List (List Int))))) * 24) ≤ 140737488355328) (gd (((List.length x4.2.1) + (List.length (y5.1 :: ([] : List (List Int))))) ≤ 140737488355328) (some (Sum.inl ((x4.1 ++ (((List.getD (List.take ((Int.toNat (Go.IntKind.wrap .i64 (x3.1 + (if (((List.length (List.take ((Int.toNat (((List.length x.1.2.1) : Nat) : Int)) - (Int.toNat x3.1)) (List.drop (Int.toNat x3.1) x.1.2.1))) : Nat) : Int) < (48 : Int) then (((List.length (List.take ((Int.toNat (((List.length x.1.2.1) : Nat) : Int)) - (Int.toNat x3.1)) (List.drop (Int.toNat x3.1) x.1.2.1))) : Nat) : Int) else (48 : Int))))) - (Int.toNat x3.1)) (List.drop (Int.toNat x3.1) x.1.2.1)) (Int.toNat x4.2.2) ((0 : Int), ([] : List Int))).1, y5.2.1) :: ([] : List (Int × Bool)))), ((x4.2.1 ++ (y5.1 :: ([] : List (List Int)))), (Go.IntKind.wrap .i64 (x4.2.2 + (1 : Int)))))))))))))
 else
 (some (Sum.inr (x4.1, x4.2.1)))) (([] : List (Int × Bool)), (([] : List (List Int)), (0 : Int)))) fun (y4 : ((List (Int × Bool)) × (List (List Int)))) =>
 Option.bind (m62 (((1 : Int), (x.1.1, (y4.1, (([] : List Int), (0 : Int))))), ())) fun (y5 : ((List Int) × (Int × Unit))) =>
 bif (decide (y5.2.1 = (0 : Int))) then
 (gd ((((List.length x3.2) + (List.length (y5.1 :: ([] : List (List Int))))) * 24) ≤ 140737488355328) (gd (((List.length x3.2) + (List.length (y5.1 :: ([] : List (List Int))))) ≤ 140737488355328) (gd ((((List.length (x3.2 ++ (y5.1 :: ([] : List (List Int))))) + (List.length y4.2)) * 24) ≤ 140737488355328) (gd (((List.length (x3.2 ++ (y5.1 :: ([] : List (List Int))))) + (List.length y4.2)) ≤ 140737488355328) (some (Sum.inl ((Go.IntKind.wrap .i64 (x3.1 + (48 : Int))), ((x3.2 ++ (y5.1 :: ([] : List (List Int)))) ++ y4.2))))))))
 else
 (gd ((((List.length x3.2) + (List.length y4.2)) * 24) ≤ 140737488355328) (gd (((List.length x3.2) + (List.length y4.2)) ≤ 140737488355328) (some (Sum.inl ((Go.IntKind.wrap .i64 (x3.1 + (48 : Int))), (x3.2 ++ y4.2))))))))))))))
 else
 (some (Sum.inr x3.2))) ((0 : Int), y2)) fun (y3 : (List (List Int))) =>
 Option.bind (m62 (((2 : Int), (x.1.1, (([] : List (Int × Bool)), (([] : List Int), (Go.IntKind.wrap .i64 ((((List.length y3) : Nat) : Int) + (1 : Int))))))), ())) fun (y4 : ((List Int) × (Int × Unit))) =>
 bif (decide (y4.2.1 = (0 : Int))) then
 (gd ((((List.length y3) + (List.length (y4.1 :: ([] : List (List Int))))) * 24) ≤ 140737488355328) (gd (((List.length y3) + (List.length (y4.1 :: ([] : List (List Int))))) ≤ 140737488355328) (some ((y3 ++ (y4.1 :: ([] : List (List Int)))), ((0 : Int), ())))))
 else
 (some (y3, ((0 : Int), ()))))))

noncomputable def i40_64 : ID := aInl Try.prog (envOf [(62, ⟨[(true, (.pair (.int .i64) (.pair (.int .i64) (.pair (.sl (.pair (.int .i64) .bool)) (.pair (.sl (.int .i64)) (.int .i64))))))], [(false, (.sl (.int .u8))), (false, (.int .i64))], false, m62⟩)] [] [] []) ⟨[], []⟩ Try.f64
noncomputable def i40_65 : ID := aInl Try.prog (envOf [] [] [] []) ⟨[], []⟩ Try.f65
noncomputable def i40_66 : ID := aInl Try.prog (envOf [] [] [] []) ⟨[], []⟩ Try.f66
noncomputable def i40_83 : ID := aInl Try.prog (envOf [] [] [] []) ⟨[(8000, ⟨[.slot 4 (.d false (.int .i64) true), .cell 1 0 (.v 33 (.sl (.int .u8)) true)], [], [(some 0, [.cell 1 0 (.v 33 (.sl (.int .u8)) true)])], none⟩)], []⟩ Try.f83
noncomputable def i40_84 : ID := aInl Try.prog (envOf [] [] [] []) ⟨[(13000, ⟨[.slot 4 (.d false (.int .i64) true), .cell 1 0 (.v 33 (.sl (.int .u8)) true)], [7], [(some 0, [.cell 1 0 (.v 33 (.sl (.int .u8)) true)])], none⟩)], []⟩ Try.f84
noncomputable def r40 : PDen [(true, (.pair (.int .i64) (.pair (.sl (.pair (.int .i64) (.sl (.int .u8)))) (.sl (.int .i64)))))] → Option (PDen [(false, (.sl (.sl (.int .u8)))), (false, (.int .i64))]) := fun x => afun Try.prog (envOf [(51, ⟨[(true, (.pair (.int .i64) (.pair (.sl (.pair (.int .i64) (.sl (.int .u8)))) (.sl (.int .i64)))))], [(false, (.int .i64))], false, m51⟩), (67, ⟨[(false, (.sl (.int .u8)))], [(false, (.sl (.int .u8))), (false, .bool)], false, m67⟩)] [] [] [(64, i40_64), (65, i40_65), (66, i40_66), (83, i40_83), (84, i40_84)]) ⟨[(4, ⟨[.slot 9 (.v 90 (.pair (.int .i64) .bool) true), .slot 10 (.v 33 (.sl (.int .u8)) true), .slot 35 (.d false (.int .i64) true)], [], [(some 4, [.slot 9 (.v 90 (.pair (.int .i64) .bool) true), .slot 10 (.v 33 (.sl (.int .u8)) true)])], none⟩)], []⟩ Try.f40 [(true, (.pair (.int .i64) (.pair (.sl (.pair (.int .i64) (.sl (.int .u8)))) (.sl (.int .i64)))))] [(false, (.sl (.sl (.int .u8)))), (false, (.int .i64))] false x
theorem r40_eq : r40 = m40 := by kernel_rfl

theorem i40_64_sound : i40_64.Sound Try.prog 64 := aInl_sound' (envOf_sound (CSs.cons c62 (CSs.nil)) (HDs.nil) (IDs.nil)) Try.follows (f := 64) (fn := Try.f64) Try.func64 (by kernel_rfl) (by kernel_rfl)
theorem i40_65_sound : i40_65.Sound Try.prog 65 := aInl_sound' (envOf_sound (CSs.nil) (HDs.nil) (IDs.nil)) Try.follows (f := 65) (fn := Try.f65) Try.func65 (by kernel_rfl) (by kernel_rfl)
theorem i40_66_sound : i40_66.Sound Try.prog 66 := aInl_sound' (envOf_sound (CSs.nil) (HDs.nil) (IDs.nil)) Try.follows (f := 66) (fn := Try.f66) Try.func66 (by kernel_rfl) (by kernel_rfl)
theorem i40_83_sound : i40_83.Sound Try.prog 83 := aInl_sound' (envOf_sound (CSs.nil) (HDs.nil) (IDs.nil)) Try.follows (f := 83) (fn := Try.f83) Try.func83 (by kernel_rfl) (by kernel_rfl)
theorem i40_84_sound : i40_84.Sound Try.prog 84 := aInl_sound' (envOf_sound (CSs.nil) (HDs.nil) (IDs.nil)) Try.follows (f := 84) (fn := Try.f84) Try.func84 (by kernel_rfl) (by kernel_rfl)
theorem c40 : CS.Sound Try.prog 40 ⟨[(true, (.pair (.int .i64) (.pair (.sl (.pair (.int .i64) (.sl (.int .u8)))) (.sl (.int .i64)))))], [(false, (.sl (.sl (.int .u8)))), (false, (.int .i64))], false, m40⟩ := afun_sound' (envOf_sound (CSs.cons c51 (CSs.cons c67 (CSs.nil))) (HDs.nil) (IDs.cons i40_64_sound (IDs.cons i40_65_sound (IDs.cons i40_66_sound (IDs.cons i40_83_sound (IDs.cons i40_84_sound (IDs.nil))))))) rfl Try.follows (f := 40) (fn := Try.f40) Try.func40 (by kernel_rfl) (by kernel_rfl) r40_eq
end Go.Proofs.Ytjleeabhpfmhaaa
end

section
open Go Go.Proofs.AM
namespace Go.Proofs.Ytjleeabhpfmhaaa

noncomputable def m24 (x : Int × (List (List Int)) × Unit) : Option (TyT × (Int × (Int × Unit))) :=
 Option.bind (loopM (X := (Int × TyT)) (E := TyT) (fun (x1 : (Int × TyT)) =>
 bif (decide (x1.1 < (((List.length x.2.1) : Nat) : Int))) then
 (gd ((0 : Int) ≤ x1.1) (gd (x1.1 < (((List.length x.2.1) : Nat) : Int)) (Option.bind (m38 ((List.getD x.2.1 (Int.toNat x1.1) ([] : List Int)), ())) fun (y2 : ((Int × (Int × ((List (Int × Bool)) × ((List Int) × Int)))) × (Int × Unit))) =>
 bif (!(decide (y2.2.1 = (0 : Int)))) then
 (some (Sum.inr (x1.2.1, (x1.2.2.1, x1.2.2.2))))
 else
 (bif (!(decide (y2.1.2.1 = x.1))) then
 (some (Sum.inr (x1.2.1, (x1.2.2.1, x1.2.2.2))))
 else
 (bif (decide (y2.1.1 = (2 : Int))) then
 (some (Sum.inr (x1.2.1, (x1.2.2.1, x1.2.2.2))))
 else
 (bif (decide (y2.1.1 = (3 : Int))) then
 (gd ((((List.length x1.2.2.2) + (List.length y2.1.2.2.2.1)) * 8) ≤ 140737488355328) (gd (((List.length x1.2.2.2) + (List.length y2.1.2.2.2.1)) ≤ 140737488355328) (some (Sum.inl ((Go.IntKind.wrap .i64 (x1.1 + (1 : Int))), (x1.2.1, (x1.2.2.1, (x1.2.2.2 ++ y2.1.2.2.2.1))))))))
 else
 (bif (decide (y2.1.1 = (1 : Int))) then
 (bif (decide ((((List.length y2.1.2.2.1) : Nat) : Int) > (Go.IntKind.wrap .i64 ((((List.length x.2.1) : Nat) : Int) - (Go.IntKind.wrap .i64 (x1.1 + (1 : Int))))))) then
 (some (Sum.inr (x1.2.1, (x1.2.2.1, x1.2.2.2))))
 else
 (Option.bind (loopM (X := (Int × (Int × TyT))) (E := (Int × TyT)) (fun (x3 : (Int × (Int × TyT))) =>
 bif (decide (x3.2.1 < (((List.length y2.1.2.2.1) : Nat) : Int))) then
 (gd ((0 : Int) ≤ x3.2.1) (gd (x3.2.1 < (((List.length y2.1.2.2.1) : Nat) : Int)) (gd ((0 : Int) ≤ x3.1) (gd (x3.1 < (((List.length x.2.1) : Nat) : Int)) (Option.bind (m39 ((List.getD x.2.1 (Int.toNat x3.1) ([] : List Int)), ((List.getD y2.1.2.2.1 (Int.toNat x3.2.1) ((0 : Int), false)).2, ()))) fun (y4 : ((List Int) × Unit)) =>
 gd ((((List.length x3.2.2.2.1) + (List.length (((List.getD y2.1.2.2.1 (Int.toNat x3.2.1) ((0 : Int), false)).1, y4.1) :: ([] : List (Int × (List Int)))))) * 32) ≤ 140737488355328) (gd (((List.length x3.2.2.2.1) + (List.length (((List.getD y2.1.2.2.1 (Int.toNat x3.2.1) ((0 : Int), false)).1, y4.1) :: ([] : List (Int × (List Int)))))) ≤ 140737488355328) (some (Sum.inl ((Go.IntKind.wrap .i64 (x3.1 + (1 : Int))), ((Go.IntKind.wrap .i64 (x3.2.1 + (1 : Int))), (x3.2.2.1, ((x3.2.2.2.1 ++ (((List.getD y2.1.2.2.1 (Int.toNat x3.2.1) ((0 : Int), false)).1, y4.1) :: ([] : List (Int × (List Int))))), x3.2.2.2.2))))))))))))
 else
 (some (Sum.inr (x3.1, (x3.2.2.1, (x3.2.2.2.1, x3.2.2.2.2)))))) ((Go.IntKind.wrap .i64 (x1.1 + (1 : Int))), ((0 : Int), (x1.2.1, (x1.2.2.1, x1.2.2.2))))) fun (y3 : (Int × TyT)) =>
 some (Sum.inl (y3.1, (y3.2.1, (y3.2.2.1, y3.2.2.2))))))
 else
 (some (Sum.inl ((Go.IntKind.wrap .i64 (x1.1 + (1 : Int))), (x1.2.1, (x1.2.2.1, x1.2.2.2))))))))))))
 else
 (some (Sum.inr (x1.2.1, (x1.2.2.1, x1.2.2.2))))) ((0 : Int), (x.1, (([] : List (Int × (List Int))), ([] : List Int))))) fun (y1 : TyT) =>
 Option.bind (m40 (y1, ())) fun (y2 : ((List (List Int)) × (Int × Unit))) =>
 bif (!(decide (y2.2.1 = (0 : Int)))) then
 (some (((0 : Int), (([] : List (Int × (List Int))), ([] : List Int))), ((0 : Int), ((170 : Int), ()))))
 else
 (bif (decide ((((List.length y2.1) : Nat) : Int) > (((List.length x.2.1) : Nat) : Int))) then
 (some (((0 : Int), (([] : List (Int × (List Int))), ([] : List Int))), ((0 : Int), ((170 : Int), ()))))
 else
 (gd ((0 : Int) ≤ (((List.length y2.1) : Nat) : Int)) (gd ((((List.length y2.1) : Nat) : Int) ≤ (((List.length x.2.1) : Nat) : Int)) (bif (!(decide ((((List.length y2.1) : Nat) : Int) = (((List.length (List.take ((Int.toNat (((List.length y2.1) : Nat) : Int)) - (Int.toNat (0 : Int))) (List.drop (Int.toNat (0 : Int)) x.2.1))) : Nat) : Int)))) then
 (some (((0 : Int), (([] : List (Int × (List Int))), ([] : List Int))), ((0 : Int), ((170 : Int), ()))))
 else
 (Option.bind (loopM (X := Int) (E := (Unit ⊕ Bool)) (fun (x3 : Int) =>
 bif (decide (x3 < (((List.length y2.1) : Nat) : Int))) then
 (gd ((0 : Int) ≤ x3) (gd (x3 < (((List.length y2.1) : Nat) : Int)) (gd ((0 : Int) ≤ x3) (gd (x3 < (((List.length (List.take ((Int.toNat (((List.length y2.1) : Nat) : Int)) - (Int.toNat (0 : Int))) (List.drop (Int.toNat (0 : Int)) x.2.1))) : Nat) : Int)) (Option.bind (m37 ((List.getD y2.1 (Int.toNat x3) ([] : List Int)), ((List.getD (List.take ((Int.toNat (((List.length y2.1) : Nat) : Int)) - (Int.toNat (0 : Int))) (List.drop (Int.toNat (0 : Int)) x.2.1)) (Int.toNat x3) ([] : List Int)), ()))) fun (y4 : (Bool × Unit)) =>
 bif (!y4.1) then
 (some (Sum.inr (Sum.inr false)))
 else
 (some (Sum.inl (Go.IntKind.wrap .i64 (x3 + (1 : Int))))))))))
 else
 (some (Sum.inr (Sum.inl ())))) (0 : Int)) fun (y3 : (Unit ⊕ Bool)) =>
 Sum.elim (fun y4 =>
 some (y1, ((((List.length y2.1) : Nat) : Int), ((0 : Int), ())))) (fun y4 =>
 bif (!y4) then
 (some (((0 : Int), (([] : List (Int × (List Int))), ([] : List Int))), ((0 : Int), ((170 : Int), ()))))
 else
 (some (y1, ((((List.length y2.1) : Nat) : Int), ((0 : Int), ()))))) y3)))))

noncomputable def i24_41 : ID := aInl Try.prog (envOf [(37, ⟨[(false, (.sl (.int .u8))), (false, (.sl (.int .u8)))], [(false, .bool)], false, m37⟩)] [] [] []) ⟨[(5000, ⟨[.slot 17 (.d false (.int .i64) true)], [], [(some 0, []), (none, [.slot 6 (.d false .bool true)])], none⟩)], []⟩ Try.f41
noncomputable def r24 : PDen [(false, (.int .i64)), (false, (.sl (.sl (.int .u8))))] → Option (PDen [(true, (.pair (.int .i64) (.pair (.sl (.pair (.int .i64) (.sl (.int .u8)))) (.sl (.int .i64))))), (false, (.int .i64)), (false, (.int .i64))]) := fun x => afun Try.prog (envOf [(38, ⟨[(false, (.sl (.int .u8)))], [(true, (.pair (.int .i64) (.pair (.int .i64) (.pair (.sl (.pair (.int .i64) .bool)) (.pair (.sl (.int .i64)) (.int .i64)))))), (false, (.int .i64))], false, m38⟩), (39, ⟨[(false, (.sl (.int .u8))), (false, .bool)], [(false, (.sl (.int .u8)))], false, m39⟩), (40, ⟨[(true, (.pair (.int .i64) (.pair (.sl (.pair (.int .i64) (.sl (.int .u8)))) (.sl (.int .i64)))))], [(false, (.sl (.sl (.int .u8)))), (false, (.int .i64))], false, m40⟩)] [] [] [(41, i24_41)]) ⟨[(0, ⟨[.slot 8 (.d false (.int .i64) true), .cell 1 0 (.d false (.int .i64) true), .cell 1 1 (.v 66 (.pair (.int .i64) (.sl (.int .u8))) true), .cell 1 2 (.v 3 (.int .i64) true)], [], [(some 0, [.cell 1 0 (.d false (.int .i64) true), .cell 1 1 (.v 66 (.pair (.int .i64) (.sl (.int .u8))) true), .cell 1 2 (.v 3 (.int .i64) true)])], none⟩), (3, ⟨[.slot 8 (.d false (.int .i64) true), .slot 64 (.d false (.int .i64) true), .cell 1 0 (.d false (.int .i64) true), .cell 1 1 (.v 66 (.pair (.int .i64) (.sl (.int .u8))) true), .cell 1 2 (.v 3 (.int .i64) true)], [2, 3], [(some 3, [.slot 8 (.d false (.int .i64) true), .cell 1 0 (.d false (.int .i64) true), .cell 1 1 (.v 66 (.pair (.int .i64) (.sl (.int .u8))) true), .cell 1 2 (.v 3 (.int .i64) true)])], none⟩)], []⟩ Try.f24 [(false, (.int .i64)), (false, (.sl (.sl (.int .u8))))] [(true, (.pair (.int .i64) (.pair (.sl (.pair (.int .i64) (.sl (.int .u8)))) (.sl (.int .i64))))), (false, (.int .i64)), (false, (.int .i64))] false x
theorem r24_eq : r24 = m24 := by kernel_rfl

theorem i24_41_sound : i24_41.Sound Try.prog 41 := aInl_sound' (envOf_sound (CSs.cons c37 (CSs.nil)) (HDs.nil) (IDs.nil)) Try.follows (f := 41) (fn := Try.f41) Try.func41 (by kernel_rfl) (by kernel_rfl)
theorem c24 : CS.Sound Try.prog 24 ⟨[(false, (.int .i64)), (false, (.sl (.sl (.int .u8))))], [(true, (.pair (.int .i64) (.pair (.sl (.pair (.int .i64) (.sl (.int .u8)))) (.sl (.int .i64))))), (false, (.int .i64)), (false, (.int .i64))], false, m24⟩ := afun_sound' (envOf_sound (CSs.cons c38 (CSs.cons c39 (CSs.cons c40 (CSs.nil)))) (HDs.nil) (IDs.cons i24_41_sound (IDs.nil))) rfl Try.follows (f := 24) (fn := Try.f24) Try.func24 (by kernel_rfl) (by kernel_rfl) r24_eq
end Go.Proofs.Ytjleeabhpfmhaaa
end

section
open Go Go.Proofs.AM
namespace Go.Proofs.Ytjleeabhpfmhaaa

noncomputable def m7 (x : (List (List Int)) × Unit) : Option (((List TyT) × (Int × Int)) × (Int × Unit)) :=
 bif (decide ((((List.length x.1) : Nat) : Int) ≥ (16 : Int))) then
 (bif (!(decide ((((List.length x.1) : Nat) : Int) ≤ (64 : Int)))) then
 (some ((([] : List TyT), ((0 : Int), (0 : Int))), ((1 : Int), ())))
 else
 (gd ((0 : Int) < (((List.length x.1) : Nat) : Int)) (Option.bind (m23 ((List.getD x.1 (Int.toNat (0 : Int)) ([] : List Int)), ())) fun (y1 : ((Int × Int) × (Int × Unit))) =>
 bif (!(decide (y1.2.1 = (0 : Int)))) then
 (some ((([] : List TyT), ((0 : Int), (0 : Int))), (y1.2.1, ())))
 else
 (bif (decide (y1.1.1 ≥ (((List.length x.1) : Nat) : Int))) then
 (some ((([] : List TyT), ((0 : Int), (0 : Int))), ((170 : Int), ())))
 else
 (bif (decide (y1.1.1 = (0 : Int))) then
 (some ((([] : List TyT), ((1 : Int), y1.1.2)), ((0 : Int), ())))
 else
 (Option.bind (loopM (X := ((List (List Int)) × Int)) (E := (List (List Int))) (fun (x2 : ((List (List Int)) × Int)) =>
 bif (decide (x2.2 < (Go.IntKind.wrap .i64 ((((List.length x.1) : Nat) : Int) - (1 : Int))))) then
 (Option.bind (m10 ((((List.length x.1) : Nat) : Int), (y1.1.1, (x2.2, ())))) fun (y3 : (Int × Unit)) =>
 gd ((0 : Int) ≤ y3.1) (gd (y3.1 < (((List.length x.1) : Nat) : Int)) (gd ((((List.length x2.1) + (List.length ((List.getD x.1 (Int.toNat y3.1) ([] : List Int)) :: ([] : List (List Int))))) * 24) ≤ 140737488355328) (gd (((List.length x2.1) + (List.length ((List.getD x.1 (Int.toNat y3.1) ([] : List Int)) :: ([] : List (List Int))))) ≤ 140737488355328) (some (Sum.inl ((x2.1 ++ ((List.getD x.1 (Int.toNat y3.1) ([] : List Int)) :: ([] : List (List Int)))), (Go.IntKind.wrap .i64 (x2.2 + (1 : Int))))))))))
 else
 (some (Sum.inr x2.1))) (([] : List (List Int)), (0 : Int))) fun (y2 : (List (List Int))) =>
 Option.bind (loopM (X := (Int × ((List TyT) × (Int × Int)))) (E := (Int × ((List TyT) × (Int × Int)))) (fun (x3 : (Int × ((List TyT) × (Int × Int)))) =>
 bif (decide (x3.2.2.2 ≤ (281474976710656 : Int))) then
 (bif (decide (x3.1 < (((List.length y2) : Nat) : Int))) then
 (gd ((0 : Int) ≤ x3.1) (gd (x3.1 ≤ (((List.length y2) : Nat) : Int)) (gd ((((List.length y2) : Nat) : Int) ≤ (((List.length y2) : Nat) : Int)) (Option.bind (m24 (x3.2.2.2, ((List.take ((Int.toNat (((List.length y2) : Nat) : Int)) - (Int.toNat x3.1)) (List.drop (Int.toNat x3.1) y2)), ()))) fun (y4 : (TyT × (Int × (Int × Unit)))) =>
 bif (!(decide (y4.2.2.1 = (0 : Int)))) then
 (some (Sum.inr (x3.1, (x3.2.1, (x3.2.2.1, x3.2.2.2)))))
 else
 (gd ((((List.length x3.2.1) + (List.length (y4.1 :: ([] : List TyT)))) * 56) ≤ 140737488355328) (gd (((List.length x3.2.1) + (List.length (y4.1 :: ([] : List TyT)))) ≤ 140737488355328) (some (Sum.inl ((Go.IntKind.wrap .i64 (x3.1 + y4.2.1)), ((x3.2.1 ++ (y4.1 :: ([] : List TyT))), (x3.2.2.1, (Go.IntKind.wrap .i64 (x3.2.2.2 + (1 : Int))))))))))))))
 else
 (some (Sum.inr (x3.1, (x3.2.1, (x3.2.2.1, x3.2.2.2))))))
 else
 (some (Sum.inr (x3.1, (x3.2.1, (x3.2.2.1, x3.2.2.2)))))) ((0 : Int), (([] : List TyT), ((0 : Int), y1.1.2)))) fun (y3 : (Int × ((List TyT) × (Int × Int)))) =>
 if (Go.IntKind.wrap .i64 ((((List.length x.1) : Nat) : Int) - (1 : Int))) = (0 : Int) then
 (none)
 else
 (Option.bind (m10 ((((List.length x.1) : Nat) : Int), (y1.1.1, ((Int.tmod y3.1 (Go.IntKind.wrap .i64 ((((List.length x.1) : Nat) : Int) - (1 : Int)))), ())))) fun (y4 : (Int × Unit)) =>
 some ((y3.2.1, (y4.1, y3.2.2.2)), ((0 : Int), ())))))))))
 else
 (some ((([] : List TyT), ((0 : Int), (0 : Int))), ((1 : Int), ())))

noncomputable def i7_22 : ID := aInl Try.prog (envOf [] [] [] []) ⟨[], []⟩ Try.f22
noncomputable def r7 : PDen [(false, (.sl (.sl (.int .u8))))] → Option (PDen [(true, (.pair (.sl (.pair (.int .i64) (.pair (.sl (.pair (.int .i64) (.sl (.int .u8)))) (.sl (.int .i64))))) (.pair (.int .i64) (.int .i64)))), (false, (.int .i64))]) := fun x => afun Try.prog (envOf [(10, ⟨[(false, (.int .i64)), (false, (.int .i64)), (false, (.int .i64))], [(false, (.int .i64))], false, m10⟩), (23, ⟨[(false, (.sl (.int .u8)))], [(true, (.pair (.int .i64) (.int .i64))), (false, (.int .i64))], false, m23⟩), (24, ⟨[(false, (.int .i64)), (false, (.sl (.sl (.int .u8))))], [(true, (.pair (.int .i64) (.pair (.sl (.pair (.int .i64) (.sl (.int .u8)))) (.sl (.int .i64))))), (false, (.int .i64)), (false, (.int .i64))], false, m24⟩)] [] [] [(22, i7_22)]) ⟨[(0, ⟨[.slot 7 (.v 33 (.sl (.int .u8)) false), .slot 44 (.d false (.int .i64) true)], [], [(some 0, [.slot 7 (.v 33 (.sl (.int .u8)) false)])], none⟩), (2, ⟨[.slot 10 (.d false (.int .i64) true), .cell 3 0 (.v 42 (.pair (.int .i64) (.pair (.sl (.pair (.int .i64) (.sl (.int .u8)))) (.sl (.int .i64)))) true), .cell 3 1 (.d false (.int .i64) true), .cell 3 2 (.d false (.int .i64) true)], [], [(some 2, [.slot 10 (.d false (.int .i64) true), .cell 3 0 (.v 42 (.pair (.int .i64) (.pair (.sl (.pair (.int .i64) (.sl (.int .u8)))) (.sl (.int .i64)))) true), .cell 3 1 (.d false (.int .i64) true), .cell 3 2 (.d false (.int .i64) true)])], none⟩)], []⟩ Try.f7 [(false, (.sl (.sl (.int .u8))))] [(true, (.pair (.sl (.pair (.int .i64) (.pair (.sl (.pair (.int .i64) (.sl (.int .u8)))) (.sl (.int .i64))))) (.pair (.int .i64) (.int .i64)))), (false, (.int .i64))] false x
theorem r7_eq : r7 = m7 := by kernel_rfl

theorem i7_22_sound : i7_22.Sound Try.prog 22 := aInl_sound' (envOf_sound (CSs.nil) (HDs.nil) (IDs.nil)) Try.follows (f := 22) (fn := Try.f22) Try.func22 (by kernel_rfl) (by kernel_rfl)
theorem c7 : CS.Sound Try.prog 7 ⟨[(false, (.sl (.sl (.int .u8))))], [(true, (.pair (.sl (.pair (.int .i64) (.pair (.sl (.pair (.int .i64) (.sl (.int .u8)))) (.sl (.int .i64))))) (.pair (.int .i64) (.int .i64)))), (false, (.int .i64))], false, m7⟩ := afun_sound' (envOf_sound (CSs.cons c10 (CSs.cons c23 (CSs.cons c24 (CSs.nil)))) (HDs.nil) (IDs.cons i7_22_sound (IDs.nil))) rfl Try.follows (f := 7) (fn := Try.f7) Try.func7 (by kernel_rfl) (by kernel_rfl) r7_eq
end Go.Proofs.Ytjleeabhpfmhaaa
end

section
open Go Go.Proofs.AM
namespace Go.Proofs.Ytjleeabhpfmhaaa

noncomputable def m134 (x : TyD × Unit) : Option (TyD × (Int × Unit)) :=
 bif (decide ((((List.length x.1.1) : Nat) : Int) = (0 : Int))) then
 (some (x.1, ((2 : Int), ())))
 else
 (bif x.1.2.2.1 then
 (some (x.1, ((8 : Int), ())))
 else
 (some (x.1, ((0 : Int), ()))))

noncomputable def i134_141 : ID := aInl Try.prog (envOf [] [] [] []) ⟨[], []⟩ Try.f141
noncomputable def i134_139 : ID := aInl Try.prog (envOf [] [] [] [(141, i134_141)]) ⟨[], []⟩ Try.f139
noncomputable def r134 : PDen ((true, (.pair (.sl (.sl (.int .u8))) (.pair (.sl .bool) (.pair .bool (.pair .bool (.pair (.int .i64) (.pair (.int .i64) (.sl (.pair (.int .i64) (.sl (.int .u8))))))))))) :: []) → Option (PDen ((true, (.pair (.sl (.sl (.int .u8))) (.pair (.sl .bool) (.pair .bool (.pair .bool (.pair (.int .i64) (.pair (.int .i64) (.sl (.pair (.int .i64) (.sl (.int .u8))))))))))) :: [(false, (.int .i64))])) := fun x => afunIO Try.prog (envOf [] [] [] [(139, i134_139)]) ⟨[], []⟩ Try.f134 75 (.pair (.sl (.sl (.int .u8))) (.pair (.sl .bool) (.pair .bool (.pair .bool (.pair (.int .i64) (.pair (.int .i64) (.sl (.pair (.int .i64) (.sl (.int .u8)))))))))) (.p (.s 33) (.p (.s 4) (.p .d (.p .d (.p .d (.p .d (.s 182))))))) [] [(false, (.int .i64))] x
theorem r134_eq : r134 = m134 := by kernel_rfl

theorem i134_141_sound : i134_141.Sound Try.prog 141 := aInl_sound' (envOf_sound (CSs.nil) (HDs.nil) (IDs.nil)) Try.follows (f := 141) (fn := Try.f141) Try.func141 (by kernel_rfl) (by kernel_rfl)
theorem i134_139_sound : i134_139.Sound Try.prog 139 := aInl_sound' (envOf_sound (CSs.nil) (HDs.nil) (IDs.cons i134_141_sound (IDs.nil))) Try.follows (f := 139) (fn := Try.f139) Try.func139 (by kernel_rfl) (by kernel_rfl)
theorem c134 : IOc.Sound Try.prog 134 ⟨75, (.pair (.sl (.sl (.int .u8))) (.pair (.sl .bool) (.pair .bool (.pair .bool (.pair (.int .i64) (.pair (.int .i64) (.sl (.pair (.int .i64) (.sl (.int .u8)))))))))), (.p (.s 33) (.p (.s 4) (.p .d (.p .d (.p .d (.p .d (.s 182))))))), [], [(false, (.int .i64))], m134⟩ := afunIO_sound' (envOf_sound (CSs.nil) (HDs.nil) (IDs.cons i134_139_sound (IDs.nil))) rfl Try.follows (f := 134) (fn := Try.f134) Try.func134 (by kernel_rfl) (by kernel_rfl) r134_eq
end Go.Proofs.Ytjleeabhpfmhaaa
end

section
open Go Go.Proofs.AM
namespace Go.Proofs.Ytjleeabhpfmhaaa

noncomputable def m135 (x : TyD × Int × Unit) : Option (TyD × ((List Int) × (Int × Unit))) :=
 bif (decide ((((List.length x.1.1) : Nat) : Int) = (0 : Int))) then
 (some (x.1, (([] : List Int), ((2 : Int), ()))))
 else
 (bif x.1.2.2.1 then
 (some (x.1, (([] : List Int), ((8 : Int), ()))))
 else
 (bif (decide (x.2.1 ≥ (0 : Int))) then
 (bif (!(decide (x.2.1 < (((List.length x.1.1) : Nat) : Int)))) then
 (some (x.1, (([] : List Int), ((1 : Int), ()))))
 else
 (gd ((0 : Int) ≤ x.2.1) (gd (x.2.1 < (((List.length x.1.2.1) : Nat) : Int)) (gd ((Int.toNat x.2.1) < (List.length x.1.2.1)) (bif (List.getD x.1.2.1 (Int.toNat x.2.1) false) then
 (some (x.1, (([] : List Int), ((80 : Int), ()))))
 else
 (gd ((0 : Int) ≤ x.2.1) (gd (x.2.1 < (((List.length x.1.1) : Nat) : Int)) (gd ((Int.toNat x.2.1) < (List.length x.1.1)) (Option.bind (m52 ((List.getD x.1.1 (Int.toNat x.2.1) ([] : List Int)), ())) fun (y1 : ((List Int) × Unit)) =>
 some (x.1, (y1.1, ((0 : Int), ()))))))))))))
 else
 (some (x.1, (([] : List Int), ((1 : Int), ()))))))

noncomputable def i135_141 : ID := aInl Try.prog (envOf [] [] [] []) ⟨[], []⟩ Try.f141
noncomputable def i135_139 : ID := aInl Try.prog (envOf [] [] [] [(141, i135_141)]) ⟨[], []⟩ Try.f139
noncomputable def i135_140 : ID := aInl Try.prog (envOf [] [] [] []) ⟨[], []⟩ Try.f140
noncomputable def r135 : PDen ((true, (.pair (.sl (.sl (.int .u8))) (.pair (.sl .bool) (.pair .bool (.pair .bool (.pair (.int .i64) (.pair (.int .i64) (.sl (.pair (.int .i64) (.sl (.int .u8))))))))))) :: [(false, (.int .i64))]) → Option (PDen ((true, (.pair (.sl (.sl (.int .u8))) (.pair (.sl .bool) (.pair .bool (.pair .bool (.pair (.int .i64) (.pair (.int .i64) (.sl (.pair (.int .i64) (.sl (.int .u8))))))))))) :: [(false, (.sl (.int .u8))), (false, (.int .i64))])) := fun x => afunIO Try.prog (envOf [(52, ⟨[(false, (.sl (.int .u8)))], [(false, (.sl (.int .u8)))], false, m52⟩)] [] [] [(139, i135_139), (140, i135_140)]) ⟨[], []⟩ Try.f135 75 (.pair (.sl (.sl (.int .u8))) (.pair (.sl .bool) (.pair .bool (.pair .bool (.pair (.int .i64) (.pair (.int .i64) (.sl (.pair (.int .i64) (.sl (.int .u8)))))))))) (.p (.s 33) (.p (.s 4) (.p .d (.p .d (.p .d (.p .d (.s 182))))))) [(false, (.int .i64))] [(false, (.sl (.int .u8))), (false, (.int .i64))] x
theorem r135_eq : r135 = m135 := by kernel_rfl

theorem i135_141_sound : i135_141.Sound Try.prog 141 := aInl_sound' (envOf_sound (CSs.nil) (HDs.nil) (IDs.nil)) Try.follows (f := 141) (fn := Try.f141) Try.func141 (by kernel_rfl) (by kernel_rfl)
theorem i135_139_sound : i135_139.Sound Try.prog 139 := aInl_sound' (envOf_sound (CSs.nil) (HDs.nil) (IDs.cons i135_141_sound (IDs.nil))) Try.follows (f := 139) (fn := Try.f139) Try.func139 (by kernel_rfl) (by kernel_rfl)
theorem i135_140_sound : i135_140.Sound Try.prog 140 := aInl_sound' (envOf_sound (CSs.nil) (HDs.nil) (IDs.nil)) Try.follows (f := 140) (fn := Try.f140) Try.func140 (by kernel_rfl) (by kernel_rfl)
theorem c135 : IOc.Sound Try.prog 135 ⟨75, (.pair (.sl (.sl (.int .u8))) (.pair (.sl .bool) (.pair .bool (.pair .bool (.pair (.int .i64) (.pair (.int .i64) (.sl (.pair (.int .i64) (.sl (.int .u8)))))))))), (.p (.s 33) (.p (.s 4) (.p .d (.p .d (.p .d (.p .d (.s 182))))))), [(false, (.int .i64))], [(false, (.sl (.int .u8))), (false, (.int .i64))], m135⟩ := afunIO_sound' (envOf_sound (CSs.cons (OM.Sound.cs c52) (CSs.nil)) (HDs.nil) (IDs.cons i135_139_sound (IDs.cons i135_140_sound (IDs.nil)))) rfl Try.follows (f := 135) (fn := Try.f135) Try.func135 (by kernel_rfl) (by kernel_rfl) r135_eq
end Go.Proofs.Ytjleeabhpfmhaaa
end

section
open Go Go.Proofs.AM
namespace Go.Proofs.Ytjleeabhpfmhaaa

noncomputable def m137 (x : TyD × Unit) : Option (TyD × (Int × Unit)) :=
 bif (decide ((((List.length x.1.1) : Nat) : Int) = (0 : Int))) then
 (some (x.1, ((0 : Int), ())))
 else
 (some (x.1, ((((List.length x.1.1) : Nat) : Int), ())))

noncomputable def i137_141 : ID := aInl Try.prog (envOf [] [] [] []) ⟨[], []⟩ Try.f141
noncomputable def r137 : PDen ((true, (.pair (.sl (.sl (.int .u8))) (.pair (.sl .bool) (.pair .bool (.pair .bool (.pair (.int .i64) (.pair (.int .i64) (.sl (.pair (.int .i64) (.sl (.int .u8))))))))))) :: []) → Option (PDen ((true, (.pair (.sl (.sl (.int .u8))) (.pair (.sl .bool) (.pair .bool (.pair .bool (.pair (.int .i64) (.pair (.int .i64) (.sl (.pair (.int .i64) (.sl (.int .u8))))))))))) :: [(false, (.int .i64))])) := fun x => afunIO Try.prog (envOf [] [] [] [(141, i137_141)]) ⟨[], []⟩ Try.f137 75 (.pair (.sl (.sl (.int .u8))) (.pair (.sl .bool) (.pair .bool (.pair .bool (.pair (.int .i64) (.pair (.int .i64) (.sl (.pair (.int .i64) (.sl (.int .u8)))))))))) (.p (.s 33) (.p (.s 4) (.p .d (.p .d (.p .d (.p .d (.s 182))))))) [] [(false, (.int .i64))] x
theorem r137_eq : r137 = m137 := by kernel_rfl

theorem i137_141_sound : i137_141.Sound Try.prog 141 := aInl_sound' (envOf_sound (CSs.nil) (HDs.nil) (IDs.nil)) Try.follows (f := 141) (fn := Try.f141) Try.func141 (by kernel_rfl) (by kernel_rfl)
theorem c137 : IOc.Sound Try.prog 137 ⟨75, (.pair (.sl (.sl (.int .u8))) (.pair (.sl .bool) (.pair .bool (.pair .bool (.pair (.int .i64) (.pair (.int .i64) (.sl (.pair (.int .i64) (.sl (.int .u8)))))))))), (.p (.s 33) (.p (.s 4) (.p .d (.p .d (.p .d (.p .d (.s 182))))))), [], [(false, (.int .i64))], m137⟩ := afunIO_sound' (envOf_sound (CSs.nil) (HDs.nil) (IDs.cons i137_141_sound (IDs.nil))) rfl Try.follows (f := 137) (fn := Try.f137) Try.func137 (by kernel_rfl) (by kernel_rfl) r137_eq
end Go.Proofs.Ytjleeabhpfmhaaa
end

section
open Go Go.Proofs.AM
namespace Go.Proofs.Ytjleeabhpfmhaaa

noncomputable def m138 (x : TyD × Int × (List Int) × Unit) : Option (TyD × (Int × Unit)) :=
 bif (decide ((((List.length x.1.1) : Nat) : Int) = (0 : Int))) then
 (some (x.1, ((2 : Int), ())))
 else
 (bif x.1.2.2.1 then
 (some (x.1, ((8 : Int), ())))
 else
 (bif (decide (x.2.1 ≥ (0 : Int))) then
 (bif (!(decide (x.2.1 < (((List.length x.1.1) : Nat) : Int)))) then
 (some (x.1, ((1 : Int), ())))
 else
 (bif (!(decide ((((List.length x.2.2.1) : Nat) : Int) = (256 : Int)))) then
 (some (x.1, ((1 : Int), ())))
 else
 (bif x.1.2.2.2.1 then
 (bif (decide (x.1.2.2.2.2.1 = (0 : Int))) then
 (some ((x.1.1, (x.1.2.1, (true, x.1.2.2.2))), ((8 : Int), ())))
 else
 (Option.bind (m52 (x.2.2.1, ())) fun (y1 : ((List Int) × Unit)) =>
 gd ((0 : Int) ≤ x.2.1) (gd (x.2.1 < (((List.length x.1.1) : Nat) : Int)) (gd ((Int.toNat x.2.1) < (List.length x.1.1)) (gd ((0 : Int) ≤ x.2.1) (gd (x.2.1 < (((List.length x.1.2.1) : Nat) : Int)) (gd ((Int.toNat x.2.1) < (List.length x.1.2.1)) (Option.bind (m52 (x.2.2.1, ())) fun (y2 : ((List Int) × Unit)) =>
 gd ((((List.length x.1.2.2.2.2.2.2) + (List.length ((x.2.1, y2.1) :: ([] : List (Int × (List Int)))))) * 32) ≤ 140737488355328) (gd (((List.length x.1.2.2.2.2.2.2) + (List.length ((x.2.1, y2.1) :: ([] : List (Int × (List Int)))))) ≤ 140737488355328) (gd ((0 : Int) ≤ (if (Go.IntKind.wrap .i64 ((((List.length (x.1.2.2.2.2.2.2 ++ ((x.2.1, y2.1) :: ([] : List (Int × (List Int)))))) : Nat) : Int) - (1024 : Int))) > (0 : Int) then (Go.IntKind.wrap .i64 ((((List.length (x.1.2.2.2.2.2.2 ++ ((x.2.1, y2.1) :: ([] : List (Int × (List Int)))))) : Nat) : Int) - (1024 : Int))) else (0 : Int))) (gd ((if (Go.IntKind.wrap .i64 ((((List.length (x.1.2.2.2.2.2.2 ++ ((x.2.1, y2.1) :: ([] : List (Int × (List Int)))))) : Nat) : Int) - (1024 : Int))) > (0 : Int) then (Go.IntKind.wrap .i64 ((((List.length (x.1.2.2.2.2.2.2 ++ ((x.2.1, y2.1) :: ([] : List (Int × (List Int)))))) : Nat) : Int) - (1024 : Int))) else (0 : Int)) ≤ (((List.length (x.1.2.2.2.2.2.2 ++ ((x.2.1, y2.1) :: ([] : List (Int × (List Int)))))) : Nat) : Int)) (gd ((((List.length (x.1.2.2.2.2.2.2 ++ ((x.2.1, y2.1) :: ([] : List (Int × (List Int)))))) : Nat) : Int) ≤ (((List.length (x.1.2.2.2.2.2.2 ++ ((x.2.1, y2.1) :: ([] : List (Int × (List Int)))))) : Nat) : Int)) (some (((List.set x.1.1 (Int.toNat x.2.1) y1.1), ((List.set x.1.2.1 (Int.toNat x.2.1) false), (x.1.2.2.1, (x.1.2.2.2.1, ((Go.IntKind.wrap .i64 (x.1.2.2.2.2.1 - (1 : Int))), ((Go.IntKind.wrap .i64 (x.1.2.2.2.2.2.1 + (1 : Int))), (List.take ((Int.toNat (((List.length (x.1.2.2.2.2.2.2 ++ ((x.2.1, y2.1) :: ([] : List (Int × (List Int)))))) : Nat) : Int)) - (Int.toNat (if (Go.IntKind.wrap .i64 ((((List.length (x.1.2.2.2.2.2.2 ++ ((x.2.1, y2.1) :: ([] : List (Int × (List Int)))))) : Nat) : Int) - (1024 : Int))) > (0 : Int) then (Go.IntKind.wrap .i64 ((((List.length (x.1.2.2.2.2.2.2 ++ ((x.2.1, y2.1) :: ([] : List (Int × (List Int)))))) : Nat) : Int) - (1024 : Int))) else (0 : Int)))) (List.drop (Int.toNat (if (Go.IntKind.wrap .i64 ((((List.length (x.1.2.2.2.2.2.2 ++ ((x.2.1, y2.1) :: ([] : List (Int × (List Int)))))) : Nat) : Int) - (1024 : Int))) > (0 : Int) then (Go.IntKind.wrap .i64 ((((List.length (x.1.2.2.2.2.2.2 ++ ((x.2.1, y2.1) :: ([] : List (Int × (List Int)))))) : Nat) : Int) - (1024 : Int))) else (0 : Int))) (x.1.2.2.2.2.2.2 ++ ((x.2.1, y2.1) :: ([] : List (Int × (List Int))))))))))))), ((0 : Int), ())))))))))))))))
 else
 (Option.bind (m52 (x.2.2.1, ())) fun (y1 : ((List Int) × Unit)) =>
 gd ((0 : Int) ≤ x.2.1) (gd (x.2.1 < (((List.length x.1.1) : Nat) : Int)) (gd ((Int.toNat x.2.1) < (List.length x.1.1)) (gd ((0 : Int) ≤ x.2.1) (gd (x.2.1 < (((List.length x.1.2.1) : Nat) : Int)) (gd ((Int.toNat x.2.1) < (List.length x.1.2.1)) (Option.bind (m52 (x.2.2.1, ())) fun (y2 : ((List Int) × Unit)) =>
 gd ((((List.length x.1.2.2.2.2.2.2) + (List.length ((x.2.1, y2.1) :: ([] : List (Int × (List Int)))))) * 32) ≤ 140737488355328) (gd (((List.length x.1.2.2.2.2.2.2) + (List.length ((x.2.1, y2.1) :: ([] : List (Int × (List Int)))))) ≤ 140737488355328) (gd ((0 : Int) ≤ (if (Go.IntKind.wrap .i64 ((((List.length (x.1.2.2.2.2.2.2 ++ ((x.2.1, y2.1) :: ([] : List (Int × (List Int)))))) : Nat) : Int) - (1024 : Int))) > (0 : Int) then (Go.IntKind.wrap .i64 ((((List.length (x.1.2.2.2.2.2.2 ++ ((x.2.1, y2.1) :: ([] : List (Int × (List Int)))))) : Nat) : Int) - (1024 : Int))) else (0 : Int))) (gd ((if (Go.IntKind.wrap .i64 ((((List.length (x.1.2.2.2.2.2.2 ++ ((x.2.1, y2.1) :: ([] : List (Int × (List Int)))))) : Nat) : Int) - (1024 : Int))) > (0 : Int) then (Go.IntKind.wrap .i64 ((((List.length (x.1.2.2.2.2.2.2 ++ ((x.2.1, y2.1) :: ([] : List (Int × (List Int)))))) : Nat) : Int) - (1024 : Int))) else (0 : Int)) ≤ (((List.length (x.1.2.2.2.2.2.2 ++ ((x.2.1, y2.1) :: ([] : List (Int × (List Int)))))) : Nat) : Int)) (gd ((((List.length (x.1.2.2.2.2.2.2 ++ ((x.2.1, y2.1) :: ([] : List (Int × (List Int)))))) : Nat) : Int) ≤ (((List.length (x.1.2.2.2.2.2.2 ++ ((x.2.1, y2.1) :: ([] : List (Int × (List Int)))))) : Nat) : Int)) (some (((List.set x.1.1 (Int.toNat x.2.1) y1.1), ((List.set x.1.2.1 (Int.toNat x.2.1) false), (x.1.2.2.1, (x.1.2.2.2.1, (x.1.2.2.2.2.1, ((Go.IntKind.wrap .i64 (x.1.2.2.2.2.2.1 + (1 : Int))), (List.take ((Int.toNat (((List.length (x.1.2.2.2.2.2.2 ++ ((x.2.1, y2.1) :: ([] : List (Int × (List Int)))))) : Nat) : Int)) - (Int.toNat (if (Go.IntKind.wrap .i64 ((((List.length (x.1.2.2.2.2.2.2 ++ ((x.2.1, y2.1) :: ([] : List (Int × (List Int)))))) : Nat) : Int) - (1024 : Int))) > (0 : Int) then (Go.IntKind.wrap .i64 ((((List.length (x.1.2.2.2.2.2.2 ++ ((x.2.1, y2.1) :: ([] : List (Int × (List Int)))))) : Nat) : Int) - (1024 : Int))) else (0 : Int)))) (List.drop (Int.toNat (if (Go.IntKind.wrap .i64 ((((List.length (x.1.2.2.2.2.2.2 ++ ((x.2.1, y2.1) :: ([] : List (Int × (List Int)))))) : Nat) : Int) - (1024 : Int))) > (0 : Int) then (Go.IntKind.wrap .i64 ((((List.length (x.1.2.2.2.2.2.2 ++ ((x.2.1, y2.1) :: ([] : List (Int × (List Int)))))) : Nat) : Int) - (1024 : Int))) else (0 : Int))) (x.1.2.2.2.2.2.2 ++ ((x.2.1, y2.1) :: ([] : List (Int × (List Int))))))))))))), ((0 : Int), ())))))))))))))))))
 else
 (some (x.1, ((1 : Int), ())))))

noncomputable def i138_141 : ID := aInl Try.prog (envOf [] [] [] []) ⟨[], []⟩ Try.f141
noncomputable def i138_139 : ID := aInl Try.prog (envOf [] [] [] [(141, i138_141)]) ⟨[], []⟩ Try.f139
noncomputable def i138_140 : ID := aInl Try.prog (envOf [] [] [] []) ⟨[], []⟩ Try.f140
noncomputable def r138 : PDen ((true, (.pair (.sl (.sl (.int .u8))) (.pair (.sl .bool) (.pair .bool (.pair .bool (.pair (.int .i64) (.pair (.int .i64) (.sl (.pair (.int .i64) (.sl (.int .u8))))))))))) :: [(false, (.int .i64)), (false, (.sl (.int .u8)))]) → Option (PDen ((true, (.pair (.sl (.sl (.int .u8))) (.pair (.sl .bool) (.pair .bool (.pair .bool (.pair (.int .i64) (.pair (.int .i64) (.sl (.pair (.int .i64) (.sl (.int .u8))))))))))) :: [(false, (.int .i64))])) := fun x => afunIO Try.prog (envOf [(52, ⟨[(false, (.sl (.int .u8)))], [(false, (.sl (.int .u8)))], false, m52⟩)] [] [71, 87] [(139, i138_139), (140, i138_140)]) ⟨[], []⟩ Try.f138 75 (.pair (.sl (.sl (.int .u8))) (.pair (.sl .bool) (.pair .bool (.pair .bool (.pair (.int .i64) (.pair (.int .i64) (.sl (.pair (.int .i64) (.sl (.int .u8)))))))))) (.p (.s 33) (.p (.s 4) (.p .d (.p .d (.p .d (.p .d (.s 182))))))) [(false, (.int .i64)), (false, (.sl (.int .u8)))] [(false, (.int .i64))] x
theorem r138_eq : r138 = m138 := by kernel_rfl

theorem i138_141_sound : i138_141.Sound Try.prog 141 := aInl_sound' (envOf_sound (CSs.nil) (HDs.nil) (IDs.nil)) Try.follows (f := 141) (fn := Try.f141) Try.func141 (by kernel_rfl) (by kernel_rfl)
theorem i138_139_sound : i138_139.Sound Try.prog 139 := aInl_sound' (envOf_sound (CSs.nil) (HDs.nil) (IDs.cons i138_141_sound (IDs.nil))) Try.follows (f := 139) (fn := Try.f139) Try.func139 (by kernel_rfl) (by kernel_rfl)
theorem i138_140_sound : i138_140.Sound Try.prog 140 := aInl_sound' (envOf_sound (CSs.nil) (HDs.nil) (IDs.nil)) Try.follows (f := 140) (fn := Try.f140) Try.func140 (by kernel_rfl) (by kernel_rfl)
theorem c138 : IOc.Sound Try.prog 138 ⟨75, (.pair (.sl (.sl (.int .u8))) (.pair (.sl .bool) (.pair .bool (.pair .bool (.pair (.int .i64) (.pair (.int .i64) (.sl (.pair (.int .i64) (.sl (.int .u8)))))))))), (.p (.s 33) (.p (.s 4) (.p .d (.p .d (.p .d (.p .d (.s 182))))))), [(false, (.int .i64)), (false, (.sl (.int .u8)))], [(false, (.int .i64))], m138⟩ := afunIO_sound' (envOf_sound (CSs.cons (OM.Sound.cs c52) (CSs.nil)) (HDs.nil) (IDs.cons i138_139_sound (IDs.cons i138_140_sound (IDs.nil)))) rfl Try.follows (f := 138) (fn := Try.f138) Try.func138 (by kernel_rfl) (by kernel_rfl) r138_eq
end Go.Proofs.Ytjleeabhpfmhaaa
end

section
open Go Go.Proofs.AM
namespace Go.Proofs.Ytjleeabhpfmhaaa

noncomputable def m6 (x : Unit) : Option (Bool × Unit) :=
 gd (((20 : Int) * (1 : Int)) ≤ (140737488355328 : Int)) (Option.bind (loopM (X := (Int × TyD)) (E := TyD) (fun (x1 : (Int × TyD)) =>
 bif (decide (x1.1 < (20 : Int))) then
 (gd (((256 : Int) * (1 : Int)) ≤ (140737488355328 : Int)) (gd ((((List.length x1.2.1) + (List.length ((List.replicate (Int.toNat (256 : Int)) (0 : Int)) :: ([] : List (List Int))))) * 24) ≤ 140737488355328) (gd (((List.length x1.2.1) + (List.length ((List.replicate (Int.toNat (256 : Int)) (0 : Int)) :: ([] : List (List Int))))) ≤ 140737488355328) (some (Sum.inl ((Go.IntKind.wrap .i64 (x1.1 + (1 : Int))), ((x1.2.1 ++ ((List.replicate (Int.toNat (256 : Int)) (0 : Int)) :: ([] : List (List Int)))), (x1.2.2.1, (x1.2.2.2.1, (x1.2.2.2.2.1, (x1.2.2.2.2.2.1, (x1.2.2.2.2.2.2.1, x1.2.2.2.2.2.2.2))))))))))))
 else
 (some (Sum.inr (x1.2.1, (x1.2.2.1, (x1.2.2.2.1, (x1.2.2.2.2.1, (x1.2.2.2.2.2.1, (x1.2.2.2.2.2.2.1, x1.2.2.2.2.2.2.2))))))))) ((0 : Int), (([] : List (List Int)), ((List.replicate (Int.toNat (20 : Int)) false), (false, (false, ((0 : Int), ((0 : Int), ([] : List (Int × (List Int))))))))))) fun (y1 : TyD) =>
 Option.bind (m10 ((16 : Int), ((15 : Int), ((1 : Int), ())))) fun (y2 : (Int × Unit)) =>
 bif (!(decide (y2.1 = (1 : Int)))) then
 (some (false, ()))
 else
 (Option.bind (m137 (y1, ())) fun (y3 : (TyD × (Int × Unit))) =>
 bif (decide ((2 : Int) > (Go.IntKind.wrap .i64 (y3.2.1 - (16 : Int))))) then
 (Option.bind (m137 (y3.1, ())) fun (y4 : (TyD × (Int × Unit))) =>
 bif (decide ((2 : Int) > (Go.IntKind.wrap .i64 (y4.2.1 - (16 : Int))))) then
 (some (false, ()))
 else
 (Option.bind (loopM (X := ((List (List Int)) × (Int × TyD))) (E := (((List (List Int)) × TyD) ⊕ ((List (List Int)) × (Int × TyD)))) (fun (x5 : ((List (List Int)) × (Int × TyD))) =>
 bif (decide (x5.2.1 < (16 : Int))) then
 (Option.bind (m135 (x5.2.2, ((Go.IntKind.wrap .i64 ((2 : Int) + x5.2.1)), ()))) fun (y6 : (TyD × ((List Int) × (Int × Unit)))) =>
 bif (!(decide (y6.2.2.1 = (0 : Int)))) then
 (some (Sum.inr (Sum.inr (([] : List (List Int)), (y6.2.2.1, (y6.1.1, (y6.1.2.1, (y6.1.2.2.1, (y6.1.2.2.2.1, (y6.1.2.2.2.2.1, (y6.1.2.2.2.2.2.1, y6.1.2.2.2.2.2.2)))))))))))
 else
 (gd ((((List.length x5.1) + (List.length (y6.2.1 :: ([] : List (List Int))))) * 24) ≤ 140737488355328) (gd (((List.length x5.1) + (List.length (y6.2.1 :: ([] : List (List Int))))) ≤ 140737488355328) (some (Sum.inl ((x5.1 ++ (y6.2.1 :: ([] : List (List Int)))), ((Go.IntKind.wrap .i64 (x5.2.1 + (1 : Int))), (y6.1.1, (y6.1.2.1, (y6.1.2.2.1, (y6.1.2.2.2.1, (y6.1.2.2.2.2.1, (y6.1.2.2.2.2.2.1, y6.1.2.2.2.2.2.2)))))))))))))
 else
 (some (Sum.inr (Sum.inl (x5.1, (x5.2.2.1, (x5.2.2.2.1, (x5.2.2.2.2.1, (x5.2.2.2.2.2.1, (x5.2.2.2.2.2.2.1, (x5.2.2.2.2.2.2.2.1, x5.2.2.2.2.2.2.2.2))))))))))) (([] : List (List Int)), ((0 : Int), (y4.1.1, (y4.1.2.1, (y4.1.2.2.1, (y4.1.2.2.2.1, (y4.1.2.2.2.2.1, (y4.1.2.2.2.2.2.1, y4.1.2.2.2.2.2.2))))))))) fun (y5 : (((List (List Int)) × TyD) ⊕ ((List (List Int)) × (Int × TyD)))) =>
 Sum.elim (fun y6 =>
 some (false, ())) (fun y6 =>
 some (false, ())) y5))
 else
 (Option.bind (m36 (((0 : Int), (1 : Int)), ())) fun (y4 : ((List Int) × (Int × Unit))) =>
 bif (!(decide (y4.2.1 = (0 : Int)))) then
 (Option.bind (m137 (y3.1, ())) fun (y5 : (TyD × (Int × Unit))) =>
 bif (decide ((2 : Int) > (Go.IntKind.wrap .i64 (y5.2.1 - (16 : Int))))) then
 (bif (!(decide (y4.2.1 = (0 : Int)))) then
 (some (false, ()))
 else
 (some (false, ())))
 else
 (Option.bind (loopM (X := ((List (List Int)) × (Int × TyD))) (E := (((List (List Int)) × TyD) ⊕ ((List (List Int)) × (Int × TyD)))) (fun (x6 : ((List (List Int)) × (Int × TyD))) =>
 bif (decide (x6.2.1 < (16 : Int))) then
 (Option.bind (m135 (x6.2.2, ((Go.IntKind.wrap .i64 ((2 : Int) + x6.2.1)), ()))) fun (y7 : (TyD × ((List Int) × (Int × Unit)))) =>
 bif (!(decide (y7.2.2.1 = (0 : Int)))) then
 (some (Sum.inr (Sum.inr (([] : List (List Int)), (y7.2.2.1, (y7.1.1, (y7.1.2.1, (y7.1.2.2.1, (y7.1.2.2.2.1, (y7.1.2.2.2.2.1, (y7.1.2.2.2.2.2.1, y7.1.2.2.2.2.2.2)))))))))))
 else
 (gd ((((List.length x6.1) + (List.length (y7.2.1 :: ([] : List (List Int))))) * 24) ≤ 140737488355328) (gd (((List.length x6.1) + (List.length (y7.2.1 :: ([] : List (List Int))))) ≤ 140737488355328) (some (Sum.inl ((x6.1 ++ (y7.2.1 :: ([] : List (List Int)))), ((Go.IntKind.wrap .i64 (x6.2.1 + (1 : Int))), (y7.1.1, (y7.1.2.1, (y7.1.2.2.1, (y7.1.2.2.2.1, (y7.1.2.2.2.2.1, (y7.1.2.2.2.2.2.1, y7.1.2.2.2.2.2.2)))))))))))))
 else
 (some (Sum.inr (Sum.inl (x6.1, (x6.2.2.1, (x6.2.2.2.1, (x6.2.2.2.2.1, (x6.2.2.2.2.2.1, (x6.2.2.2.2.2.2.1, (x6.2.2.2.2.2.2.2.1, x6.2.2.2.2.2.2.2.2))))))))))) (([] : List (List Int)), ((0 : Int), (y5.1.1, (y5.1.2.1, (y5.1.2.2.1, (y5.1.2.2.2.1, (y5.1.2.2.2.2.1, (y5.1.2.2.2.2.2.1, y5.1.2.2.2.2.2.2))))))))) fun (y6 : (((List (List Int)) × TyD) ⊕ ((List (List Int)) × (Int × TyD)))) =>
 Sum.elim (fun y7 =>
 bif (!(decide (y4.2.1 = (0 : Int)))) then
 (some (false, ()))
 else
 (bif (!(decide ((((List.length y7.1) : Nat) : Int) = (16 : Int)))) then
 (some (false, ()))
 else
 (Option.bind (m7 (y7.1, ())) fun (y8 : (((List TyT) × (Int × Int)) × (Int × Unit))) =>
 bif (decide (y8.2.1 = (0 : Int))) then
 (bif (decide (y8.1.2.1 = (1 : Int))) then
 (bif (decide (y8.1.2.2 = (1 : Int))) then
 (some ((decide ((((List.length y8.1.1) : Nat) : Int) = (0 : Int))), ()))
 else
 (some (false, ())))
 else
 (some (false, ())))
 else
 (some (false, ()))))) (fun y7 =>
 bif (!(decide (y4.2.1 = (0 : Int)))) then
 (some (false, ()))
 else
 (bif (!(decide (y7.2.1 = (0 : Int)))) then
 (some (false, ()))
 else
 (bif (!(decide ((((List.length y7.1) : Nat) : Int) = (16 : Int)))) then
 (some (false, ()))
 else
 (Option.bind (m7 (y7.1, ())) fun (y8 : (((List TyT) × (Int × Int)) × (Int × Unit))) =>
 bif (decide (y8.2.1 = (0 : Int))) then
 (bif (decide (y8.1.2.1 = (1 : Int))) then
 (bif (decide (y8.1.2.2 = (1 : Int))) then
 (some ((decide ((((List.length y8.1.1) : Nat) : Int) = (0 : Int))), ()))
 else
 (some (false, ())))
 else
 (some (false, ())))
 else
 (some (false, ())))))) y6))
 else
 (Option.bind (m138 (y3.1, ((2 : Int), (y4.1, ())))) fun (y5 : (TyD × (Int × Unit))) =>
 bif (!(decide (y5.2.1 = (0 : Int)))) then
 (Option.bind (m137 (y5.1, ())) fun (y6 : (TyD × (Int × Unit))) =>
 bif (decide ((2 : Int) > (Go.IntKind.wrap .i64 (y6.2.1 - (16 : Int))))) then
 (bif (!(decide (y5.2.1 = (0 : Int)))) then
 (some (false, ()))
 else
 (some (false, ())))
 else
 (Option.bind (loopM (X := ((List (List Int)) × (Int × TyD))) (E := (((List (List Int)) × TyD) ⊕ ((List (List Int)) × (Int × TyD)))) (fun (x7 : ((List (List Int)) × (Int × TyD))) =>
 bif (decide (x7.2.1 < (16 : Int))) then
 (Option.bind (m135 (x7.2.2, ((Go.IntKind.wrap .i64 ((2 : Int) + x7.2.1)), ()))) fun (y8 : (TyD × ((List Int) × (Int × Unit)))) =>
 bif (!(decide (y8.2.2.1 = (0 : Int)))) then
 (some (Sum.inr (Sum.inr (([] : List (List Int)), (y8.2.2.1, (y8.1.1, (y8.1.2.1, (y8.1.2.2.1, (y8.1.2.2.2.1, (y8.1.2.2.2.2.1, (y8.1.2.2.2.2.2.1, y8.1.2.2.2.2.2.2)))))))))))
 else
 (gd ((((List.length x7.1) + (List.length (y8.2.1 :: ([] : List (List Int))))) * 24) ≤ 140737488355328) (gd (((List.length x7.1) + (List.length (y8.2.1 :: ([] : List (List Int))))) ≤ 140737488355328) (some (Sum.inl ((x7.1 ++ (y8.2.1 :: ([] : List (List Int)))), ((Go.IntKind.wrap .i64 (x7.2.1 + (1 : Int))), (y8.1.1, (y8.1.2.1, (y8.1.2.2.1, (y8.1.2.2.2.1, (y8.1.2.2.2.2.1, (y8.1.2.2.2.2.2.1, y8.1.2.2.2.2.2.2)))))))))))))
 else
 (some (Sum.inr (Sum.inl (x7.1, (x7.2.2.1, (x7.2.2.2.1, (x7.2.2.2.2.1, (x7.2.2.2.2.2.1, (x7.2.2.2.2.2.2.1, (x7.2.2.2.2.2.2.2.1, x7.2.2.2.2.2.2.2.2))))))))))) (([] : List (List Int)), ((0 : Int), (y6.1.1, (y6.1.2.1, (y6.1.2.2.1, (y6.1.2.2.2.1, (y6.1.2.2.2.2.1, (y6.1.2.2.2.2.2.1, y6.1.2.2.2.2.2.2))))))))) fun (y7 : (((List (List Int)) × TyD) ⊕ ((List (List Int)) × (Int × TyD)))) =>
 Sum.elim (fun y8 =>
 bif (!(decide (y5.2.1 = (0 : Int)))) then
 (some (false, ()))
 else
 (bif (!(decide ((((List.length y8.1) : Nat) : Int) = (16 : Int)))) then
 (some (false, ()))
 else
 (Option.bind (m7 (y8.1, ())) fun (y9 : (((List TyT) × (Int × Int)) × (Int × Unit))) =>
 bif (decide (y9.2.1 = (0 : Int))) then
 (bif (decide (y9.1.2.1 = (1 : Int))) then
 (bif (decide (y9.1.2.2 = (1 : Int))) then
 (some ((decide ((((List.length y9.1.1) : Nat) : Int) = (0 : Int))), ()))
 else
 (some (false, ())))
 else
 (some (false, ())))
 else
 (some (false, ()))))) (fun y8 =>
 bif (!(decide (y5.2.1 = (0 : Int)))) then
 (some (false, ()))
 else
 (bif (!(decide (y8.2.1 = (0 : Int)))) then
 (some (false, ()))
 else
 (bif (!(decide ((((List.length y8.1) : Nat) : Int) = (16 : Int)))) then
 (some (false, ()))
 else
 (Option.bind (m7 (y8.1, ())) fun (y9 : (((List TyT) × (Int × Int)) × (Int × Unit))) =>
 bif (decide (y9.2.1 = (0 : Int))) then
 (bif (decide (y9.1.2.1 = (1 : Int))) then
 (bif (decide (y9.1.2.2 = (1 : Int))) then
 (some ((decide ((((List.length y9.1.1) : Nat) : Int) = (0 : Int))), ()))
 else
 (some (false, ())))
 else
 (some (false, ())))
 else
 (some (false, ())))))) y7))
 else
 (Option.bind (m134 (y5.1, ())) fun (y6 : (TyD × (Int × Unit))) =>
 Option.bind (m137 (y6.1, ())) fun (y7 : (TyD × (Int × Unit))) =>
 bif (decide ((2 : Int) > (Go.IntKind.wrap .i64 (y7.2.1 - (16 : Int))))) then
 (bif (!(decide (y6.2.1 = (0 : Int)))) then
 (some (false, ()))
 else
 (some (false, ())))
 else
 (Option.bind (loopM (X := ((List (List Int)) × (Int × TyD))) (E := (((List (List Int)) × TyD) ⊕ ((List (List Int)) × (Int × TyD)))) (fun (x8 : ((List (List Int)) × (Int × TyD))) =>
 bif (decide (x8.2.1 < (16 : Int))) then
 (Option.bind (m135 (x8.2.2, ((Go.IntKind.wrap .i64 ((2 : Int) + x8.2.1)), ()))) fun (y9 : (TyD × ((List Int) × (Int × Unit)))) =>
 bif (!(decide (y9.2.2.1 = (0 : Int)))) then
 (some (Sum.inr (Sum.inr (([] : List (List Int)), (y9.2.2.1, (y9.1.1, (y9.1.2.1, (y9.1.2.2.1, (y9.1.2.2.2.1, (y9.1.2.2.2.2.1, (y9.1.2.2.2.2.2.1, y9.1.2.2.2.2.2.2)))))))))))
 else
 (gd ((((List.length x8.1) + (List.length (y9.2.1 :: ([] : List (List Int))))) * 24) ≤ 140737488355328) (gd (((List.length x8.1) + (List.length (y9.2.1 :: ([] : List (List Int))))) ≤ 140737488355328) (some (Sum.inl ((x8.1 ++ (y9.2.1 :: ([] : List (List Int)))), ((Go.IntKind.wrap .i64 (x8.2.1 + (1 : Int))), (y9.1.1, (y9.1.2.1, (y9.1.2.2.1, (y9.1.2.2.2.1, (y9.1.2.2.2.2.1, (y9.1.2.2.2.2.2.1, y9.1.2.2.2.2.2.2)))))))))))))
 else
 (some (Sum.inr (Sum.inl (x8.1, (x8.2.2.1, (x8.2.2.2.1, (x8.2.2.2.2.1, (x8.2.2.2.2.2.1, (x8.2.2.2.2.2.2.1, (x8.2.2.2.2.2.2.2.1, x8.2.2.2.2.2.2.2.2))))))))))) (([] : List (List Int)), ((0 : Int), (y7.1.1, (y7.1.2.1, (y7.1.2.2.1, (y7.1.2.2.2.1, (y7.1.2.2.2.2.1, (y7.1.2.2.2.2.2.1, y7.1.2.2.2.2.2.2))))))))) fun (y8 : (((List (List Int)) × TyD) ⊕ ((List (List Int)) × (Int × TyD)))) =>
 Sum.elim (fun y9 =>
 bif (!(decide (y6.2.1 = (0 : Int)))) then
 (some (false, ()))
 else
 (bif (!(decide ((((List.length y9.1) : Nat) : Int) = (16 : Int)))) then
 (some (false, ()))
 else
 (Option.bind (m7 (y9.1, ())) fun (y10 : (((List TyT) × (Int × Int)) × (Int × Unit))) =>
 bif (decide (y10.2.1 = (0 : Int))) then
 (bif (decide (y10.1.2.1 = (1 : Int))) then
 (bif (decide (y10.1.2.2 = (1 : Int))) then
 (some ((decide ((((List.length y10.1.1) : Nat) : Int) = (0 : Int))), ()))
 else
 (some (false, ())))
 else
 (some (false, ())))
 else
 (some (false, ()))))) (fun y9 =>
 bif (!(decide (y6.2.1 = (0 : Int)))) then
 (some (false, ()))
 else
 (bif (!(decide (y9.2.1 = (0 : Int)))) then
 (some (false, ()))
 else
 (bif (!(decide ((((List.length y9.1) : Nat) : Int) = (16 : Int)))) then
 (some (false, ()))
 else
 (Option.bind (m7 (y9.1, ())) fun (y10 : (((List TyT) × (Int × Int)) × (Int × Unit))) =>
 bif (decide (y10.2.1 = (0 : Int))) then
 (bif (decide (y10.1.2.1 = (1 : Int))) then
 (bif (decide (y10.1.2.2 = (1 : Int))) then
 (some ((decide ((((List.length y10.1.1) : Nat) : Int) = (0 : Int))), ()))
 else
 (some (false, ())))
 else
 (some (false, ())))
 else
 (some (false, ())))))) y8))))))

noncomputable def i6_19 : ID := aInl Try.prog (envOf [] [] [23, 24] []) ⟨[(3000, ⟨[.slot 16 (.d false (.int .i64) true), .cell 1 0 (.v 33 (.sl (.int .u8)) false), .cell 1 1 (.v 4 .bool false), .cell 1 2 (.d false .bool true), .cell 1 3 (.d false .bool true), .cell 1 4 (.d false (.int .i64) true), .cell 1 5 (.d false (.int .i64) true), .cell 1 6 (.v 182 (.pair (.int .i64) (.sl (.int .u8))) false)], [0], [(some 0, [.cell 1 0 (.v 33 (.sl (.int .u8)) false), .cell 1 1 (.v 4 .bool false), .cell 1 2 (.d false .bool true), .cell 1 3 (.d false .bool true), .cell 1 4 (.d false (.int .i64) true), .cell 1 5 (.d false (.int .i64) true), .cell 1 6 (.v 182 (.pair (.int .i64) (.sl (.int .u8))) false)])], none⟩)], []⟩ Try.f19
noncomputable def i6_22 : ID := aInl Try.prog (envOf [] [] [] []) ⟨[], []⟩ Try.f22
noncomputable def i6_33 : ID := aInl Try.prog (envOf [] [(137, IOc.hd ⟨75, (.pair (.sl (.sl (.int .u8))) (.pair (.sl .bool) (.pair .bool (.pair .bool (.pair (.int .i64) (.pair (.int .i64) (.sl (.pair (.int .i64) (.sl (.int .u8)))))))))), (.p (.s 33) (.p (.s 4) (.p .d (.p .d (.p .d (.p .d (.s 182))))))), [], [(false, (.int .i64))], m137⟩)] [] [(22, i6_22)]) ⟨[], []⟩ Try.f33
noncomputable def i6_34 : ID := aInl Try.prog (envOf [(36, ⟨[(true, (.pair (.int .i64) (.int .i64)))], [(false, (.sl (.int .u8))), (false, (.int .i64))], false, m36⟩)] [(134, IOc.hd ⟨75, (.pair (.sl (.sl (.int .u8))) (.pair (.sl .bool) (.pair .bool (.pair .bool (.pair (.int .i64) (.pair (.int .i64) (.sl (.pair (.int .i64) (.sl (.int .u8)))))))))), (.p (.s 33) (.p (.s 4) (.p .d (.p .d (.p .d (.p .d (.s 182))))))), [], [(false, (.int .i64))], m134⟩), (138, IOc.hd ⟨75, (.pair (.sl (.sl (.int .u8))) (.pair (.sl .bool) (.pair .bool (.pair .bool (.pair (.int .i64) (.pair (.int .i64) (.sl (.pair (.int .i64) (.sl (.int .u8)))))))))), (.p (.s 33) (.p (.s 4) (.p .d (.p .d (.p .d (.p .d (.s 182))))))), [(false, (.int .i64)), (false, (.sl (.int .u8)))], [(false, (.int .i64))], m138⟩)] [] []) ⟨[], []⟩ Try.f34
noncomputable def i6_20 : ID := aInl Try.prog (envOf [] [] [] [(33, i6_33), (34, i6_34)]) ⟨[], []⟩ Try.f20
noncomputable def i6_21 : ID := aInl Try.prog (envOf [] [(135, IOc.hd ⟨75, (.pair (.sl (.sl (.int .u8))) (.pair (.sl .bool) (.pair .bool (.pair .bool (.pair (.int .i64) (.pair (.int .i64) (.sl (.pair (.int .i64) (.sl (.int .u8)))))))))), (.p (.s 33) (.p (.s 4) (.p .d (.p .d (.p .d (.p .d (.s 182))))))), [(false, (.int .i64))], [(false, (.sl (.int .u8))), (false, (.int .i64))], m135⟩)] [] [(33, i6_33)]) ⟨[(1000, ⟨[.slot 9 (.v 33 (.sl (.int .u8)) false), .slot 21 (.d false (.int .i64) true)], [], [(some 0, [.slot 9 (.v 33 (.sl (.int .u8)) false)])], none⟩), (6000, ⟨[.slot 9 (.v 33 (.sl (.int .u8)) false), .slot 21 (.d false (.int .i64) true), .cell 1 0 (.v 33 (.sl (.int .u8)) false), .cell 1 1 (.v 4 .bool false), .cell 1 2 (.d false .bool true), .cell 1 3 (.d false .bool true), .cell 1 4 (.d false (.int .i64) true), .cell 1 5 (.d false (.int .i64) true), .cell 1 6 (.v 182 (.pair (.int .i64) (.sl (.int .u8))) false)], [2, 3, 4], [(some 0, [.slot 9 (.v 33 (.sl (.int .u8)) false), .cell 1 0 (.v 33 (.sl (.int .u8)) false), .cell 1 1 (.v 4 .bool false), .cell 1 2 (.d false .bool true), .cell 1 3 (.d false .bool true), .cell 1 4 (.d false (.int .i64) true), .cell 1 5 (.d false (.int .i64) true), .cell 1 6 (.v 182 (.pair (.int .i64) (.sl (.int .u8))) false)]), (none, [.slot 6 (.d false (.sl (.sl (.int .u8))) true), .slot 7 (.d false (.int .i64) true), .cell 1 0 (.v 33 (.sl (.int .u8)) false), .cell 1 1 (.v 4 .bool false), .cell 1 2 (.d false .bool true), .cell 1 3 (.d false .bool true), .cell 1 4 (.d false (.int .i64) true), .cell 1 5 (.d false (.int .i64) true), .cell 1 6 (.v 182 (.pair (.int .i64) (.sl (.int .u8))) false)])], none⟩), (9000, ⟨[.slot 9 (.v 33 (.sl (.int .u8)) false), .slot 21 (.d false (.int .i64) true), .cell 1 0 (.v 33 (.sl (.int .u8)) false), .cell 1 1 (.v 4 .bool false), .cell 1 2 (.d false .bool true), .cell 1 3 (.d false .bool true), .cell 1 4 (.d false (.int .i64) true), .cell 1 5 (.d false (.int .i64) true), .cell 1 6 (.v 182 (.pair (.int .i64) (.sl (.int .u8))) false)], [5, 6, 7], [(some 0, [.slot 9 (.v 33 (.sl (.int .u8)) false), .cell 1 0 (.v 33 (.sl (.int .u8)) false), .cell 1 1 (.v 4 .bool false), .cell 1 2 (.d false .bool true), .cell 1 3 (.d false .bool true), .cell 1 4 (.d false (.int .i64) true), .cell 1 5 (.d false (.int .i64) true), .cell 1 6 (.v 182 (.pair (.int .i64) (.sl (.int .u8))) false)]), (none, [.slot 6 (.d false (.sl (.sl (.int .u8))) true), .slot 7 (.d false (.int .i64) true), .cell 1 0 (.v 33 (.sl (.int .u8)) false), .cell 1 1 (.v 4 .bool false), .cell 1 2 (.d false .bool true), .cell 1 3 (.d false .bool true), .cell 1 4 (.d false (.int .i64) true), .cell 1 5 (.d false (.int .i64) true), .cell 1 6 (.v 182 (.pair (.int .i64) (.sl (.int .u8))) false)])], none⟩), (12000, ⟨[.slot 9 (.v 33 (.sl (.int .u8)) false), .slot 21 (.d false (.int .i64) true), .cell 1 0 (.v 33 (.sl (.int .u8)) false), .cell 1 1 (.v 4 .bool false), .cell 1 2 (.d false .bool true), .cell 1 3 (.d false .bool true), .cell 1 4 (.d false (.int .i64) true), .cell 1 5 (.d false (.int .i64) true), .cell 1 6 (.v 182 (.pair (.int .i64) (.sl (.int .u8))) false)], [8, 9, 10], [(some 0, [.slot 9 (.v 33 (.sl (.int .u8)) false), .cell 1 0 (.v 33 (.sl (.int .u8)) false), .cell 1 1 (.v 4 .bool false), .cell 1 2 (.d false .bool true), .cell 1 3 (.d false .bool true), .cell 1 4 (.d false (.int .i64) true), .cell 1 5 (.d false (.int .i64) true), .cell 1 6 (.v 182 (.pair (.int .i64) (.sl (.int .u8))) false)]), (none, [.slot 6 (.d false (.sl (.sl (.int .u8))) true), .slot 7 (.d false (.int .i64) true), .cell 1 0 (.v 33 (.sl (.int .u8)) false), .cell 1 1 (.v 4 .bool false), .cell 1 2 (.d false .bool true), .cell 1 3 (.d false .bool true), .cell 1 4 (.d false (.int .i64) true), .cell 1 5 (.d false (.int .i64) true), .cell 1 6 (.v 182 (.pair (.int .i64) (.sl (.int .u8))) false)])], none⟩), (15000, ⟨[.slot 9 (.v 33 (.sl (.int .u8)) false), .slot 21 (.d false (.int .i64) true), .cell 1 0 (.v 33 (.sl (.int .u8)) false), .cell 1 1 (.v 4 .bool false), .cell 1 2 (.d false .bool true), .cell 1 3 (.d false .bool true), .cell 1 4 (.d false (.int .i64) true), .cell 1 5 (.d false (.int .i64) true), .cell 1 6 (.v 182 (.pair (.int .i64) (.sl (.int .u8))) false)], [11, 12, 13], [(some 0, [.slot 9 (.v 33 (.sl (.int .u8)) false), .cell 1 0 (.v 33 (.sl (.int .u8)) false), .cell 1 1 (.v 4 .bool false), .cell 1 2 (.d false .bool true), .cell 1 3 (.d false .bool true), .cell 1 4 (.d false (.int .i64) true), .cell 1 5 (.d false (.int .i64) true), .cell 1 6 (.v 182 (.pair (.int .i64) (.sl (.int .u8))) false)]), (none, [.slot 6 (.d false (.sl (.sl (.int .u8))) true), .slot 7 (.d false (.int .i64) true), .cell 1 0 (.v 33 (.sl (.int .u8)) false), .cell 1 1 (.v 4 .bool false), .cell 1 2 (.d false .bool true), .cell 1 3 (.d false .bool true), .cell 1 4 (.d false (.int .i64) true), .cell 1 5 (.d false (.int .i64) true), .cell 1 6 (.v 182 (.pair (.int .i64) (.sl (.int .u8))) false)])], none⟩), (18000, ⟨[.slot 9 (.v 33 (.sl (.int .u8)) false), .slot 21 (.d false (.int .i64) true), .cell 1 0 (.v 33 (.sl (.int .u8)) false), .cell 1 1 (.v 4 .bool false), .cell 1 2 (.d false .bool true), .cell 1 3 (.d false .bool true), .cell 1 4 (.d false (.int .i64) true), .cell 1 5 (.d false (.int .i64) true), .cell 1 6 (.v 182 (.pair (.int .i64) (.sl (.int .u8))) false)], [14, 15, 16], [(some 0, [.slot 9 (.v 33 (.sl (.int .u8)) false), .cell 1 0 (.v 33 (.sl (.int .u8)) false), .cell 1 1 (.v 4 .bool false), .cell 1 2 (.d false .bool true), .cell 1 3 (.d false .bool true), .cell 1 4 (.d false (.int .i64) true), .cell 1 5 (.d false (.int .i64) true), .cell 1 6 (.v 182 (.pair (.int .i64) (.sl (.int .u8))) false)]), (none, [.slot 6 (.d false (.sl (.sl (.int .u8))) true), .slot 7 (.d false (.int .i64) true), .cell 1 0 (.v 33 (.sl (.int .u8)) false), .cell 1 1 (.v 4 .bool false), .cell 1 2 (.d false .bool true), .cell 1 3 (.d false .bool true), .cell 1 4 (.d false (.int .i64) true), .cell 1 5 (.d false (.int .i64) true), .cell 1 6 (.v 182 (.pair (.int .i64) (.sl (.int .u8))) false)])], none⟩)], []⟩ Try.f21
noncomputable def r6 : PDen [] → Option (PDen [(false, .bool)]) := fun x => afun Try.prog (envOf [(7, ⟨[(false, (.sl (.sl (.int .u8))))], [(true, (.pair (.sl (.pair (.int .i64) (.pair (.sl (.pair (.int .i64) (.sl (.int .u8)))) (.sl (.int .i64))))) (.pair (.int .i64) (.int .i64)))), (false, (.int .i64))], false, m7⟩), (10, ⟨[(false, (.int .i64)), (false, (.int .i64)), (false, (.int .i64))], [(false, (.int .i64))], false, m10⟩)] [] [] [(19, i6_19), (20, i6_20), (21, i6_21)]) ⟨[], []⟩ Try.f6 [] [(false, .bool)] false x
theorem r6_eq : r6 = m6 := by kernel_rfl

theorem i6_19_sound : i6_19.Sound Try.prog 19 := aInl_sound' (envOf_sound (CSs.nil) (HDs.nil) (IDs.nil)) Try.follows (f := 19) (fn := Try.f19) Try.func19 (by kernel_rfl) (by kernel_rfl)
theorem i6_22_sound : i6_22.Sound Try.prog 22 := aInl_sound' (envOf_sound (CSs.nil) (HDs.nil) (IDs.nil)) Try.follows (f := 22) (fn := Try.f22) Try.func22 (by kernel_rfl) (by kernel_rfl)
theorem i6_33_sound : i6_33.Sound Try.prog 33 := aInl_sound' (envOf_sound (CSs.nil) (HDs.cons (IOc.Sound.hd c137) (HDs.nil)) (IDs.cons i6_22_sound (IDs.nil))) Try.follows (f := 33) (fn := Try.f33) Try.func33 (by kernel_rfl) (by kernel_rfl)
theorem i6_34_sound : i6_34.Sound Try.prog 34 := aInl_sound' (envOf_sound (CSs.cons c36 (CSs.nil)) (HDs.cons (IOc.Sound.hd c134) (HDs.cons (IOc.Sound.hd c138) (HDs.nil))) (IDs.nil)) Try.follows (f := 34) (fn := Try.f34) Try.func34 (by kernel_rfl) (by kernel_rfl)
theorem i6_20_sound : i6_20.Sound Try.prog 20 := aInl_sound' (envOf_sound (CSs.nil) (HDs.nil) (IDs.cons i6_33_sound (IDs.cons i6_34_sound (IDs.nil)))) Try.follows (f := 20) (fn := Try.f20) Try.func20 (by kernel_rfl) (by kernel_rfl)
theorem i6_21_sound : i6_21.Sound Try.prog 21 := aInl_sound' (envOf_sound (CSs.nil) (HDs.cons (IOc.Sound.hd c135) (HDs.nil)) (IDs.cons i6_33_sound (IDs.nil))) Try.follows (f := 21) (fn := Try.f21) Try.func21 (by kernel_rfl) (by kernel_rfl)
theorem c6 : CS.Sound Try.prog 6 ⟨[], [(false, .bool)], false, m6⟩ := afun_sound' (envOf_sound (CSs.cons c7 (CSs.cons c10 (CSs.nil))) (HDs.nil) (IDs.cons i6_19_sound (IDs.cons i6_20_sound (IDs.cons i6_21_sound (IDs.nil))))) rfl Try.follows (f := 6) (fn := Try.f6) Try.func6 (by kernel_rfl) (by kernel_rfl) r6_eq
end Go.Proofs.Ytjleeabhpfmhaaa
end

section
open Go Go.Proofs.AM
namespace Go.Proofs.Ytjleeabhpfmhaaa

noncomputable def m15 (x : (List TyT) × Unit) : Option (Bool × Unit) :=
 gd ((0 : Int) ≤ (if (12 : Int) < (((List.length x.1) : Nat) : Int) then (12 : Int) else (((List.length x.1) : Nat) : Int))) (gd ((if (12 : Int) < (((List.length x.1) : Nat) : Int) then (12 : Int) else (((List.length x.1) : Nat) : Int)) ≤ (((List.length x.1) : Nat) : Int)) (Option.bind (loopM (X := (Int × Int)) (E := Int) (fun (x1 : (Int × Int)) =>
 bif (decide (x1.2 < (((List.length (List.take ((Int.toNat (if (12 : Int) < (((List.length x.1) : Nat) : Int) then (12 : Int) else (((List.length x.1) : Nat) : Int))) - (Int.toNat (0 : Int))) (List.drop (Int.toNat (0 : Int)) x.1))) : Nat) : Int))) then
 (gd ((0 : Int) ≤ x1.2) (gd (x1.2 < (((List.length (List.take ((Int.toNat (if (12 : Int) < (((List.length x.1) : Nat) : Int) then (12 : Int) else (((List.length x.1) : Nat) : Int))) - (Int.toNat (0 : Int))) (List.drop (Int.toNat (0 : Int)) x.1))) : Nat) : Int)) (some (Sum.inl ((Go.IntKind.wrap .i64 (x1.1 + (Go.IntKind.wrap .i64 ((if (100 : Int) < (((List.length (List.getD (List.take ((Int.toNat (if (12 : Int) < (((List.length x.1) : Nat) : Int) then (12 : Int) else (((List.length x.1) : Nat) : Int))) - (Int.toNat (0 : Int))) (List.drop (Int.toNat (0 : Int)) x.1)) (Int.toNat x1.2) ((0 : Int), (([] : List (Int × (List Int))), ([] : List Int)))).2.1) : Nat) : Int) then (100 : Int) else (((List.length (List.getD (List.take ((Int.toNat (if (12 : Int) < (((List.length x.1) : Nat) : Int) then (12 : Int) else (((List.length x.1) : Nat) : Int))) - (Int.toNat (0 : Int))) (List.drop (Int.toNat (0 : Int)) x.1)) (Int.toNat x1.2) ((0 : Int), (([] : List (Int × (List Int))), ([] : List Int)))).2.1) : Nat) : Int)) + (if (300 : Int) < (((List.length (List.getD (List.take ((Int.toNat (if (12 : Int) < (((List.length x.1) : Nat) : Int) then (12 : Int) else (((List.length x.1) : Nat) : Int))) - (Int.toNat (0 : Int))) (List.drop (Int.toNat (0 : Int)) x.1)) (Int.toNat x1.2) ((0 : Int), (([] : List (Int × (List Int))), ([] : List Int)))).2.2) : Nat) : Int) then (300 : Int) else (((List.length (List.getD (List.take ((Int.toNat (if (12 : Int) < (((List.length x.1) : Nat) : Int) then (12 : Int) else (((List.length x.1) : Nat) : Int))) - (Int.toNat (0 : Int))) (List.drop (Int.toNat (0 : Int)) x.1)) (Int.toNat x1.2) ((0 : Int), (([] : List (Int × (List Int))), ([] : List Int)))).2.2) : Nat) : Int)))))), (Go.IntKind.wrap .i64 (x1.2 + (1 : Int))))))))
 else
 (some (Sum.inr x1.1))) ((0 : Int), (0 : Int))) fun (y1 : Int) =>
 bif (decide ((((List.length x.1) : Nat) : Int) ≤ (12 : Int))) then
 (some ((decide (y1 ≤ (300 : Int))), ()))
 else
 (some (false, ()))))

noncomputable def r15 : PDen [(false, (.sl (.pair (.int .i64) (.pair (.sl (.pair (.int .i64) (.sl (.int .u8)))) (.sl (.int .i64))))))] → Option (PDen [(false, .bool)]) := fun x => afun Try.prog (envOf [] [] [] []) ⟨[(0, ⟨[.slot 3 (.d false (.int .i64) true), .slot 12 (.d false (.int .i64) true)], [], [(some 0, [.slot 3 (.d false (.int .i64) true)])], none⟩)], []⟩ Try.f15 [(false, (.sl (.pair (.int .i64) (.pair (.sl (.pair (.int .i64) (.sl (.int .u8)))) (.sl (.int .i64))))))] [(false, .bool)] false x
theorem r15_eq : r15 = m15 := by kernel_rfl

theorem c15 : CS.Sound Try.prog 15 ⟨[(false, (.sl (.pair (.int .i64) (.pair (.sl (.pair (.int .i64) (.sl (.int .u8)))) (.sl (.int .i64))))))], [(false, .bool)], false, m15⟩ := afun_sound' (envOf_sound (CSs.nil) (HDs.nil) (IDs.nil)) rfl Try.follows (f := 15) (fn := Try.f15) Try.func15 (by kernel_rfl) (by kernel_rfl) r15_eq
end Go.Proofs.Ytjleeabhpfmhaaa
end

section
open Go Go.Proofs.AM
namespace Go.Proofs.Ytjleeabhpfmhaaa

noncomputable def m12 (x : (Int × (Int × (Int × (Int × ((List TyT) × ((List Int) × Bool)))))) × Unit) : Option (Bool × Unit) :=
 bif (decide (x.1.2.2.1 ≥ (16 : Int))) then
 (bif (decide (x.1.2.2.1 ≤ (64 : Int))) then
 (bif (decide (x.1.2.2.2.1 ≥ (1 : Int))) then
 (bif (decide (x.1.2.2.2.1 < x.1.2.2.1)) then
 (bif (decide (x.1.2.1 ≥ (0 : Int))) then
 (bif (decide (x.1.2.1 ≤ (100 : Int))) then
 (bif (decide (x.1.1 ≥ (Go.IntKind.wrap .i64 (x.1.2.1 + x.1.2.2.1)))) then
 (bif (decide (x.1.1 ≤ (200 : Int))) then
 (Option.bind (m15 (x.1.2.2.2.2.1, ())) fun (y1 : (Bool × Unit)) =>
 some (y1.1, ()))
 else
 (some (false, ())))
 else
 (some (false, ())))
 else
 (some (false, ())))
 else
 (some (false, ())))
 else
 (some (false, ())))
 else
 (some (false, ())))
 else
 (some (false, ())))
 else
 (some (false, ()))

noncomputable def r12 : PDen [(true, (.pair (.int .i64) (.pair (.int .i64) (.pair (.int .i64) (.pair (.int .i64) (.pair (.sl (.pair (.int .i64) (.pair (.sl (.pair (.int .i64) (.sl (.int .u8)))) (.sl (.int .i64))))) (.pair (.sl (.int .u8)) .bool)))))))] → Option (PDen [(false, .bool)]) := fun x => afun Try.prog (envOf [(15, ⟨[(false, (.sl (.pair (.int .i64) (.pair (.sl (.pair (.int .i64) (.sl (.int .u8)))) (.sl (.int .i64))))))], [(false, .bool)], false, m15⟩)] [] [] []) ⟨[], []⟩ Try.f12 [(true, (.pair (.int .i64) (.pair (.int .i64) (.pair (.int .i64) (.pair (.int .i64) (.pair (.sl (.pair (.int .i64) (.pair (.sl (.pair (.int .i64) (.sl (.int .u8)))) (.sl (.int .i64))))) (.pair (.sl (.int .u8)) .bool)))))))] [(false, .bool)] false x
theorem r12_eq : r12 = m12 := by kernel_rfl

theorem c12 : CS.Sound Try.prog 12 ⟨[(true, (.pair (.int .i64) (.pair (.int .i64) (.pair (.int .i64) (.pair (.int .i64) (.pair (.sl (.pair (.int .i64) (.pair (.sl (.pair (.int .i64) (.sl (.int .u8)))) (.sl (.int .i64))))) (.pair (.sl (.int .u8)) .bool)))))))], [(false, .bool)], false, m12⟩ := afun_sound' (envOf_sound (CSs.cons c15 (CSs.nil)) (HDs.nil) (IDs.nil)) rfl Try.follows (f := 12) (fn := Try.f12) Try.func12 (by kernel_rfl) (by kernel_rfl) r12_eq
end Go.Proofs.Ytjleeabhpfmhaaa
end

section
open Go Go.Proofs.AM
namespace Go.Proofs.Ytjleeabhpfmhaaa

noncomputable def m11 (x : Int × Int × Int × Unit) : Option (Int × Unit) :=
 bif (decide (x.1 < (2 : Int))) then
 (some ((0 : Int), ()))
 else
 (bif (decide (x.2.1 < (1 : Int))) then
 (some ((0 : Int), ()))
 else
 (bif (decide (x.2.1 ≥ x.1)) then
 (some ((0 : Int), ()))
 else
 (bif (decide (x.2.2.1 < (0 : Int))) then
 (some ((0 : Int), ()))
 else
 (bif (decide (x.2.2.1 > (Go.IntKind.wrap .i64 (x.1 - (2 : Int))))) then
 (some ((0 : Int), ()))
 else
 (bif (decide ((Go.IntKind.wrap .i64 (x.2.1 + x.2.2.1)) ≥ x.1)) then
 (some ((Go.IntKind.wrap .i64 ((Go.IntKind.wrap .i64 (x.2.1 + x.2.2.1)) - (Go.IntKind.wrap .i64 (x.1 - (1 : Int))))), ()))
 else
 (some ((Go.IntKind.wrap .i64 (x.2.1 + x.2.2.1)), ())))))))

noncomputable def r11 : PDen [(false, (.int .i64)), (false, (.int .i64)), (false, (.int .i64))] → Option (PDen [(false, (.int .i64))]) := fun x => afun Try.prog (envOf [] [] [] []) ⟨[], []⟩ Try.f11 [(false, (.int .i64)), (false, (.int .i64)), (false, (.int .i64))] [(false, (.int .i64))] false x
theorem r11_eq : r11 = m11 := by kernel_rfl

theorem c11 : CS.Sound Try.prog 11 ⟨[(false, (.int .i64)), (false, (.int .i64)), (false, (.int .i64))], [(false, (.int .i64))], false, m11⟩ := afun_sound' (envOf_sound (CSs.nil) (HDs.nil) (IDs.nil)) rfl Try.follows (f := 11) (fn := Try.f11) Try.func11 (by kernel_rfl) (by kernel_rfl) r11_eq
end Go.Proofs.Ytjleeabhpfmhaaa
end

section
open Go Go.Proofs.AM
namespace Go.Proofs.Ytjleeabhpfmhaaa

noncomputable def m79 (x : Int × Int × Unit) : Option (Int × Unit) :=
 if x.2.1 = (0 : Int) then
 (none)
 else
 (some ((Go.IntKind.wrap .i64 (Int.tdiv (Go.IntKind.wrap .i64 ((Go.IntKind.wrap .i64 (x.1 + x.2.1)) - (1 : Int))) x.2.1)), ()))

noncomputable def r79 : PDen [(false, (.int .i64)), (false, (.int .i64))] → Option (PDen [(false, (.int .i64))]) := fun x => afun Try.prog (envOf [] [] [] []) ⟨[], []⟩ Try.f79 [(false, (.int .i64)), (false, (.int .i64))] [(false, (.int .i64))] false x
theorem r79_eq : r79 = m79 := by kernel_rfl

theorem c79 : CS.Sound Try.prog 79 ⟨[(false, (.int .i64)), (false, (.int .i64))], [(false, (.int .i64))], false, m79⟩ := afun_sound' (envOf_sound (CSs.nil) (HDs.nil) (IDs.nil)) rfl Try.follows (f := 79) (fn := Try.f79) Try.func79 (by kernel_rfl) (by kernel_rfl) r79_eq
end Go.Proofs.Ytjleeabhpfmhaaa
end

section
open Go Go.Proofs.AM
namespace Go.Proofs.Ytjleeabhpfmhaaa

noncomputable def m56 (x : TyT × Unit) : Option (Int × Unit) :=
 Option.bind (m79 ((((List.length x.1.2.2) : Nat) : Int), ((60 : Int), ()))) fun (y1 : (Int × Unit)) =>
 Option.bind (m79 ((((List.length x.1.2.1) : Nat) : Int), ((48 : Int), ()))) fun (y2 : (Int × Unit)) =>
 some ((Go.IntKind.wrap .i64 ((Go.IntKind.wrap .i64 ((Go.IntKind.wrap .i64 (y1.1 + y2.1)) + (((List.length x.1.2.1) : Nat) : Int))) + (1 : Int))), ())

noncomputable def r56 : PDen [(true, (.pair (.int .i64) (.pair (.sl (.pair (.int .i64) (.sl (.int .u8)))) (.sl (.int .i64)))))] → Option (PDen [(false, (.int .i64))]) := fun x => afun Try.prog (envOf [(79, ⟨[(false, (.int .i64)), (false, (.int .i64))], [(false, (.int .i64))], false, m79⟩)] [] [] []) ⟨[], []⟩ Try.f56 [(true, (.pair (.int .i64) (.pair (.sl (.pair (.int .i64) (.sl (.int .u8)))) (.sl (.int .i64)))))] [(false, (.int .i64))] false x
theorem r56_eq : r56 = m56 := by kernel_rfl

theorem c56 : CS.Sound Try.prog 56 ⟨[(true, (.pair (.int .i64) (.pair (.sl (.pair (.int .i64) (.sl (.int .u8)))) (.sl (.int .i64)))))], [(false, (.int .i64))], false, m56⟩ := afun_sound' (envOf_sound (CSs.cons c79 (CSs.nil)) (HDs.nil) (IDs.nil)) rfl Try.follows (f := 56) (fn := Try.f56) Try.func56 (by kernel_rfl) (by kernel_rfl) r56_eq
end Go.Proofs.Ytjleeabhpfmhaaa
end

section
open Go Go.Proofs.AM
namespace Go.Proofs.Ytjleeabhpfmhaaa

noncomputable def m57 (x : Int × Unit) : Option (Bool × Unit) :=
 bif (decide (x.1 ≥ (0 : Int))) then
 (some ((decide (x.1 < (8192 : Int))), ()))
 else
 (some (false, ()))

noncomputable def r57 : PDen [(false, (.int .i64))] → Option (PDen [(false, .bool)]) := fun x => afun Try.prog (envOf [] [] [] []) ⟨[], []⟩ Try.f57 [(false, (.int .i64))] [(false, .bool)] false x
theorem r57_eq : r57 = m57 := by kernel_rfl

theorem c57 : CS.Sound Try.prog 57 ⟨[(false, (.int .i64))], [(false, .bool)], false, m57⟩ := afun_sound' (envOf_sound (CSs.nil) (HDs.nil) (IDs.nil)) rfl Try.follows (f := 57) (fn := Try.f57) Try.func57 (by kernel_rfl) (by kernel_rfl) r57_eq
end Go.Proofs.Ytjleeabhpfmhaaa
end

section
open Go Go.Proofs.AM
namespace Go.Proofs.Ytjleeabhpfmhaaa

noncomputable def m31 (x : TyT × Unit) : Option (Int × Unit) :=
 bif (decide (x.1.1 < (1 : Int))) then
 (some ((171 : Int), ()))
 else
 (bif (decide (x.1.1 > (281474976710656 : Int))) then
 (some ((171 : Int), ()))
 else
 (bif (decide ((Go.IntKind.wrap .i64 ((((List.length x.1.2.1) : Nat) : Int) + (((List.length x.1.2.2) : Nat) : Int))) = (0 : Int))) then
 (some ((171 : Int), ()))
 else
 (Option.bind (m56 (x.1, ())) fun (y1 : (Int × Unit)) =>
 bif (decide (y1.1 > (63 : Int))) then
 (some ((171 : Int), ()))
 else
 (gd (((8192 : Int) * (1 : Int)) ≤ (140737488355328 : Int)) (Option.bind (loopM (X := (Int × (List Bool))) (E := ((List Bool) ⊕ (Int × (List Bool)))) (fun (x2 : (Int × (List Bool))) =>
 bif (decide (x2.1 < (Go.IntKind.wrap .i64 ((((List.length x.1.2.1) : Nat) : Int) + (((List.length x.1.2.2) : Nat) : Int))))) then
 (bif (decide (x2.1 < (((List.length x.1.2.1) : Nat) : Int))) then
 (gd ((0 : Int) ≤ x2.1) (gd (x2.1 < (((List.length x.1.2.1) : Nat) : Int)) (gd ((0 : Int) ≤ x2.1) (gd (x2.1 < (((List.length x.1.2.1) : Nat) : Int)) (bif (!(decide ((((List.length (List.getD x.1.2.1 (Int.toNat x2.1) ((0 : Int), ([] : List Int))).2) : Nat) : Int) = (256 : Int)))) then
 (some (Sum.inr (Sum.inr ((171 : Int), x2.2))))
 else
 (Option.bind (m57 ((List.getD x.1.2.1 (Int.toNat x2.1) ((0 : Int), ([] : List Int))).1, ())) fun (y3 : (Bool × Unit)) =>
 bif (!y3.1) then
 (some (Sum.inr (Sum.inr ((171 : Int), x2.2))))
 else
 (gd ((0 : Int) ≤ (List.getD x.1.2.1 (Int.toNat x2.1) ((0 : Int), ([] : List Int))).1) (gd ((List.getD x.1.2.1 (Int.toNat x2.1) ((0 : Int), ([] : List Int))).1 < (((List.length x2.2) : Nat) : Int)) (gd ((Int.toNat (List.getD x.1.2.1 (Int.toNat x2.1) ((0 : Int), ([] : List Int))).1) < (List.length x2.2)) (bif (List.getD x2.2 (Int.toNat (List.getD x.1.2.1 (Int.toNat x2.1) ((0 : Int), ([] : List Int))).1) false) then
 (some (Sum.inr (Sum.inr ((171 : Int), x2.2))))
 else
 (gd ((0 : Int) ≤ (List.getD x.1.2.1 (Int.toNat x2.1) ((0 : Int), ([] : List Int))).1) (gd ((List.getD x.1.2.1 (Int.toNat x2.1) ((0 : Int), ([] : List Int))).1 < (((List.length x2.2) : Nat) : Int)) (gd ((Int.toNat (List.getD x.1.2.1 (Int.toNat x2.1) ((0 : Int), ([] : List Int))).1) < (List.length x2.2)) (some (Sum.inl ((Go.IntKind.wrap .i64 (x2.1 + (1 : Int))), (List.set x2.2 (Int.toNat (List.getD x.1.2.1 (Int.toNat x2.1) ((0 : Int), ([] : List Int))).1) true)))))))))))))))))
 else
 (gd ((0 : Int) ≤ (Go.IntKind.wrap .i64 (x2.1 - (((List.length x.1.2.1) : Nat) : Int)))) (gd ((Go.IntKind.wrap .i64 (x2.1 - (((List.length x.1.2.1) : Nat) : Int))) < (((List.length x.1.2.2) : Nat) : Int)) (Option.bind (m57 ((List.getD x.1.2.2 (Int.toNat (Go.IntKind.wrap .i64 (x2.1 - (((List.length x.1.2.1) : Nat) : Int)))) (0 : Int)), ())) fun (y3 : (Bool × Unit)) =>
 bif (!y3.1) then
 (some (Sum.inr (Sum.inr ((171 : Int), x2.2))))
 else
 (gd ((0 : Int) ≤ (List.getD x.1.2.2 (Int.toNat (Go.IntKind.wrap .i64 (x2.1 - (((List.length x.1.2.1) : Nat) : Int)))) (0 : Int))) (gd ((List.getD x.1.2.2 (Int.toNat (Go.IntKind.wrap .i64 (x2.1 - (((List.length x.1.2.1) : Nat) : Int)))) (0 : Int)) < (((List.length x2.2) : Nat) : Int)) (gd ((Int.toNat (List.getD x.1.2.2 (Int.toNat (Go.IntKind.wrap .i64 (x2.1 - (((List.length x.1.2.1) : Nat) : Int)))) (0 : Int))) < (List.length x2.2)) (bif (List.getD x2.2 (Int.toNat (List.getD x.1.2.2 (Int.toNat (Go.IntKind.wrap .i64 (x2.1 - (((List.length x.1.2.1) : Nat) : Int)))) (0 : Int))) false) then
 (some (Sum.inr (Sum.inr ((171 : Int), x2.2))))
 else
 (gd ((0 : Int) ≤ (List.getD x.1.2.2 (Int.toNat (Go.IntKind.wrap .i64 (x2.1 - (((List.length x.1.2.1) : Nat) : Int)))) (0 : Int))) (gd ((List.getD x.1.2.2 (Int.toNat (Go.IntKind.wrap .i64 (x2.1 - (((List.length x.1.2.1) : Nat) : Int)))) (0 : Int)) < (((List.length x2.2) : Nat) : Int)) (gd ((Int.toNat (List.getD x.1.2.2 (Int.toNat (Go.IntKind.wrap .i64 (x2.1 - (((List.length x.1.2.1) : Nat) : Int)))) (0 : Int))) < (List.length x2.2)) (some (Sum.inl ((Go.IntKind.wrap .i64 (x2.1 + (1 : Int))), (List.set x2.2 (Int.toNat (List.getD x.1.2.2 (Int.toNat (Go.IntKind.wrap .i64 (x2.1 - (((List.length x.1.2.1) : Nat) : Int)))) (0 : Int))) true)))))))))))))))
 else
 (some (Sum.inr (Sum.inl x2.2)))) ((0 : Int), (List.replicate (Int.toNat (8192 : Int)) false))) fun (y2 : ((List Bool) ⊕ (Int × (List Bool)))) =>
 Sum.elim (fun y3 =>
 some ((0 : Int), ())) (fun y3 =>
 some (y3.1, ())) y2)))))

noncomputable def r31 : PDen [(true, (.pair (.int .i64) (.pair (.sl (.pair (.int .i64) (.sl (.int .u8)))) (.sl (.int .i64)))))] → Option (PDen [(false, (.int .i64))]) := fun x => afun Try.prog (envOf [(56, ⟨[(true, (.pair (.int .i64) (.pair (.sl (.pair (.int .i64) (.sl (.int .u8)))) (.sl (.int .i64)))))], [(false, (.int .i64))], false, m56⟩), (57, ⟨[(false, (.int .i64))], [(false, .bool)], false, m57⟩)] [] [] []) ⟨[(0, ⟨[.slot 4 (.d false (.int .i64) true), .vec 1 4 .bool true], [], [(some 0, [.vec 1 4 .bool true]), (none, [.slot 2 (.d false (.int .i64) true), .vec 1 4 .bool true])], none⟩)], []⟩ Try.f31 [(true, (.pair (.int .i64) (.pair (.sl (.pair (.int .i64) (.sl (.int .u8)))) (.sl (.int .i64)))))] [(false, (.int .i64))] false x
theorem r31_eq : r31 = m31 := by kernel_rfl

theorem c31 : CS.Sound Try.prog 31 ⟨[(true, (.pair (.int .i64) (.pair (.sl (.pair (.int .i64) (.sl (.int .u8)))) (.sl (.int .i64)))))], [(false, (.int .i64))], false, m31⟩ := afun_sound' (envOf_sound (CSs.cons c56 (CSs.cons c57 (CSs.nil))) (HDs.nil) (IDs.nil)) rfl Try.follows (f := 31) (fn := Try.f31) Try.func31 (by kernel_rfl) (by kernel_rfl) r31_eq
end Go.Proofs.Ytjleeabhpfmhaaa
end

section
open Go Go.Proofs.AM
namespace Go.Proofs.Ytjleeabhpfmhaaa

noncomputable def m71 (x : (Int × (Int × ((List (Int × Bool)) × ((List Int) × Int)))) × Unit) : Option (Bool × Unit) :=
 bif (decide (x.1.2.1 < (1 : Int))) then
 (some (false, ()))
 else
 (bif (decide (x.1.2.1 > (281474976710656 : Int))) then
 (some (false, ()))
 else
 (bif (decide (x.1.1 = (1 : Int))) then
 (Option.bind (loopM (X := Int) (E := (Unit ⊕ Bool)) (fun (x1 : Int) =>
 bif (decide (x1 < (((List.length x.1.2.2.1) : Nat) : Int))) then
 (gd ((0 : Int) ≤ x1) (gd (x1 < (((List.length x.1.2.2.1) : Nat) : Int)) (Option.bind (m57 ((List.getD x.1.2.2.1 (Int.toNat x1) ((0 : Int), false)).1, ())) fun (y2 : (Bool × Unit)) =>
 bif (!y2.1) then
 (some (Sum.inr (Sum.inr false)))
 else
 (some (Sum.inl (Go.IntKind.wrap .i64 (x1 + (1 : Int))))))))
 else
 (some (Sum.inr (Sum.inl ())))) (0 : Int)) fun (y1 : (Unit ⊕ Bool)) =>
 Sum.elim (fun y2 =>
 bif (decide ((((List.length x.1.2.2.1) : Nat) : Int) ≥ (1 : Int))) then
 (bif (decide ((((List.length x.1.2.2.1) : Nat) : Int) ≤ (48 : Int))) then
 (bif (decide ((((List.length x.1.2.2.2.1) : Nat) : Int) = (0 : Int))) then
 (some ((decide (x.1.2.2.2.2 = (0 : Int))), ()))
 else
 (some (false, ())))
 else
 (some (false, ())))
 else
 (some (false, ()))) (fun y2 =>
 some (y2, ())) y1)
 else
 (bif (decide (x.1.1 = (3 : Int))) then
 (Option.bind (loopM (X := Int) (E := (Unit ⊕ Bool)) (fun (x1 : Int) =>
 bif (decide (x1 < (((List.length x.1.2.2.2.1) : Nat) : Int))) then
 (gd ((0 : Int) ≤ x1) (gd (x1 < (((List.length x.1.2.2.2.1) : Nat) : Int)) (Option.bind (m57 ((List.getD x.1.2.2.2.1 (Int.toNat x1) (0 : Int)), ())) fun (y2 : (Bool × Unit)) =>
 bif (!y2.1) then
 (some (Sum.inr (Sum.inr false)))
 else
 (some (Sum.inl (Go.IntKind.wrap .i64 (x1 + (1 : Int))))))))
 else
 (some (Sum.inr (Sum.inl ())))) (0 : Int)) fun (y1 : (Unit ⊕ Bool)) =>
 Sum.elim (fun y2 =>
 bif (decide ((((List.length x.1.2.2.2.1) : Nat) : Int) ≥ (1 : Int))) then
 (bif (decide ((((List.length x.1.2.2.2.1) : Nat) : Int) ≤ (60 : Int))) then
 (bif (decide ((((List.length x.1.2.2.1) : Nat) : Int) = (0 : Int))) then
 (some ((decide (x.1.2.2.2.2 = (0 : Int))), ()))
 else
 (some (false, ())))
 else
 (some (false, ())))
 else
 (some (false, ()))) (fun y2 =>
 some (y2, ())) y1)
 else
 (bif (decide (x.1.1 = (2 : Int))) then
 (bif (decide (x.1.2.2.2.2 ≥ (1 : Int))) then
 (bif (decide (x.1.2.2.2.2 ≤ (64 : Int))) then
 (bif (decide ((((List.length x.1.2.2.1) : Nat) : Int) = (0 : Int))) then
 (some ((decide ((((List.length x.1.2.2.2.1) : Nat) : Int) = (0 : Int))), ()))
 else
 (some (false, ())))
 else
 (some (false, ())))
 else
 (some (false, ())))
 else
 (some (false, ()))))))

noncomputable def r71 : PDen [(true, (.pair (.int .i64) (.pair (.int .i64) (.pair (.sl (.pair (.int .i64) .bool)) (.pair (.sl (.int .i64)) (.int .i64))))))] → Option (PDen [(false, .bool)]) := fun x => afun Try.prog (envOf [(57, ⟨[(false, (.int .i64))], [(false, .bool)], false, m57⟩)] [] [] []) ⟨[(1, ⟨[.slot 3 (.d false (.int .i64) true)], [], [(some 1, []), (none, [.slot 2 (.d false .bool true)])], none⟩), (3, ⟨[.slot 4 (.d false (.int .i64) true)], [], [(some 3, []), (none, [.slot 2 (.d false .bool true)])], none⟩)], []⟩ Try.f71 [(true, (.pair (.int .i64) (.pair (.int .i64) (.pair (.sl (.pair (.int .i64) .bool)) (.pair (.sl (.int .i64)) (.int .i64))))))] [(false, .bool)] false x
theorem r71_eq : r71 = m71 := by kernel_rfl

theorem c71 : CS.Sound Try.prog 71 ⟨[(true, (.pair (.int .i64) (.pair (.int .i64) (.pair (.sl (.pair (.int .i64) .bool)) (.pair (.sl (.int .i64)) (.int .i64))))))], [(false, .bool)], false, m71⟩ := afun_sound' (envOf_sound (CSs.cons c57 (CSs.nil)) (HDs.nil) (IDs.nil)) rfl Try.follows (f := 71) (fn := Try.f71) Try.func71 (by kernel_rfl) (by kernel_rfl) r71_eq
end Go.Proofs.Ytjleeabhpfmhaaa
end

section
open Go Go.Proofs.AM
namespace Go.Proofs.Ytjleeabhpfmhaaa

noncomputable def m69 (x : (List Int) × Unit) : Option (Int × (Int × Unit)) :=
 bif (decide ((((List.length x.1) : Nat) : Int) > (64 : Int))) then
 (some ((0 : Int), ((1 : Int), ())))
 else
 (Option.bind (loopM (X := (Int × Int)) (E := (Int ⊕ (Int × Int))) (fun (x1 : (Int × Int)) =>
 bif (decide (x1.2 < (((List.length x.1) : Nat) : Int))) then
 (gd ((0 : Int) ≤ x1.2) (gd (x1.2 < (((List.length x.1) : Nat) : Int)) (bif (decide ((List.getD x.1 (Int.toNat x1.2) (0 : Int)) < (1 : Int))) then
 (some (Sum.inr (Sum.inr ((0 : Int), (1 : Int)))))
 else
 (gd ((0 : Int) ≤ x1.2) (gd (x1.2 < (((List.length x.1) : Nat) : Int)) (bif (decide ((List.getD x.1 (Int.toNat x1.2) (0 : Int)) > (64 : Int))) then
 (some (Sum.inr (Sum.inr ((0 : Int), (1 : Int)))))
 else
 (gd ((0 : Int) ≤ x1.2) (gd (x1.2 < (((List.length x.1) : Nat) : Int)) (some (Sum.inl ((Go.IntKind.wrap .i64 (x1.1 + (List.getD x.1 (Int.toNat x1.2) (0 : Int)))), (Go.IntKind.wrap .i64 (x1.2 + (1 : Int))))))))))))))
 else
 (some (Sum.inr (Sum.inl x1.1)))) ((0 : Int), (0 : Int))) fun (y1 : (Int ⊕ (Int × Int))) =>
 Sum.elim (fun y2 =>
 some ((Go.IntKind.wrap .i64 (Int.tdiv (Go.IntKind.wrap .i64 (y2 + (7 : Int))) (8 : Int))), ((0 : Int), ()))) (fun y2 =>
 some (y2.1, (y2.2, ()))) y1)

noncomputable def r69 : PDen [(false, (.sl (.int .i64)))] → Option (PDen [(false, (.int .i64)), (false, (.int .i64))]) := fun x => afun Try.prog (envOf [] [] [] []) ⟨[(0, ⟨[.slot 4 (.d false (.int .i64) true), .slot 5 (.d false (.int .i64) true)], [], [(some 0, [.slot 4 (.d false (.int .i64) true)]), (none, [.slot 2 (.d false (.int .i64) true), .slot 3 (.d false (.int .i64) true)])], none⟩)], []⟩ Try.f69 [(false, (.sl (.int .i64)))] [(false, (.int .i64)), (false, (.int .i64))] false x
theorem r69_eq : r69 = m69 := by kernel_rfl

theorem c69 : CS.Sound Try.prog 69 ⟨[(false, (.sl (.int .i64)))], [(false, (.int .i64)), (false, (.int .i64))], false, m69⟩ := afun_sound' (envOf_sound (CSs.nil) (HDs.nil) (IDs.nil)) rfl Try.follows (f := 69) (fn := Try.f69) Try.func69 (by kernel_rfl) (by kernel_rfl) r69_eq
end Go.Proofs.Ytjleeabhpfmhaaa
end

section
open Go Go.Proofs.AM
namespace Go.Proofs.Ytjleeabhpfmhaaa

noncomputable def m48 (x : (List Int) × (List Int) × Unit) : Option ((List Int) × (Int × Unit)) :=
 Option.bind (m69 (x.1, ())) fun (y1 : (Int × (Int × Unit))) =>
 bif (!(decide (y1.2.1 = (0 : Int)))) then
 (some (([] : List Int), (y1.2.1, ())))
 else
 (bif (!(decide ((((List.length x.2.1) : Nat) : Int) = (((List.length x.1) : Nat) : Int)))) then
 (some (([] : List Int), ((1 : Int), ())))
 else
 (gd ((0 : Int) ≤ y1.1) (gd (y1.1 ≤ y1.1) (gd ((y1.1 * (1 : Int)) ≤ (140737488355328 : Int)) (Option.bind (loopM (X := (Int × (Int × (List Int)))) (E := ((List Int) ⊕ ((List Int) × (Int × (List Int))))) (fun (x2 : (Int × (Int × (List Int)))) =>
 bif (decide (x2.2.1 < (((List.length x.2.1) : Nat) : Int))) then
 (gd ((0 : Int) ≤ x2.2.1) (gd (x2.2.1 < (((List.length x.1) : Nat) : Int)) (bif (decide ((List.getD x.1 (Int.toNat x2.2.1) (0 : Int)) < (64 : Int))) then
 (gd ((0 : Int) ≤ x2.2.1) (gd (x2.2.1 < (((List.length x.2.1) : Nat) : Int)) (gd ((0 : Int) ≤ x2.2.1) (gd (x2.2.1 < (((List.length x.1) : Nat) : Int)) (gd ((0 : Int) ≤ (Go.IntKind.wrap .u64 (List.getD x.1 (Int.toNat x2.2.1) (0 : Int)))) (bif (!(decide ((ishr .u64 (List.getD x.2.1 (Int.toNat x2.2.1) (0 : Int)) (Go.IntKind.wrap .u64 (List.getD x.1 (Int.toNat x2.2.1) (0 : Int)))) = (0 : Int)))) then
 (some (Sum.inr (Sum.inr (([] : List Int), ((1 : Int), x2.2.2)))))
 else
 (gd ((0 : Int) ≤ x2.2.1) (gd (x2.2.1 < (((List.length x.1) : Nat) : Int)) (Option.bind (loopM (X := (Int × (Int × (List Int)))) (E := (Int × (List Int))) (fun (x3 : (Int × (Int × (List Int)))) =>
 bif (decide (x3.2.1 ≥ (0 : Int))) then
 (gd ((0 : Int) ≤ (Go.IntKind.wrap .i64 (Int.tdiv x3.1 (8 : Int)))) (gd ((Go.IntKind.wrap .i64 (Int.tdiv x3.1 (8 : Int))) < (((List.length x3.2.2) : Nat) : Int)) (gd ((Int.toNat (Go.IntKind.wrap .i64 (Int.tdiv x3.1 (8 : Int)))) < (List.length x3.2.2)) (gd ((0 : Int) ≤ x2.2.1) (gd (x2.2.1 < (((List.length x.2.1) : Nat) : Int)) (gd ((0 : Int) ≤ (Go.IntKind.wrap .u64 x3.2.1)) (gd ((0 : Int) ≤ (Go.IntKind.wrap .u64 (Go.IntKind.wrap .i64 ((7 : Int) - (Int.tmod x3.1 (8 : Int)))))) (gd ((0 : Int) ≤ (Go.IntKind.wrap .i64 (Int.tdiv x3.1 (8 : Int)))) (gd ((Go.IntKind.wrap .i64 (Int.tdiv x3.1 (8 : Int))) < (((List.length x3.2.2) : Nat) : Int)) (gd ((Int.toNat (Go.IntKind.wrap .i64 (Int.tdiv x3.1 (8 : Int)))) < (List.length x3.2.2)) (some (Sum.inl ((Go.IntKind.wrap .i64 (x3.1 + (1 : Int))), ((Go.IntKind.wrap .i64 (x3.2.1 - (1 : Int))), (List.set x3.2.2 (Int.toNat (Go.IntKind.wrap .i64 (Int.tdiv x3.1 (8 : Int)))) (ior .u8 (List.getD x3.2.2 (Int.toNat (Go.IntKind.wrap .i64 (Int.tdiv x3.1 (8 : Int)))) (0 : Int)) (ishl .u8 (Go.IntKind.wrap .u8 (iand .u64 (ishr .u64 (List.getD x.2.1 (Int.toNat x2.2.1) (0 : Int)) (Go.IntKind.wrap .u64 x3.2.1)) (1 : Int))) (Go.IntKind.wrap .u64 (Go.IntKind.wrap .i64 ((7 : Int) - (Int.tmod x3.1 (8 : Int))))))))))))))))))))))
 else
 (some (Sum.inr (x3.1, x3.2.2)))) (x2.1, ((Go.IntKind.wrap .i64 ((List.getD x.1 (Int.toNat x2.2.1) (0 : Int)) - (1 : Int))), x2.2.2))) fun (y3 : (Int × (List Int))) =>
 some (Sum.inl (y3.1, ((Go.IntKind.wrap .i64 (x2.2.1 + (1 : Int))), y3.2))))))))))))
 else
 (gd ((0 : Int) ≤ x2.2.1) (gd (x2.2.1 < (((List.length x.1) : Nat) : Int)) (Option.bind (loopM (X := (Int × (Int × (List Int)))) (E := (Int × (List Int))) (fun (x3 : (Int × (Int × (List Int)))) =>
 bif (decide (x3.2.1 ≥ (0 : Int))) then
 (gd ((0 : Int) ≤ (Go.IntKind.wrap .i64 (Int.tdiv x3.1 (8 : Int)))) (gd ((Go.IntKind.wrap .i64 (Int.tdiv x3.1 (8 : Int))) < (((List.length x3.2.2) : Nat) : Int)) (gd ((Int.toNat (Go.IntKind.wrap .i64 (Int.tdiv x3.1 (8 : Int)))) < (List.length x3.2.2)) (gd ((0 : Int) ≤ x2.2.1) (gd (x2.2.1 < (((List.length x.2.1) : Nat) : Int)) (gd ((0 : Int) ≤ (Go.IntKind.wrap .u64 x3.2.1)) (gd ((0 : Int) ≤ (Go.IntKind.wrap .u64 (Go.IntKind.wrap .i64 ((7 : Int) - (Int.tmod x3.1 (8 : Int)))))) (gd ((0 : Int) ≤ (Go.IntKind.wrap .i64 (Int.tdiv x3.1 (8 : Int)))) (gd ((Go.IntKind.wrap .i64 (Int.tdiv x3.1 (8 : Int))) < (((List.length x3.2.2) : Nat) : Int)) (gd ((Int.toNat (Go.IntKind.wrap .i64 (Int.tdiv x3.1 (8 : Int)))) < (List.length x3.2.2)) (some (Sum.inl ((Go.IntKind.wrap .i64 (x3.1 + (1 : Int))), ((Go.IntKind.wrap .i64 (x3.2.1 - (1 : Int))), (List.set x3.2.2 (Int.toNat (Go.IntKind.wrap .i64 (Int.tdiv x3.1 (8 : Int)))) (ior .u8 (List.getD x3.2.2 (Int.toNat (Go.IntKind.wrap .i64 (Int.tdiv x3.1 (8 : Int)))) (0 : Int)) (ishl .u8 (Go.IntKind.wrap .u8 (iand .u64 (ishr .u64 (List.getD x.2.1 (Int.toNat x2.2.1) (0 : Int)) (Go.IntKind.wrap .u64 x3.2.1)) (1 : Int))) (Go.IntKind.wrap .u64 (Go.IntKind.wrap .i64 ((7 : Int) - (Int.tmod x3.1 (8 : Int))))))))))))))))))))))
 else
 (some (Sum.inr (x3.1, x3.2.2)))) (x2.1, ((Go.IntKind.wrap .i64 ((List.getD x.1 (Int.toNat x2.2.1) (0 : Int)) - (1 : Int))), x2.2.2))) fun (y3 : (Int × (List Int))) =>
 some (Sum.inl (y3.1, ((Go.IntKind.wrap .i64 (x2.2.1 + (1 : Int))), y3.2)))))))))
 else
 (some (Sum.inr (Sum.inl x2.2.2)))) ((0 : Int), ((0 : Int), (List.replicate (Int.toNat y1.1) (0 : Int))))) fun (y2 : ((List Int) ⊕ ((List Int) × (Int × (List Int))))) =>
 Sum.elim (fun y3 =>
 some (y3, ((0 : Int), ()))) (fun y3 =>
 none) y2)))))

noncomputable def r48 : PDen [(false, (.sl (.int .i64))), (false, (.sl (.int .u64)))] → Option (PDen [(false, (.sl (.int .u8))), (false, (.int .i64))]) := fun x => afunM Try.prog (envOf [(69, ⟨[(false, (.sl (.int .i64)))], [(false, (.int .i64)), (false, (.int .i64))], false, m69⟩)] [] [] []) ⟨[(0, ⟨[.slot 9 (.d false (.int .i64) true), .slot 10 (.d false (.int .i64) true), .vec 0 5 (.int .u8) true], [], [(some 0, [.vec 0 5 (.int .u8) true]), (none, [.slot 4 (.d false (.sl (.int .u8)) true), .slot 5 (.d false (.int .i64) true), .vec 0 5 (.int .u8) true])], none⟩), (2, ⟨[.slot 9 (.d false (.int .i64) true), .slot 11 (.d false (.int .i64) true), .vec 0 5 (.int .u8) true], [], [(some 2, [.slot 9 (.d false (.int .i64) true), .vec 0 5 (.int .u8) true])], none⟩)], []⟩ Try.f48 [(false, (.sl (.int .i64))), (false, (.sl (.int .u64)))] [(false, (.sl (.int .u8))), (false, (.int .i64))] [(.s 5), .d] false x
theorem r48_eq : r48 = m48 := by kernel_rfl

theorem c48 : OM.Sound Try.prog 48 ⟨[(false, (.sl (.int .i64))), (false, (.sl (.int .u64)))], [(false, (.sl (.int .u8))), (false, (.int .i64))], [(.s 5), .d], false, m48⟩ := afunM_sound' (envOf_sound (CSs.cons c69 (CSs.nil)) (HDs.nil) (IDs.nil)) rfl Try.follows (f := 48) (fn := Try.f48) Try.func48 (by kernel_rfl) (by kernel_rfl) r48_eq
end Go.Proofs.Ytjleeabhpfmhaaa
end

section
open Go Go.Proofs.AM
namespace Go.Proofs.Ytjleeabhpfmhaaa

noncomputable def m50 (x : (List Int) × Int × Unit) : Option (List Int) :=
 Option.bind (loopM (X := (List Int)) (E := (List Int)) (fun (x1 : (List Int)) =>
 bif (decide ((((List.length x1) : Nat) : Int) < x.2.1)) then
 (gd ((((List.length x1) + (List.length ((0 : Int) :: ([] : List Int)))) * 1) ≤ 140737488355328) (gd (((List.length x1) + (List.length ((0 : Int) :: ([] : List Int)))) ≤ 140737488355328) (some (Sum.inl (x1 ++ ((0 : Int) :: ([] : List Int)))))))
 else
 (some (Sum.inr x1))) x.1) fun (y1 : (List Int)) =>
 some y1

noncomputable def r50 : PDen ((false, (.sl (.int .u8))) :: [(false, (.int .i64))]) → Option (List (K.den (.int .u8))) := fun x => afunCO Try.prog (envOf [] [] [] []) ⟨[(0, ⟨[.slot 0 (.v 5 (.int .u8) true)], [0], [(some 0, [.slot 0 (.v 5 (.int .u8) true)])], none⟩)], []⟩ Try.f50 5 (.int .u8) [(false, (.int .i64))] x
theorem r50_eq : r50 = m50 := by kernel_rfl

theorem c50 : COc.Sound Try.prog 50 ⟨5, (.int .u8), [(false, (.int .i64))], m50⟩ := afunCO_sound' (envOf_sound (CSs.nil) (HDs.nil) (IDs.nil)) rfl Try.follows (f := 50) (fn := Try.f50) Try.func50 (by kernel_rfl) (by kernel_rfl) r50_eq
end Go.Proofs.Ytjleeabhpfmhaaa
end

section
open Go Go.Proofs.AM
namespace Go.Proofs.Ytjleeabhpfmhaaa

noncomputable def m46 (x : (Int × (Int × ((List (Int × Bool)) × ((List Int) × Int)))) × Unit) : Option ((List Int) × (Int × Unit)) :=
 Option.bind (m71 (x.1, ())) fun (y1 : (Bool × Unit)) =>
 bif (!y1.1) then
 (some (([] : List Int), ((170 : Int), ())))
 else
 (Option.bind (m48 (((32 : Int) :: ((8 : Int) :: ((64 : Int) :: ((8 : Int) :: ([] : List Int))))), (((1397508641 : Int) :: ((Go.IntKind.wrap .u64 x.1.1) :: ((Go.IntKind.wrap .u64 x.1.2.1) :: ((Go.IntKind.wrap .u64 (Go.IntKind.wrap .i64 ((Go.IntKind.wrap .i64 ((((List.length x.1.2.2.1) : Nat) : Int) + (((List.length x.1.2.2.2.1) : Nat) : Int))) + x.1.2.2.2.2))) :: ([] : List Int))))), ()))) fun (y2 : ((List Int) × (Int × Unit))) =>
 Option.bind (loopM (X := ((List Int) × Int)) (E := (List Int)) (fun (x3 : ((List Int) × Int)) =>
 bif (decide (x3.2 < (((List.length x.1.2.2.1) : Nat) : Int))) then
 (gd ((0 : Int) ≤ x3.2) (gd (x3.2 < (((List.length x.1.2.2.1) : Nat) : Int)) (bif (List.getD x.1.2.2.1 (Int.toNat x3.2) ((0 : Int), false)).2 then
 (gd ((0 : Int) ≤ x3.2) (gd (x3.2 < (((List.length x.1.2.2.1) : Nat) : Int)) (Option.bind (m48 (((32 : Int) :: ((8 : Int) :: ([] : List Int))), (((Go.IntKind.wrap .u64 (List.getD x.1.2.2.1 (Int.toNat x3.2) ((0 : Int), false)).1) :: ((1 : Int) :: ([] : List Int))), ()))) fun (y4 : ((List Int) × (Int × Unit))) =>
 gd ((((List.length x3.1) + (List.length y4.1)) * 1) ≤ 140737488355328) (gd (((List.length x3.1) + (List.length y4.1)) ≤ 140737488355328) (some (Sum.inl ((x3.1 ++ y4.1), (Go.IntKind.wrap .i64 (x3.2 + (1 : Int))))))))))
 else
 (gd ((0 : Int) ≤ x3.2) (gd (x3.2 < (((List.length x.1.2.2.1) : Nat) : Int)) (Option.bind (m48 (((32 : Int) :: ((8 : Int) :: ([] : List Int))), (((Go.IntKind.wrap .u64 (List.getD x.1.2.2.1 (Int.toNat x3.2) ((0 : Int), false)).1) :: ((0 : Int) :: ([] : List Int))), ()))) fun (y4 : ((List Int) × (Int × Unit))) =>
 gd ((((List.length x3.1) + (List.length y4.1)) * 1) ≤ 140737488355328) (gd (((List.length x3.1) + (List.length y4.1)) ≤ 140737488355328) (some (Sum.inl ((x3.1 ++ y4.1), (Go.IntKind.wrap .i64 (x3.2 + (1 : Int)))))))))))))
 else
 (some (Sum.inr x3.1))) (y2.1, (0 : Int))) fun (y3 : (List Int)) =>
 Option.bind (loopM (X := ((List Int) × Int)) (E := (List Int)) (fun (x4 : ((List Int) × Int)) =>
 bif (decide (x4.2 < (((List.length x.1.2.2.2.1) : Nat) : Int))) then
 (gd ((0 : Int) ≤ x4.2) (gd (x4.2 < (((List.length x.1.2.2.2.1) : Nat) : Int)) (Option.bind (m48 (((32 : Int) :: ([] : List Int)), (((Go.IntKind.wrap .u64 (List.getD x.1.2.2.2.1 (Int.toNat x4.2) (0 : Int))) :: ([] : List Int)), ()))) fun (y5 : ((List Int) × (Int × Unit))) =>
 gd ((((List.length x4.1) + (List.length y5.1)) * 1) ≤ 140737488355328) (gd (((List.length x4.1) + (List.length y5.1)) ≤ 140737488355328) (some (Sum.inl ((x4.1 ++ y5.1), (Go.IntKind.wrap .i64 (x4.2 + (1 : Int))))))))))
 else
 (some (Sum.inr x4.1))) (y3, (0 : Int))) fun (y4 : (List Int)) =>
 Option.bind (m50 (y4, ((256 : Int), ()))) fun (y5 : (List Int)) =>
 some (y5, ((0 : Int), ())))

noncomputable def r46 : PDen [(true, (.pair (.int .i64) (.pair (.int .i64) (.pair (.sl (.pair (.int .i64) .bool)) (.pair (.sl (.int .i64)) (.int .i64))))))] → Option (PDen [(false, (.sl (.int .u8))), (false, (.int .i64))]) := fun x => afun Try.prog (envOf [(71, ⟨[(true, (.pair (.int .i64) (.pair (.int .i64) (.pair (.sl (.pair (.int .i64) .bool)) (.pair (.sl (.int .i64)) (.int .i64))))))], [(false, .bool)], false, m71⟩)] [(48, OM.hd ⟨[(false, (.sl (.int .i64))), (false, (.sl (.int .u64)))], [(false, (.sl (.int .u8))), (false, (.int .i64))], [(.s 5), .d], false, m48⟩), (50, COc.hd ⟨5, (.int .u8), [(false, (.int .i64))], m50⟩)] [] []) ⟨[(0, ⟨[.slot 5 (.v 5 (.int .u8) true), .slot 7 (.d false (.int .i64) true)], [3], [(some 0, [.slot 5 (.v 5 (.int .u8) true)])], none⟩), (2, ⟨[.slot 5 (.v 5 (.int .u8) true), .slot 11 (.d false (.int .i64) true)], [4], [(some 2, [.slot 5 (.v 5 (.int .u8) true)])], none⟩)], []⟩ Try.f46 [(true, (.pair (.int .i64) (.pair (.int .i64) (.pair (.sl (.pair (.int .i64) .bool)) (.pair (.sl (.int .i64)) (.int .i64))))))] [(false, (.sl (.int .u8))), (false, (.int .i64))] false x
theorem r46_eq : r46 = m46 := by kernel_rfl

theorem c46 : CS.Sound Try.prog 46 ⟨[(true, (.pair (.int .i64) (.pair (.int .i64) (.pair (.sl (.pair (.int .i64) .bool)) (.pair (.sl (.int .i64)) (.int .i64))))))], [(false, (.sl (.int .u8))), (false, (.int .i64))], false, m46⟩ := afun_sound' (envOf_sound (CSs.cons c71 (CSs.nil)) (HDs.cons (OM.Sound.hd c48) (HDs.cons (COc.Sound.hd c50) (HDs.nil))) (IDs.nil)) rfl Try.follows (f := 46) (fn := Try.f46) Try.func46 (by kernel_rfl) (by kernel_rfl) r46_eq
end Go.Proofs.Ytjleeabhpfmhaaa
end

section
open Go Go.Proofs.AM
namespace Go.Proofs.Ytjleeabhpfmhaaa

noncomputable def m70 (x : Unit) : Option ((List Int) × Unit) :=
 some (((83 : Int) :: ((76 : Int) :: ((74 : Int) :: ((33 : Int) :: ([] : List Int))))), ())

noncomputable def r70 : PDen [] → Option (PDen [(false, (.sl (.int .u8)))]) := fun x => afun Try.prog (envOf [] [] [] []) ⟨[], []⟩ Try.f70 [] [(false, (.sl (.int .u8)))] false x
theorem r70_eq : r70 = m70 := by kernel_rfl

theorem c70 : CS.Sound Try.prog 70 ⟨[], [(false, (.sl (.int .u8)))], false, m70⟩ := afun_sound' (envOf_sound (CSs.nil) (HDs.nil) (IDs.nil)) rfl Try.follows (f := 70) (fn := Try.f70) Try.func70 (by kernel_rfl) (by kernel_rfl) r70_eq
end Go.Proofs.Ytjleeabhpfmhaaa
end

section
open Go Go.Proofs.AM
namespace Go.Proofs.Ytjleeabhpfmhaaa

noncomputable def m47 (x : (List Int) × Unit) : Option ((List Int) × (Bool × Unit)) :=
 gd ((((List.length ([] : List Int)) + (List.length x.1)) * 1) ≤ 140737488355328) (gd (((List.length ([] : List Int)) + (List.length x.1)) ≤ 140737488355328) (bif (decide ((((List.length x.1) : Nat) : Int) < (4 : Int))) then
 (some ((([] : List Int) ++ x.1), (false, ())))
 else
 (gd ((4 : Int) ≤ (((List.length x.1) : Nat) : Int)) (Option.bind (m70 ()) fun (y1 : ((List Int) × Unit)) =>
 bif (!(streq (Go.strOfNums (List.take ((Int.toNat (4 : Int)) - (Int.toNat (0 : Int))) (List.drop (Int.toNat (0 : Int)) x.1))) (Go.strOfNums y1.1))) then
 (some ((([] : List Int) ++ x.1), (false, ())))
 else
 (Option.bind (loopM (X := (Int × (List Int))) (E := (List Int)) (fun (x2 : (Int × (List Int))) =>
 bif (decide (x2.1 < (4 : Int))) then
 (gd ((0 : Int) ≤ x2.1) (gd (x2.1 < (((List.length x2.2) : Nat) : Int)) (gd ((Int.toNat x2.1) < (List.length x2.2)) (some (Sum.inl ((Go.IntKind.wrap .i64 (x2.1 + (1 : Int))), (List.set x2.2 (Int.toNat x2.1) (0 : Int))))))))
 else
 (some (Sum.inr x2.2))) ((0 : Int), (([] : List Int) ++ x.1))) fun (y2 : (List Int)) =>
 some (y2, (true, ())))))))

noncomputable def r47 : PDen [(false, (.sl (.int .u8)))] → Option (PDen [(false, (.sl (.int .u8))), (false, .bool)]) := fun x => afun Try.prog (envOf [(70, ⟨[], [(false, (.sl (.int .u8)))], false, m70⟩)] [] [] []) ⟨[(0, ⟨[.slot 5 (.d false (.int .i64) true), .vec 0 5 (.int .u8) true], [], [(some 0, [.vec 0 5 (.int .u8) true])], none⟩)], []⟩ Try.f47 [(false, (.sl (.int .u8)))] [(false, (.sl (.int .u8))), (false, .bool)] false x
theorem r47_eq : r47 = m47 := by kernel_rfl

theorem c47 : CS.Sound Try.prog 47 ⟨[(false, (.sl (.int .u8)))], [(false, (.sl (.int .u8))), (false, .bool)], false, m47⟩ := afun_sound' (envOf_sound (CSs.cons c70 (CSs.nil)) (HDs.nil) (IDs.nil)) rfl Try.follows (f := 47) (fn := Try.f47) Try.func47 (by kernel_rfl) (by kernel_rfl) r47_eq
end Go.Proofs.Ytjleeabhpfmhaaa
end

section
open Go Go.Proofs.AM
namespace Go.Proofs.Ytjleeabhpfmhaaa

noncomputable def m27 (x : TyT × Unit) : Option ((List (List Int)) × (Int × Unit)) :=
 Option.bind (m31 (x.1, ())) fun (y1 : (Int × Unit)) =>
 bif (!(decide (y1.1 = (0 : Int)))) then
 (some (([] : List (List Int)), (y1.1, ())))
 else
 (Option.bind (loopM (X := ((List (List Int)) × Int)) (E := (List (List Int))) (fun (x2 : ((List (List Int)) × Int)) =>
 bif (decide (x2.2 < (((List.length x.1.2.2) : Nat) : Int))) then
 (gd ((0 : Int) ≤ x2.2) (gd (x2.2 ≤ (if (((List.length x.1.2.2) : Nat) : Int) < (Go.IntKind.wrap .i64 (x2.2 + (60 : Int))) then (((List.length x.1.2.2) : Nat) : Int) else (Go.IntKind.wrap .i64 (x2.2 + (60 : Int))))) (gd ((if (((List.length x.1.2.2) : Nat) : Int) < (Go.IntKind.wrap .i64 (x2.2 + (60 : Int))) then (((List.length x.1.2.2) : Nat) : Int) else (Go.IntKind.wrap .i64 (x2.2 + (60 : Int)))) ≤ (((List.length x.1.2.2) : Nat) : Int)) (Option.bind (m46 (((3 : Int), (x.1.1, (([] : List (Int × Bool)), ((List.take ((Int.toNat (if (((List.length x.1.2.2) : Nat) : Int) < (Go.IntKind.wrap .i64 (x2.2 + (60 : Int))) then (((List.length x.1.2.2) : Nat) : Int) else (Go.IntKind.wrap .i64 (x2.2 + (60 : Int))))) - (Int.toNat x2.2)) (List.drop (Int.toNat x2.2) x.1.2.2)), (0 : Int))))), ())) fun (y3 : ((List Int) × (Int × Unit))) =>
 gd ((((List.length x2.1) + (List.length (y3.1 :: ([] : List (List Int))))) * 24) ≤ 140737488355328) (gd (((List.length x2.1) + (List.length (y3.1 :: ([] : List (List Int))))) ≤ 140737488355328) (some (Sum.inl ((x2.1 ++ (y3.1 :: ([] : List (List Int)))), (Go.IntKind.wrap .i64 (x2.2 + (60 : Int)))))))))))
 else
 (some (Sum.inr x2.1))) (([] : List (List Int)), (0 : Int))) fun (y2 : (List (List Int))) =>
 Option.bind (loopM (X := ((List (List Int)) × Int)) (E := (List (List Int))) (fun (x3 : ((List (List Int)) × Int)) =>
 bif (decide (x3.2 < (((List.length x.1.2.1) : Nat) : Int))) then
 (Option.bind (loopM (X := ((List (List Int)) × (Int × (Int × (Int × ((List (Int × Bool)) × ((List Int) × Int))))))) (E := ((List (List Int)) × (Int × (Int × ((List (Int × Bool)) × ((List Int) × Int)))))) (fun (x4 : ((List (List Int)) × (Int × (Int × (Int × ((List (Int × Bool)) × ((List Int) × Int))))))) =>
 bif (decide (x4.2.1 < (((List.length x.1.2.1) : Nat) : Int))) then
 (bif (decide (x4.2.1 < (Go.IntKind.wrap .i64 (x3.2 + (48 : Int))))) then
 (gd ((0 : Int) ≤ x4.2.1) (gd (x4.2.1 < (((List.length x.1.2.1) : Nat) : Int)) (Option.bind (m47 ((List.getD x.1.2.1 (Int.toNat x4.2.1) ((0 : Int), ([] : List Int))).2, ())) fun (y5 : ((List Int) × (Bool × Unit))) =>
 gd ((0 : Int) ≤ x4.2.1) (gd (x4.2.1 < (((List.length x.1.2.1) : Nat) : Int)) (gd ((((List.length x4.2.2.2.2.1) + (List.length (((List.getD x.1.2.1 (Int.toNat x4.2.1) ((0 : Int), ([] : List Int))).1, y5.2.1) :: ([] : List (Int × Bool))))) * 16) ≤ 140737488355328) (gd (((List.length x4.2.2.2.2.1) + (List.length (((List.getD x.1.2.1 (Int.toNat x4.2.1) ((0 : Int), ([] : List Int))).1, y5.2.1) :: ([] : List (Int × Bool))))) ≤ 140737488355328) (gd ((((List.length x4.1) + (List.length (y5.1 :: ([] : List (List Int))))) * 24) ≤ 140737488355328) (gd (((List.length x4.1) + (List.length (y5.1 :: ([] : List (List Int))))) ≤ 140737488355328) (some (Sum.inl ((x4.1 ++ (y5.1 :: ([] : List (List Int)))), ((Go.IntKind.wrap .i64 (x4.2.1 + (1 : Int))), (x4.2.2.1, (x4.2.2.2.1, ((x4.2.2.2.2.1 ++ (((List.getD x.1.2.1 (Int.toNat x4.2.1) ((0 : Int), ([] : List Int))).1, y5.2.1) :: ([] : List (Int × Bool)))), (x4.2.2.2.2.2.1, x4.2.2.2.2.2.2))))))))))))))))
 else
 (some (Sum.inr (x4.1, (x4.2.2.1, (x4.2.2.2.1, (x4.2.2.2.2.1, (x4.2.2.2.2.2.1, x4.2.2.2.2.2.2))))))))
 else
 (some (Sum.inr (x4.1, (x4.2.2.1, (x4.2.2.2.1, (x4.2.2.2.2.1, (x4.2.2.2.2.2.1, x4.2.2.2.2.2.2)))))))) (([] : List (List Int)), (x3.2, ((1 : Int), (x.1.1, (([] : List (Int × Bool)), (([] : List Int), (0 : Int)))))))) fun (y4 : ((List (List Int)) × (Int × (Int × ((List (Int × Bool)) × ((List Int) × Int)))))) =>
 Option.bind (m46 (y4.2, ())) fun (y5 : ((List Int) × (Int × Unit))) =>
 gd ((((List.length x3.1) + (List.length (y5.1 :: ([] : List (List Int))))) * 24) ≤ 140737488355328) (gd (((List.length x3.1) + (List.length (y5.1 :: ([] : List (List Int))))) ≤ 140737488355328) (gd ((((List.length (x3.1 ++ (y5.1 :: ([] : List (List Int))))) + (List.length y4.1)) * 24) ≤ 140737488355328) (gd (((List.length (x3.1 ++ (y5.1 :: ([] : List (List Int))))) + (List.length y4.1)) ≤ 140737488355328) (some (Sum.inl (((x3.1 ++ (y5.1 :: ([] : List (List Int)))) ++ y4.1), (Go.IntKind.wrap .i64 (x3.2 + (48 : Int))))))))))
 else
 (some (Sum.inr x3.1))) (y2, (0 : Int))) fun (y3 : (List (List Int))) =>
 Option.bind (m46 (((2 : Int), (x.1.1, (([] : List (Int × Bool)), (([] : List Int), (Go.IntKind.wrap .i64 ((((List.length y3) : Nat) : Int) + (1 : Int))))))), ())) fun (y4 : ((List Int) × (Int × Unit))) =>
 gd ((((List.length y3) + (List.length (y4.1 :: ([] : List (List Int))))) * 24) ≤ 140737488355328) (gd (((List.length y3) + (List.length (y4.1 :: ([] : List (List Int))))) ≤ 140737488355328) (some ((y3 ++ (y4.1 :: ([] : List (List Int)))), ((0 : Int), ())))))

noncomputable def r27 : PDen [(true, (.pair (.int .i64) (.pair (.sl (.pair (.int .i64) (.sl (.int .u8)))) (.sl (.int .i64)))))] → Option (PDen [(false, (.sl (.sl (.int .u8)))), (false, (.int .i64))]) := fun x => afun Try.prog (envOf [(31, ⟨[(true, (.pair (.int .i64) (.pair (.sl (.pair (.int .i64) (.sl (.int .u8)))) (.sl (.int .i64)))))], [(false, (.int .i64))], false, m31⟩), (46, ⟨[(true, (.pair (.int .i64) (.pair (.int .i64) (.pair (.sl (.pair (.int .i64) .bool)) (.pair (.sl (.int .i64)) (.int .i64))))))], [(false, (.sl (.int .u8))), (false, (.int .i64))], false, m46⟩), (47, ⟨[(false, (.sl (.int .u8)))], [(false, (.sl (.int .u8))), (false, .bool)], false, m47⟩)] [] [] []) ⟨[(0, ⟨[.slot 5 (.v 33 (.sl (.int .u8)) true), .slot 6 (.d false (.int .i64) true)], [], [(some 0, [.slot 5 (.v 33 (.sl (.int .u8)) true)])], none⟩), (2, ⟨[.slot 5 (.v 33 (.sl (.int .u8)) true), .slot 9 (.d false (.int .i64) true)], [1], [(some 2, [.slot 5 (.v 33 (.sl (.int .u8)) true)])], none⟩), (4, ⟨[.slot 11 (.v 33 (.sl (.int .u8)) true), .slot 12 (.d false (.int .i64) true), .cell 3 0 (.d false (.int .i64) true), .cell 3 1 (.d false (.int .i64) true), .cell 3 2 (.v 90 (.pair (.int .i64) .bool) true), .cell 3 3 (.d false (.sl (.int .i64)) false), .cell 3 4 (.d false (.int .i64) true)], [], [(some 4, [.slot 11 (.v 33 (.sl (.int .u8)) true), .cell 3 0 (.d false (.int .i64) true), .cell 3 1 (.d false (.int .i64) true), .cell 3 2 (.v 90 (.pair (.int .i64) .bool) true), .cell 3 3 (.d false (.sl (.int .i64)) false), .cell 3 4 (.d false (.int .i64) true)])], none⟩)], []⟩ Try.f27 [(true, (.pair (.int .i64) (.pair (.sl (.pair (.int .i64) (.sl (.int .u8)))) (.sl (.int .i64)))))] [(false, (.sl (.sl (.int .u8)))), (false, (.int .i64))] false x
theorem r27_eq : r27 = m27 := by kernel_rfl

theorem c27 : CS.Sound Try.prog 27 ⟨[(true, (.pair (.int .i64) (.pair (.sl (.pair (.int .i64) (.sl (.int .u8)))) (.sl (.int .i64)))))], [(false, (.sl (.sl (.int .u8)))), (false, (.int .i64))], false, m27⟩ := afun_sound' (envOf_sound (CSs.cons c31 (CSs.cons c46 (CSs.cons c47 (CSs.nil)))) (HDs.nil) (IDs.nil)) rfl Try.follows (f := 27) (fn := Try.f27) Try.func27 (by kernel_rfl) (by kernel_rfl) r27_eq
end Go.Proofs.Ytjleeabhpfmhaaa
end

section
open Go Go.Proofs.AM
namespace Go.Proofs.Ytjleeabhpfmhaaa

noncomputable def m72 (x : (List Int) × Unit) : Option (Int × Unit) :=
 Option.bind (loopM (X := (Int × Int)) (E := Int) (fun (x1 : (Int × Int)) =>
 bif (decide (x1.2 < (((List.length x.1) : Nat) : Int))) then
 (Option.bind (loopM (X := (Int × Int)) (E := Int) (fun (x2 : (Int × Int)) =>
 bif (decide (x2.2 < (8 : Int))) then
 (gd ((0 : Int) ≤ x1.2) (gd (x1.2 < (((List.length x.1) : Nat) : Int)) (gd ((0 : Int) ≤ (Go.IntKind.wrap .u64 x2.2)) (bif (decide ((iand .u8 (ishr .u8 (List.getD x.1 (Int.toNat x1.2) (0 : Int)) (Go.IntKind.wrap .u64 x2.2)) (1 : Int)) = (0 : Int))) then
 (some (Sum.inl ((Go.IntKind.wrap .i64 (x2.1 + (1 : Int))), (Go.IntKind.wrap .i64 (x2.2 + (1 : Int))))))
 else
 (some (Sum.inl (x2.1, (Go.IntKind.wrap .i64 (x2.2 + (1 : Int))))))))))
 else
 (some (Sum.inr x2.1))) (x1.1, (0 : Int))) fun (y2 : Int) =>
 some (Sum.inl (y2, (Go.IntKind.wrap .i64 (x1.2 + (1 : Int))))))
 else
 (some (Sum.inr x1.1))) ((0 : Int), (0 : Int))) fun (y1 : Int) =>
 some (y1, ())

noncomputable def r72 : PDen [(false, (.sl (.int .u8)))] → Option (PDen [(false, (.int .i64))]) := fun x => afun Try.prog (envOf [] [] [] []) ⟨[(0, ⟨[.slot 3 (.d false (.int .i64) true), .slot 4 (.d false (.int .i64) true)], [], [(some 0, [.slot 3 (.d false (.int .i64) true)])], none⟩), (2, ⟨[.slot 3 (.d false (.int .i64) true), .slot 5 (.d false (.int .i64) true)], [], [(some 2, [.slot 3 (.d false (.int .i64) true)])], none⟩)], []⟩ Try.f72 [(false, (.sl (.int .u8)))] [(false, (.int .i64))] false x
theorem r72_eq : r72 = m72 := by kernel_rfl

theorem c72 : CS.Sound Try.prog 72 ⟨[(false, (.sl (.int .u8)))], [(false, (.int .i64))], false, m72⟩ := afun_sound' (envOf_sound (CSs.nil) (HDs.nil) (IDs.nil)) rfl Try.follows (f := 72) (fn := Try.f72) Try.func72 (by kernel_rfl) (by kernel_rfl) r72_eq
end Go.Proofs.Ytjleeabhpfmhaaa
end

section
open Go Go.Proofs.AM
namespace Go.Proofs.Ytjleeabhpfmhaaa

noncomputable def m49 (x : (List Int) × Unit) : Option ((List Int) × (Int × Unit)) :=
 bif (decide ((((List.length x.1) : Nat) : Int) > (1048576 : Int))) then
 (some (([] : List Int), ((3 : Int), ())))
 else
 (Option.bind (m72 (x.1, ())) fun (y1 : (Int × Unit)) =>
 gd ((((List.length ([] : List Int)) + (List.length x.1)) * 1) ≤ 140737488355328) (gd (((List.length ([] : List Int)) + (List.length x.1)) ≤ 140737488355328) (gd ((((List.length (([] : List Int) ++ x.1)) + (List.length ((Go.IntKind.wrap .u8 (ishr .i64 y1.1 (24 : Int))) :: ((Go.IntKind.wrap .u8 (ishr .i64 y1.1 (16 : Int))) :: ((Go.IntKind.wrap .u8 (ishr .i64 y1.1 (8 : Int))) :: ((Go.IntKind.wrap .u8 y1.1) :: ([] : List Int))))))) * 1) ≤ 140737488355328) (gd (((List.length (([] : List Int) ++ x.1)) + (List.length ((Go.IntKind.wrap .u8 (ishr .i64 y1.1 (24 : Int))) :: ((Go.IntKind.wrap .u8 (ishr .i64 y1.1 (16 : Int))) :: ((Go.IntKind.wrap .u8 (ishr .i64 y1.1 (8 : Int))) :: ((Go.IntKind.wrap .u8 y1.1) :: ([] : List Int))))))) ≤ 140737488355328) (some (((([] : List Int) ++ x.1) ++ ((Go.IntKind.wrap .u8 (ishr .i64 y1.1 (24 : Int))) :: ((Go.IntKind.wrap .u8 (ishr .i64 y1.1 (16 : Int))) :: ((Go.IntKind.wrap .u8 (ishr .i64 y1.1 (8 : Int))) :: ((Go.IntKind.wrap .u8 y1.1) :: ([] : List Int)))))), ((0 : Int), ())))))))

noncomputable def r49 : PDen [(false, (.sl (.int .u8)))] → Option (PDen [(false, (.sl (.int .u8))), (false, (.int .i64))]) := fun x => afun Try.prog (envOf [(72, ⟨[(false, (.sl (.int .u8)))], [(false, (.int .i64))], false, m72⟩)] [] [] []) ⟨[], []⟩ Try.f49 [(false, (.sl (.int .u8)))] [(false, (.sl (.int .u8))), (false, (.int .i64))] false x
theorem r49_eq : r49 = m49 := by kernel_rfl

theorem c49 : CS.Sound Try.prog 49 ⟨[(false, (.sl (.int .u8)))], [(false, (.sl (.int .u8))), (false, (.int .i64))], false, m49⟩ := afun_sound' (envOf_sound (CSs.cons c72 (CSs.nil)) (HDs.nil) (IDs.nil)) rfl Try.follows (f := 49) (fn := Try.f49) Try.func49 (by kernel_rfl) (by kernel_rfl) r49_eq
end Go.Proofs.Ytjleeabhpfmhaaa
end

section
open Go Go.Proofs.AM
namespace Go.Proofs.Ytjleeabhpfmhaaa

noncomputable def m28 (x : (Int × Int) × Unit) : Option ((List Int) × (Int × Unit)) :=
 bif (decide (x.1.1 < (0 : Int))) then
 (some (([] : List Int), ((1 : Int), ())))
 else
 (bif (decide (x.1.1 ≥ (64 : Int))) then
 (some (([] : List Int), ((1 : Int), ())))
 else
 (bif (decide (x.1.2 < (1 : Int))) then
 (some (([] : List Int), ((1 : Int), ())))
 else
 (bif (decide (x.1.2 > (281474976710656 : Int))) then
 (some (([] : List Int), ((1 : Int), ())))
 else
 (Option.bind (m48 (((32 : Int) :: ((32 : Int) :: ((64 : Int) :: ([] : List Int)))), (((1397508656 : Int) :: ((Go.IntKind.wrap .u64 x.1.1) :: ((Go.IntKind.wrap .u64 x.1.2) :: ([] : List Int)))), ()))) fun (y1 : ((List Int) × (Int × Unit))) =>
 Option.bind (m50 (y1.1, ((252 : Int), ()))) fun (y2 : (List Int)) =>
 Option.bind (m49 (y2, ())) fun (y3 : ((List Int) × (Int × Unit))) =>
 some (y3.1, (y3.2.1, ()))))))

noncomputable def r28 : PDen [(true, (.pair (.int .i64) (.int .i64)))] → Option (PDen [(false, (.sl (.int .u8))), (false, (.int .i64))]) := fun x => afun Try.prog (envOf [(49, ⟨[(false, (.sl (.int .u8)))], [(false, (.sl (.int .u8))), (false, (.int .i64))], false, m49⟩)] [(48, OM.hd ⟨[(false, (.sl (.int .i64))), (false, (.sl (.int .u64)))], [(false, (.sl (.int .u8))), (false, (.int .i64))], [(.s 5), .d], false, m48⟩), (50, COc.hd ⟨5, (.int .u8), [(false, (.int .i64))], m50⟩)] [] []) ⟨[], []⟩ Try.f28 [(true, (.pair (.int .i64) (.int .i64)))] [(false, (.sl (.int .u8))), (false, (.int .i64))] false x
theorem r28_eq : r28 = m28 := by kernel_rfl

theorem c28 : CS.Sound Try.prog 28 ⟨[(true, (.pair (.int .i64) (.int .i64)))], [(false, (.sl (.int .u8))), (false, (.int .i64))], false, m28⟩ := afun_sound' (envOf_sound (CSs.cons c49 (CSs.nil)) (HDs.cons (OM.Sound.hd c48) (HDs.cons (COc.Sound.hd c50) (HDs.nil))) (IDs.nil)) rfl Try.follows (f := 28) (fn := Try.f28) Try.func28 (by kernel_rfl) (by kernel_rfl) r28_eq
end Go.Proofs.Ytjleeabhpfmhaaa
end

section
open Go Go.Proofs.AM
namespace Go.Proofs.Ytjleeabhpfmhaaa

noncomputable def m13 (x : (Int × (Int × (Int × (Int × ((List TyT) × ((List Int) × Bool)))))) × Unit) : Option ((List (List Int)) × (Int × Unit)) :=
 gd ((0 : Int) ≤ x.1.1) (gd (x.1.1 ≤ x.1.1) (gd ((x.1.1 * (24 : Int)) ≤ (140737488355328 : Int)) (Option.bind (loopM (X := (Int × (List (List Int)))) (E := (List (List Int))) (fun (x1 : (Int × (List (List Int)))) =>
 bif (decide (x1.1 < (((List.length (List.replicate (Int.toNat x.1.1) ([] : List Int))) : Nat) : Int))) then
 (gd (((256 : Int) * (1 : Int)) ≤ (140737488355328 : Int)) (gd ((0 : Int) ≤ x1.1) (gd (x1.1 < (((List.length x1.2) : Nat) : Int)) (gd ((Int.toNat x1.1) < (List.length x1.2)) (bif (decide ((((List.length x.1.2.2.2.2.2.1) : Nat) : Int) > (0 : Int))) then
 (gd ((0 : Int) ≤ x1.1) (gd (x1.1 < (((List.length x1.2) : Nat) : Int)) (gd ((Int.toNat x1.1) = (Int.toNat x1.1)) (if (((List.length x.1.2.2.2.2.2.1) : Nat) : Int) = (0 : Int) then
 (none)
 else
 (gd ((0 : Int) ≤ (Int.tmod x1.1 (((List.length x.1.2.2.2.2.2.1) : Nat) : Int))) (gd ((Int.tmod x1.1 (((List.length x.1.2.2.2.2.2.1) : Nat) : Int)) < (((List.length x.1.2.2.2.2.2.1) : Nat) : Int)) (gd ((0 : Int) < (((List.length (List.replicate (Int.toNat (256 : Int)) (0 : Int))) : Nat) : Int)) (gd ((Int.toNat (0 : Int)) < (List.length (List.replicate (Int.toNat (256 : Int)) (0 : Int)))) (some (Sum.inl ((Go.IntKind.wrap .i64 (x1.1 + (1 : Int))), (List.set x1.2 (Int.toNat x1.1) (List.set (List.replicate (Int.toNat (256 : Int)) (0 : Int)) (Int.toNat (0 : Int)) (List.getD x.1.2.2.2.2.2.1 (Int.toNat (Int.tmod x1.1 (((List.length x.1.2.2.2.2.2.1) : Nat) : Int))) (0 : Int)))))))))))))))
 else
 (some (Sum.inl ((Go.IntKind.wrap .i64 (x1.1 + (1 : Int))), (List.set x1.2 (Int.toNat x1.1) (List.replicate (Int.toNat (256 : Int)) (0 : Int)))))))))))
 else
 (some (Sum.inr x1.2))) ((0 : Int), (List.replicate (Int.toNat x.1.1) ([] : List Int)))) fun (y1 : (List (List Int))) =>
 Option.bind (loopM (X := (Int × (Int × (Int × (Int × (List (List Int))))))) (E := (Int × (List (List Int)))) (fun (x2 : (Int × (Int × (Int × (Int × (List (List Int))))))) =>
 bif (decide (x2.2.2.2.1 < (((List.length x.1.2.2.2.2.1) : Nat) : Int))) then
 (gd ((0 : Int) ≤ x2.2.2.2.1) (gd (x2.2.2.2.1 < (((List.length x.1.2.2.2.2.1) : Nat) : Int)) (Option.bind (m27 ((x2.1, (List.getD x.1.2.2.2.2.1 (Int.toNat x2.2.2.2.1) ((0 : Int), (([] : List (Int × (List Int))), ([] : List Int)))).2), ())) fun (y3 : ((List (List Int)) × (Int × Unit))) =>
 bif (!(decide (y3.2.1 = (0 : Int)))) then
 (some (Sum.inr (x2.2.2.1, x2.2.2.2.2)))
 else
 (bif (decide ((Go.IntKind.wrap .i64 (x2.2.1 + (((List.length y3.1) : Nat) : Int))) > (Go.IntKind.wrap .i64 (x.1.2.2.1 - (1 : Int))))) then
 (some (Sum.inr (x2.2.2.1, x2.2.2.2.2)))
 else
 (Option.bind (loopM (X := (Int × (List (List Int)))) (E := (List (List Int))) (fun (x4 : (Int × (List (List Int)))) =>
 bif (decide (x4.1 < (((List.length y3.1) : Nat) : Int))) then
 (gd ((0 : Int) ≤ x4.1) (gd (x4.1 < (((List.length y3.1) : Nat) : Int)) (bif x.1.2.2.2.2.2.2 then
 (bif (decide (x2.2.2.2.1 = (Go.IntKind.wrap .i64 ((((List.length x.1.2.2.2.2.1) : Nat) : Int) - (1 : Int))))) then
 (bif (decide (x4.1 = (Go.IntKind.wrap .i64 ((((List.length y3.1) : Nat) : Int) - (1 : Int))))) then
 (some (Sum.inl ((Go.IntKind.wrap .i64 (x4.1 + (1 : Int))), x4.2)))
 else
 (Option.bind (m11 (x.1.2.2.1, (x.1.2.2.2.1, ((Go.IntKind.wrap .i64 (x2.2.1 + x4.1)), ())))) fun (y5 : (Int × Unit)) =>
 gd ((0 : Int) ≤ (Go.IntKind.wrap .i64 (x.1.2.1 + y5.1))) (gd ((Go.IntKind.wrap .i64 (x.1.2.1 + y5.1)) < (((List.length x4.2) : Nat) : Int)) (gd ((Int.toNat (Go.IntKind.wrap .i64 (x.1.2.1 + y5.1))) < (List.length x4.2)) (some (Sum.inl ((Go.IntKind.wrap .i64 (x4.1 + (1 : Int))), (List.set x4.2 (Int.toNat (Go.IntKind.wrap .i64 (x.1.2.1 + y5.1))) (List.getD y3.1 (Int.toNat x4.1) ([] : List Int))))))))))
 else
 (Option.bind (m11 (x.1.2.2.1, (x.1.2.2.2.1, ((Go.IntKind.wrap .i64 (x2.2.1 + x4.1)), ())))) fun (y5 : (Int × Unit)) =>
 gd ((0 : Int) ≤ (Go.IntKind.wrap .i64 (x.1.2.1 + y5.1))) (gd ((Go.IntKind.wrap .i64 (x.1.2.1 + y5.1)) < (((List.length x4.2) : Nat) : Int)) (gd ((Int.toNat (Go.IntKind.wrap .i64 (x.1.2.1 + y5.1))) < (List.length x4.2)) (some (Sum.inl ((Go.IntKind.wrap .i64 (x4.1 + (1 : Int))), (List.set x4.2 (Int.toNat (Go.IntKind.wrap .i64 (x.1.2.1 + y5.1))) (List.getD y3.1 (Int.toNat x4.1) ([] : List Int))))))))))
 else
 (Option.bind (m11 (x.1.2.2.1, (x.1.2.2.2.1, ((Go.IntKind.wrap .i64 (x2.2.1 + x4.1)), ())))) fun (y5 : (Int × Unit)) =>
 gd ((0 : Int) ≤ (Go.IntKind.wrap .i64 (x.1.2.1 + y5.1))) (gd ((Go.IntKind.wrap .i64 (x.1.2.1 + y5.1)) < (((List.length x4.2) : Nat) : Int)) (gd ((Int.toNat (Go.IntKind.wrap .i64 (x.1.2.1 + y5.1))) < (List.length x4.2)) (some (Sum.inl ((Go.IntKind.wrap .i64 (x4.1 + (1 : Int))), (List.set x4.2 (Int.toNat (Go.IntKind.wrap .i64 (x.1.2.1 + y5.1))) (List.getD y3.1 (Int.toNat x4.1) ([] : List Int))))))))))))
 else
 (some (Sum.inr x4.2))) ((0 : Int), x2.2.2.2.2)) fun (y4 : (List (List Int))) =>
 some (Sum.inl ((Go.IntKind.wrap .i64 (x2.1 + (1 : Int))), ((Go.IntKind.wrap .i64 (x2.2.1 + (((List.length y3.1) : Nat) : Int))), ((Go.IntKind.wrap .i64 (x2.2.2.1 + (1 : Int))), ((Go.IntKind.wrap .i64 (x2.2.2.2.1 + (1 : Int))), y4))))))))))
 else
 (some (Sum.inr (x2.2.2.1, x2.2.2.2.2)))) ((5 : Int), ((0 : Int), ((0 : Int), ((0 : Int), y1))))) fun (y2 : (Int × (List (List Int)))) =>
 bif x.1.2.2.2.2.2.2 then
 (bif (decide (y2.1 = (((List.length x.1.2.2.2.2.1) : Nat) : Int))) then
 (bif (decide (y2.1 > (0 : Int))) then
 (Option.bind (m28 ((x.1.2.2.2.1, (5 : Int)), ())) fun (y3 : ((List Int) × (Int × Unit))) =>
 gd ((0 : Int) ≤ x.1.2.1) (gd (x.1.2.1 < (((List.length y2.2) : Nat) : Int)) (gd ((Int.toNat x.1.2.1) < (List.length y2.2)) (some ((List.set y2.2 (Int.toNat x.1.2.1) y3.1), ((Go.IntKind.wrap .i64 (y2.1 - (1 : Int))), ()))))))
 else
 (Option.bind (m28 ((x.1.2.2.2.1, (5 : Int)), ())) fun (y3 : ((List Int) × (Int × Unit))) =>
 gd ((0 : Int) ≤ x.1.2.1) (gd (x.1.2.1 < (((List.length y2.2) : Nat) : Int)) (gd ((Int.toNat x.1.2.1) < (List.length y2.2)) (some ((List.set y2.2 (Int.toNat x.1.2.1) y3.1), (y2.1, ())))))))
 else
 (Option.bind (m28 ((x.1.2.2.2.1, (5 : Int)), ())) fun (y3 : ((List Int) × (Int × Unit))) =>
 gd ((0 : Int) ≤ x.1.2.1) (gd (x.1.2.1 < (((List.length y2.2) : Nat) : Int)) (gd ((Int.toNat x.1.2.1) < (List.length y2.2)) (some ((List.set y2.2 (Int.toNat x.1.2.1) y3.1), (y2.1, ())))))))
 else
 (Option.bind (m28 ((x.1.2.2.2.1, (5 : Int)), ())) fun (y3 : ((List Int) × (Int × Unit))) =>
 gd ((0 : Int) ≤ x.1.2.1) (gd (x.1.2.1 < (((List.length y2.2) : Nat) : Int)) (gd ((Int.toNat x.1.2.1) < (List.length y2.2)) (some ((List.set y2.2 (Int.toNat x.1.2.1) y3.1), (y2.1, ())))))))))

noncomputable def r13 : PDen [(true, (.pair (.int .i64) (.pair (.int .i64) (.pair (.int .i64) (.pair (.int .i64) (.pair (.sl (.pair (.int .i64) (.pair (.sl (.pair (.int .i64) (.sl (.int .u8)))) (.sl (.int .i64))))) (.pair (.sl (.int .u8)) .bool)))))))] → Option (PDen [(false, (.sl (.sl (.int .u8)))), (false, (.int .i64))]) := fun x => afun Try.prog (envOf [(11, ⟨[(false, (.int .i64)), (false, (.int .i64)), (false, (.int .i64))], [(false, (.int .i64))], false, m11⟩), (27, ⟨[(true, (.pair (.int .i64) (.pair (.sl (.pair (.int .i64) (.sl (.int .u8)))) (.sl (.int .i64)))))], [(false, (.sl (.sl (.int .u8)))), (false, (.int .i64))], false, m27⟩), (28, ⟨[(true, (.pair (.int .i64) (.int .i64)))], [(false, (.sl (.int .u8))), (false, (.int .i64))], false, m28⟩)] [] [300008] []) ⟨[(0, ⟨[.slot 22 (.d false (.int .i64) true), .vec 1 33 (.sl (.int .u8)) false], [], [(some 0, [.vec 1 33 (.sl (.int .u8)) false])], none⟩), (2, ⟨[.slot 6 (.d false (.int .i64) true), .slot 7 (.d false (.int .i64) true), .slot 8 (.d false (.int .i64) true), .slot 51 (.d false (.int .i64) true), .vec 1 33 (.sl (.int .u8)) false], [], [(some 2, [.slot 8 (.d false (.int .i64) true), .vec 1 33 (.sl (.int .u8)) false])], none⟩), (4, ⟨[.slot 77 (.d false (.int .i64) true), .vec 1 33 (.sl (.int .u8)) false], [], [(some 4, [.vec 1 33 (.sl (.int .u8)) false])], none⟩)], []⟩ Try.f13 [(true, (.pair (.int .i64) (.pair (.int .i64) (.pair (.int .i64) (.pair (.int .i64) (.pair (.sl (.pair (.int .i64) (.pair (.sl (.pair (.int .i64) (.sl (.int .u8)))) (.sl (.int .i64))))) (.pair (.sl (.int .u8)) .bool)))))))] [(false, (.sl (.sl (.int .u8)))), (false, (.int .i64))] true x
theorem r13_eq : r13 = m13 := by kernel_rfl

theorem c13 : CS.Sound Try.prog 13 ⟨[(true, (.pair (.int .i64) (.pair (.int .i64) (.pair (.int .i64) (.pair (.int .i64) (.pair (.sl (.pair (.int .i64) (.pair (.sl (.pair (.int .i64) (.sl (.int .u8)))) (.sl (.int .i64))))) (.pair (.sl (.int .u8)) .bool)))))))], [(false, (.sl (.sl (.int .u8)))), (false, (.int .i64))], true, m13⟩ := afun_sound' (envOf_sound (CSs.cons c11 (CSs.cons c27 (CSs.cons c28 (CSs.nil)))) (HDs.nil) (IDs.nil)) rfl Try.follows (f := 13) (fn := Try.f13) Try.func13 (by kernel_rfl) (by kernel_rfl) r13_eq
end Go.Proofs.Ytjleeabhpfmhaaa
end

section
open Go Go.Proofs.AM
namespace Go.Proofs.Ytjleeabhpfmhaaa

noncomputable def m16 (x : (List (Int × (List Int))) × (List (Int × (List Int))) × Unit) : Option (Bool × Unit) :=
 bif (!(decide ((((List.length x.1) : Nat) : Int) = (((List.length x.2.1) : Nat) : Int)))) then
 (some (false, ()))
 else
 (Option.bind (loopM (X := Int) (E := (Unit ⊕ Bool)) (fun (x1 : Int) =>
 bif (decide (x1 < (((List.length x.1) : Nat) : Int))) then
 (gd ((0 : Int) ≤ x1) (gd (x1 < (((List.length x.1) : Nat) : Int)) (gd ((0 : Int) ≤ x1) (gd (x1 < (((List.length x.2.1) : Nat) : Int)) (bif (!(decide ((List.getD x.1 (Int.toNat x1) ((0 : Int), ([] : List Int))).1 = (List.getD x.2.1 (Int.toNat x1) ((0 : Int), ([] : List Int))).1))) then
 (some (Sum.inr (Sum.inr false)))
 else
 (gd ((0 : Int) ≤ x1) (gd (x1 < (((List.length x.1) : Nat) : Int)) (gd ((0 : Int) ≤ x1) (gd (x1 < (((List.length x.2.1) : Nat) : Int)) (bif (!(streq (Go.strOfNums (List.getD x.1 (Int.toNat x1) ((0 : Int), ([] : List Int))).2) (Go.strOfNums (List.getD x.2.1 (Int.toNat x1) ((0 : Int), ([] : List Int))).2))) then
 (some (Sum.inr (Sum.inr false)))
 else
 (some (Sum.inl (Go.IntKind.wrap .i64 (x1 + (1 : Int)))))))))))))))
 else
 (some (Sum.inr (Sum.inl ())))) (0 : Int)) fun (y1 : (Unit ⊕ Bool)) =>
 Sum.elim (fun y2 =>
 some (true, ())) (fun y2 =>
 some (y2, ())) y1)

noncomputable def r16 : PDen [(false, (.sl (.pair (.int .i64) (.sl (.int .u8))))), (false, (.sl (.pair (.int .i64) (.sl (.int .u8)))))] → Option (PDen [(false, .bool)]) := fun x => afun Try.prog (envOf [] [] [] []) ⟨[(0, ⟨[.slot 5 (.d false (.int .i64) true)], [], [(some 0, []), (none, [.slot 4 (.d false .bool true)])], none⟩)], []⟩ Try.f16 [(false, (.sl (.pair (.int .i64) (.sl (.int .u8))))), (false, (.sl (.pair (.int .i64) (.sl (.int .u8)))))] [(false, .bool)] false x
theorem r16_eq : r16 = m16 := by kernel_rfl

theorem c16 : CS.Sound Try.prog 16 ⟨[(false, (.sl (.pair (.int .i64) (.sl (.int .u8))))), (false, (.sl (.pair (.int .i64) (.sl (.int .u8)))))], [(false, .bool)], false, m16⟩ := afun_sound' (envOf_sound (CSs.nil) (HDs.nil) (IDs.nil)) rfl Try.follows (f := 16) (fn := Try.f16) Try.func16 (by kernel_rfl) (by kernel_rfl) r16_eq
end Go.Proofs.Ytjleeabhpfmhaaa
end

section
open Go Go.Proofs.AM
namespace Go.Proofs.Ytjleeabhpfmhaaa

noncomputable def m29 (x : (List Int) × (List Int) × Unit) : Option (Bool × Unit) :=
 bif (!(decide ((((List.length x.1) : Nat) : Int) = (((List.length x.2.1) : Nat) : Int)))) then
 (some (false, ()))
 else
 (Option.bind (loopM (X := Int) (E := (Unit ⊕ Bool)) (fun (x1 : Int) =>
 bif (decide (x1 < (((List.length x.1) : Nat) : Int))) then
 (gd ((0 : Int) ≤ x1) (gd (x1 < (((List.length x.1) : Nat) : Int)) (gd ((0 : Int) ≤ x1) (gd (x1 < (((List.length x.2.1) : Nat) : Int)) (bif (!(decide ((List.getD x.1 (Int.toNat x1) (0 : Int)) = (List.getD x.2.1 (Int.toNat x1) (0 : Int))))) then
 (some (Sum.inr (Sum.inr false)))
 else
 (some (Sum.inl (Go.IntKind.wrap .i64 (x1 + (1 : Int))))))))))
 else
 (some (Sum.inr (Sum.inl ())))) (0 : Int)) fun (y1 : (Unit ⊕ Bool)) =>
 Sum.elim (fun y2 =>
 some (true, ())) (fun y2 =>
 some (y2, ())) y1)

noncomputable def r29 : PDen [(false, (.sl (.int .i64))), (false, (.sl (.int .i64)))] → Option (PDen [(false, .bool)]) := fun x => afun Try.prog (envOf [] [] [] []) ⟨[(0, ⟨[.slot 5 (.d false (.int .i64) true)], [], [(some 0, []), (none, [.slot 4 (.d false .bool true)])], none⟩)], []⟩ Try.f29 [(false, (.sl (.int .i64))), (false, (.sl (.int .i64)))] [(false, .bool)] false x
theorem r29_eq : r29 = m29 := by kernel_rfl

theorem c29 : CS.Sound Try.prog 29 ⟨[(false, (.sl (.int .i64))), (false, (.sl (.int .i64)))], [(false, .bool)], false, m29⟩ := afun_sound' (envOf_sound (CSs.nil) (HDs.nil) (IDs.nil)) rfl Try.follows (f := 29) (fn := Try.f29) Try.func29 (by kernel_rfl) (by kernel_rfl) r29_eq
end Go.Proofs.Ytjleeabhpfmhaaa
end

section
open Go Go.Proofs.AM
namespace Go.Proofs.Ytjleeabhpfmhaaa

noncomputable def m14 (x : TyT × TyT × Unit) : Option (Bool × Unit) :=
 bif (decide (x.1.1 = x.2.1.1)) then
 (Option.bind (m16 (x.1.2.1, (x.2.1.2.1, ()))) fun (y1 : (Bool × Unit)) =>
 bif y1.1 then
 (Option.bind (m29 (x.1.2.2, (x.2.1.2.2, ()))) fun (y2 : (Bool × Unit)) =>
 some (y2.1, ()))
 else
 (some (false, ())))
 else
 (some (false, ()))

noncomputable def r14 : PDen [(true, (.pair (.int .i64) (.pair (.sl (.pair (.int .i64) (.sl (.int .u8)))) (.sl (.int .i64))))), (true, (.pair (.int .i64) (.pair (.sl (.pair (.int .i64) (.sl (.int .u8)))) (.sl (.int .i64)))))] → Option (PDen [(false, .bool)]) := fun x => afun Try.prog (envOf [(16, ⟨[(false, (.sl (.pair (.int .i64) (.sl (.int .u8))))), (false, (.sl (.pair (.int .i64) (.sl (.int .u8)))))], [(false, .bool)], false, m16⟩), (29, ⟨[(false, (.sl (.int .i64))), (false, (.sl (.int .i64)))], [(false, .bool)], false, m29⟩)] [] [] []) ⟨[], []⟩ Try.f14 [(true, (.pair (.int .i64) (.pair (.sl (.pair (.int .i64) (.sl (.int .u8)))) (.sl (.int .i64))))), (true, (.pair (.int .i64) (.pair (.sl (.pair (.int .i64) (.sl (.int .u8)))) (.sl (.int .i64)))))] [(false, .bool)] false x
theorem r14_eq : r14 = m14 := by kernel_rfl

theorem c14 : CS.Sound Try.prog 14 ⟨[(true, (.pair (.int .i64) (.pair (.sl (.pair (.int .i64) (.sl (.int .u8)))) (.sl (.int .i64))))), (true, (.pair (.int .i64) (.pair (.sl (.pair (.int .i64) (.sl (.int .u8)))) (.sl (.int .i64)))))], [(false, .bool)], false, m14⟩ := afun_sound' (envOf_sound (CSs.cons c16 (CSs.cons c29 (CSs.nil))) (HDs.nil) (IDs.nil)) rfl Try.follows (f := 14) (fn := Try.f14) Try.func14 (by kernel_rfl) (by kernel_rfl) r14_eq
end Go.Proofs.Ytjleeabhpfmhaaa
end

section
open Go Go.Proofs.AM
namespace Go.Proofs.Ytjleeabhpfmhaaa

noncomputable def m4 (x : (Int × (Int × (Int × (Int × ((List TyT) × ((List Int) × Bool)))))) × Unit) : Option (Bool × Unit) :=
 Option.bind (m6 ()) fun (y1 : (Bool × Unit)) =>
 bif (!y1.1) then
 (some (false, ()))
 else
 (Option.bind (m12 (x.1, ())) fun (y2 : (Bool × Unit)) =>
 bif (!y2.1) then
 (some (true, ()))
 else
 (Option.bind (m13 (x.1, ())) fun (y3 : ((List (List Int)) × (Int × Unit))) =>
 gd ((0 : Int) ≤ x.1.2.1) (gd (x.1.2.1 ≤ (Go.IntKind.wrap .i64 (x.1.2.1 + x.1.2.2.1))) (gd ((Go.IntKind.wrap .i64 (x.1.2.1 + x.1.2.2.1)) ≤ (((List.length y3.1) : Nat) : Int)) (Option.bind (m7 ((List.take ((Int.toNat (Go.IntKind.wrap .i64 (x.1.2.1 + x.1.2.2.1))) - (Int.toNat x.1.2.1)) (List.drop (Int.toNat x.1.2.1) y3.1)), ())) fun (y4 : (((List TyT) × (Int × Int)) × (Int × Unit))) =>
 bif (!(decide (y4.2.1 = (0 : Int)))) then
 (some (false, ()))
 else
 (bif (!(decide ((((List.length y4.1.1) : Nat) : Int) = y3.2.1))) then
 (some (false, ()))
 else
 (bif (!(decide (y4.1.2.2 = (Go.IntKind.wrap .i64 (y3.2.1 + (5 : Int)))))) then
 (some (false, ()))
 else
 (Option.bind (loopM (X := Int) (E := (Unit ⊕ Bool)) (fun (x5 : Int) =>
 bif (decide (x5 < (((List.length y4.1.1) : Nat) : Int))) then
 (gd ((0 : Int) ≤ x5) (gd (x5 < (((List.length y4.1.1) : Nat) : Int)) (gd ((0 : Int) ≤ x5) (gd (x5 < (((List.length x.1.2.2.2.2.1) : Nat) : Int)) (Option.bind (m14 ((List.getD y4.1.1 (Int.toNat x5) ((0 : Int), (([] : List (Int × (List Int))), ([] : List Int)))), (((Go.IntKind.wrap .i64 (x5 + (5 : Int))), (List.getD x.1.2.2.2.2.1 (Int.toNat x5) ((0 : Int), (([] : List (Int × (List Int))), ([] : List Int)))).2), ()))) fun (y6 : (Bool × Unit)) =>
 bif (!y6.1) then
 (some (Sum.inr (Sum.inr false)))
 else
 (some (Sum.inl (Go.IntKind.wrap .i64 (x5 + (1 : Int))))))))))
 else
 (some (Sum.inr (Sum.inl ())))) (0 : Int)) fun (y5 : (Unit ⊕ Bool)) =>
 Sum.elim (fun y6 =>
 some (true, ())) (fun y6 =>
 some (y6, ())) y5))))))))

noncomputable def r4 : PDen [(true, (.pair (.int .i64) (.pair (.int .i64) (.pair (.int .i64) (.pair (.int .i64) (.pair (.sl (.pair (.int .i64) (.pair (.sl (.pair (.int .i64) (.sl (.int .u8)))) (.sl (.int .i64))))) (.pair (.sl (.int .u8)) .bool)))))))] → Option (PDen [(false, .bool)]) := fun x => afun Try.prog (envOf [(6, ⟨[], [(false, .bool)], false, m6⟩), (7, ⟨[(false, (.sl (.sl (.int .u8))))], [(true, (.pair (.sl (.pair (.int .i64) (.pair (.sl (.pair (.int .i64) (.sl (.int .u8)))) (.sl (.int .i64))))) (.pair (.int .i64) (.int .i64)))), (false, (.int .i64))], false, m7⟩), (12, ⟨[(true, (.pair (.int .i64) (.pair (.int .i64) (.pair (.int .i64) (.pair (.int .i64) (.pair (.sl (.pair (.int .i64) (.pair (.sl (.pair (.int .i64) (.sl (.int .u8)))) (.sl (.int .i64))))) (.pair (.sl (.int .u8)) .bool)))))))], [(false, .bool)], false, m12⟩), (13, ⟨[(true, (.pair (.int .i64) (.pair (.int .i64) (.pair (.int .i64) (.pair (.int .i64) (.pair (.sl (.pair (.int .i64) (.pair (.sl (.pair (.int .i64) (.sl (.int .u8)))) (.sl (.int .i64))))) (.pair (.sl (.int .u8)) .bool)))))))], [(false, (.sl (.sl (.int .u8)))), (false, (.int .i64))], true, m13⟩), (14, ⟨[(true, (.pair (.int .i64) (.pair (.sl (.pair (.int .i64) (.sl (.int .u8)))) (.sl (.int .i64))))), (true, (.pair (.int .i64) (.pair (.sl (.pair (.int .i64) (.sl (.int .u8)))) (.sl (.int .i64)))))], [(false, .bool)], false, m14⟩)] [] [] []) ⟨[(0, ⟨[.slot 52 (.d false (.int .i64) true)], [], [(some 0, []), (none, [.slot 2 (.d false .bool true)])], none⟩)], []⟩ Try.f4 [(true, (.pair (.int .i64) (.pair (.int .i64) (.pair (.int .i64) (.pair (.int .i64) (.pair (.sl (.pair (.int .i64) (.pair (.sl (.pair (.int .i64) (.sl (.int .u8)))) (.sl (.int .i64))))) (.pair (.sl (.int .u8)) .bool)))))))] [(false, .bool)] false x
theorem r4_eq : r4 = m4 := by kernel_rfl

theorem c4 : CS.Sound Try.prog 4 ⟨[(true, (.pair (.int .i64) (.pair (.int .i64) (.pair (.int .i64) (.pair (.int .i64) (.pair (.sl (.pair (.int .i64) (.pair (.sl (.pair (.int .i64) (.sl (.int .u8)))) (.sl (.int .i64))))) (.pair (.sl (.int .u8)) .bool)))))))], [(false, .bool)], false, m4⟩ := afun_sound' (envOf_sound (CSs.cons c6 (CSs.cons c7 (CSs.cons c12 (CSs.cons c13 (CSs.cons c14 (CSs.nil)))))) (HDs.nil) (IDs.nil)) rfl Try.follows (f := 4) (fn := Try.f4) Try.func4 (by kernel_rfl) (by kernel_rfl) r4_eq
end Go.Proofs.Ytjleeabhpfmhaaa
end

section
open Go Go.Proofs.AM
namespace Go.Proofs.Ytjleeabhpfmhaaa

end Go.Proofs.Ytjleeabhpfmhaaa
end

section
open Go Go.Proofs.AM
namespace Go.Proofs.Ytjleeabhpfmhaaa

end Go.Proofs.Ytjleeabhpfmhaaa
end

section
open Go Go.Proofs.AM
namespace Go.Proofs.Ytjleeabhpfmhaaa

end Go.Proofs.Ytjleeabhpfmhaaa
end

section
open Go Go.Proofs.AM
namespace Go.Proofs.Ytjleeabhpfmhaaa

end Go.Proofs.Ytjleeabhpfmhaaa
end

section
open Go Go.Proofs.AM
namespace Go.Proofs.Ytjleeabhpfmhaaa

end Go.Proofs.Ytjleeabhpfmhaaa
end

section
open Go Go.Proofs.AM
namespace Go.Proofs.Ytjleeabhpfmhaaa

end Go.Proofs.Ytjleeabhpfmhaaa
end

section
open Go Go.Proofs.AM
namespace Go.Proofs.Ytjleeabhpfmhaaa

end Go.Proofs.Ytjleeabhpfmhaaa
end

section
open Go Go.Proofs.AM
namespace Go.Proofs.Ytjleeabhpfmhaaa

end Go.Proofs.Ytjleeabhpfmhaaa
end

section
open Go Go.Proofs.AM
namespace Go.Proofs.Ytjleeabhpfmhaaa

end Go.Proofs.Ytjleeabhpfmhaaa
end

section
open Go Go.Proofs.AM
namespace Go.Proofs.Ytjleeabhpfmhaaa

end Go.Proofs.Ytjleeabhpfmhaaa
end

section
namespace Go.Proofs.Ytjleeabhpfmhaaa
open Go Go.Proofs.AM

def Bytes (l : List Int) : Prop := ∀ x ∈ l, 0 ≤ x ∧ x < 256

theorem Bytes.app {a b : List Int} (h : Bytes a) (k : Bytes b) : Bytes (a ++ b) := fun x hx => (List.mem_append.1 hx).elim (h x) (k x)
theorem Bytes.take {a : List Int} (h : Bytes a) (n : Nat) : Bytes (a.take n) := fun x hx => h x (List.mem_of_mem_take hx)
theorem Bytes.drop {a : List Int} (h : Bytes a) (n : Nat) : Bytes (a.drop n) := fun x hx => h x (List.mem_of_mem_drop hx)
theorem Bytes.nil : Bytes [] := fun x hx => by simp at hx
theorem Bytes.zeros (n : Nat) : Bytes (List.replicate n 0) := fun x hx => by rw [List.eq_of_mem_replicate hx]; decide

theorem take_snoc {A : Type} (l : List A) (i : Nat) (h : i < l.length) (z : A) : l.take (i + 1) = l.take i ++ [l.getD i z] := by
  rw [List.take_add_one, List.getD_eq_getElem?_getD, List.getElem?_eq_getElem h]; rfl

theorem getD_mem {A : Type} {l : List A} {i : Nat} {z : A} (h : i < l.length) : l.getD i z ∈ l := by
  rw [List.getD_eq_getElem?_getD, List.getElem?_eq_getElem h]; simp

theorem wsucc {i : Nat} (h : i < 4000000000000000000) : IntKind.wrap .i64 ((i : Int) + 1) = ((i + 1 : Nat) : Int) := by
  rw [wrap64 (by omega) (by omega)]; push_cast; rfl

theorem ok_eq {A : Type} {o : Option A} {r : A} (h : Ok o (fun x => x = r)) : o = some r := by
  obtain ⟨x, e, h⟩ := h; rw [e, h]

theorem ext_getD {l m : List Int} (hl : l.length = m.length) (h : ∀ i, i < l.length → l.getD i 0 = m.getD i 0) : l = m := by
  apply List.ext_getElem hl
  intro i h1 h2
  have := h i h1
  rw [List.getD_eq_getElem?_getD, List.getD_eq_getElem?_getD, List.getElem?_eq_getElem h1, List.getElem?_eq_getElem h2] at this
  simpa using this

def be (n : Nat) : Nat → List Int
  | 0 => []
  | k + 1 => ((n / 2 ^ (8 * k) % 256 : Nat) : Int) :: be n k

def val (l : List Int) : Nat := l.foldl (fun a x => 256 * a + x.toNat) 0

theorem be_len (n : Nat) : ∀ k, (be n k).length = k
  | 0 => rfl
  | k + 1 => by simp [be, be_len n k]

theorem be_bytes (n : Nat) : ∀ k, Bytes (be n k)
  | 0 => Bytes.nil
  | k + 1 => fun x hx => by
    rcases List.mem_cons.1 hx with rfl | hx
    · have : n / 2 ^ (8 * k) % 256 < 256 := Nat.mod_lt _ (by omega)
      omega
    · exact be_bytes n k x hx

theorem pow8 (k : Nat) : 2 ^ (8 * (k + 1)) = 2 ^ (8 * k) * 256 := by rw [show 8 * (k + 1) = 8 * k + 8 by omega, Nat.pow_add]

theorem fold_be (n : Nat) : ∀ k a, (be n k).foldl (fun a x => 256 * a + x.toNat) a = a * 2 ^ (8 * k) + n % 2 ^ (8 * k)
  | 0, a => by simp [be, Nat.mod_one]
  | k + 1, a => by
    simp only [be, List.foldl_cons, Int.toNat_natCast]
    rw [fold_be n k, pow8, Nat.mod_mul, Nat.add_mul, ← Nat.mul_assoc, Nat.mul_comm (n / _ % 256), Nat.mul_assoc a, Nat.mul_comm _ 256, Nat.mul_comm 256 a, Nat.mul_assoc a]
    omega

theorem val_be {n k : Nat} (h : n < 2 ^ (8 * k)) : val (be n k) = n := by
  unfold val
  rw [fold_be, Nat.mod_eq_of_lt h]; omega

theorem fold_lin : ∀ (l : List Int) (a : Nat), l.foldl (fun a x => 256 * a + x.toNat) a = a * 2 ^ (8 * l.length) + val l
  | [], a => by simp [val]
  | x :: l, a => by
    have h1 := fold_lin l (256 * a + x.toNat)
    have h2 := fold_lin l (256 * 0 + x.toNat)
    unfold val
    simp only [List.foldl_cons, List.length_cons] at *
    rw [h1, h2, pow8, Nat.add_mul, Nat.add_mul, Nat.mul_zero, Nat.zero_mul]
    have e : 256 * a * 2 ^ (8 * l.length) = a * (2 ^ (8 * l.length) * 256) := by ac_rfl
    rw [e]
    omega

theorem val_snoc (l : List Int) (x : Int) : val (l ++ [x]) = 256 * val l + x.toNat := by
  unfold val; rw [List.foldl_append]; rfl

theorem val_cons (x : Int) (l : List Int) : val (x :: l) = x.toNat * 2 ^ (8 * l.length) + val l := by
  have := fold_lin l (256 * 0 + x.toNat)
  unfold val
  rw [List.foldl_cons, this]; unfold val; simp

theorem val_lt : ∀ (l : List Int), Bytes l → val l < 2 ^ (8 * l.length)
  | [], _ => by simp [val]
  | x :: l, h => by
    have ih := val_lt l fun y hy => h y (List.mem_cons_of_mem _ hy)
    have hx := h x (List.mem_cons_self)
    rw [val_cons, List.length_cons, pow8]
    have : x.toNat * 2 ^ (8 * l.length) ≤ 255 * 2 ^ (8 * l.length) := Nat.mul_le_mul_right _ (by omega)
    omega

def bit (b : List Int) (p : Nat) : Nat := (b.getD (p / 8) 0).toNat / 2 ^ (7 - p % 8) % 2

def un (b : List Int) (at_ : Nat) : Nat → Nat
  | 0 => 0
  | k + 1 => 2 * un b at_ k + bit b (at_ + k)

theorem ioru8 (a b : Nat) (hb : b < 256) (h : 256 * a + b < 18446744073709551616) : ior .u64 (ishl .u64 (a : Int) 8) (b : Int) = ((256 * a + b : Nat) : Int) := by
  have e0 : ishl .u64 (a : Int) 8 = ((2 ^ 8 * a : Nat) : Int) := by
    unfold ishl
    have hb : IntKind.u64.bits = 64 := rfl
    rw [hb]
    show IntKind.wrap .u64 ((a : Int) * 2 ^ 8) = _
    rw [wrapU64 (by omega) (by omega)]; push_cast; omega
  rw [e0]
  unfold ior
  have e1 : (BitVec.ofInt IntKind.u64.bits ((2 ^ 8 * a : Nat) : Int) ||| BitVec.ofInt IntKind.u64.bits (b : Int)).toNat = 2 ^ 8 * a + b := by
    show (BitVec.ofInt 64 ((2 ^ 8 * a : Nat) : Int) ||| BitVec.ofInt 64 (b : Int)).toNat = _
    rw [BitVec.toNat_or, BitVec.toNat_ofInt, BitVec.toNat_ofInt]
    rw [Nat.two_pow_add_eq_or_of_lt (show b < 2 ^ 8 by omega)]
    congr 1
    · omega
    · omega
  rw [e1, wrapU64 (by omega) (by omega)]

theorem tdiv8 (p : Nat) : Int.tdiv (p : Int) 8 = ((p / 8 : Nat) : Int) := rfl
theorem tmod8 (p : Nat) : Int.tmod (p : Int) 8 = ((p % 8 : Nat) : Int) := rfl

theorem wp {p : Nat} (h : p < 100000) : IntKind.wrap .i64 (Int.tdiv (p : Int) 8) = ((p / 8 : Nat) : Int) := by rw [tdiv8, wrap64 (by omega) (by omega)]
theorem wq {p : Nat} : IntKind.wrap .i64 ((7 : Int) - Int.tmod (p : Int) 8) = ((7 - p % 8 : Nat) : Int) := by
  rw [tmod8, wrap64 (by omega) (by omega)]; omega

theorem put_all : ∀ (x : Fin 256) (j : Fin 8) (c : Fin 2), x.val / 2 ^ j.val % 2 = 0 →
    (0 ≤ ior .u8 ((x.val : Nat) : Int) (ishl .u8 ((c.val : Nat) : Int) ((j.val : Nat) : Int)) ∧ ior .u8 ((x.val : Nat) : Int) (ishl .u8 ((c.val : Nat) : Int) ((j.val : Nat) : Int)) < 256) ∧
      ∀ k : Fin 8, (ior .u8 ((x.val : Nat) : Int) (ishl .u8 ((c.val : Nat) : Int) ((j.val : Nat) : Int))).toNat / 2 ^ k.val % 2 = if k = j then c.val else x.val / 2 ^ k.val % 2 := by decide +kernel

theorem getD_set {l : List Int} {i j : Nat} {y : Int} (h : i < l.length) : (l.set i y).getD j 0 = if j = i then y else l.getD j 0 := by
  rw [List.getD_eq_getElem?_getD, List.getElem?_set]
  by_cases e : i = j
  · subst e; simp [h]
  · rw [if_neg e, if_neg (fun h => e h.symm), List.getD_eq_getElem?_getD]

def put (b : List Int) (p c : Nat) : List Int := b.set (p / 8) (ior .u8 (b.getD (p / 8) 0) (ishl .u8 (c : Int) ((7 - p % 8 : Nat) : Int)))

theorem put_ok {b : List Int} (hb : Bytes b) {p c : Nat} (hp : p / 8 < b.length) (hc : c < 2) (h0 : bit b p = 0) : Bytes (put b p c) ∧ (put b p c).length = b.length ∧ ∀ q, bit (put b p c) q = if q = p then c else bit b q := by
  obtain ⟨g0, g1⟩ := hb _ (getD_mem (z := 0) hp)
  unfold bit at h0
  obtain ⟨n, hn⟩ : ∃ n : Nat, b.getD (p / 8) 0 = n := ⟨(b.getD (p / 8) 0).toNat, by omega⟩
  rw [hn] at h0 g1
  rw [Int.toNat_natCast] at h0
  obtain ⟨h1, h2⟩ := put_all ⟨n, by omega⟩ ⟨7 - p % 8, by omega⟩ ⟨c, hc⟩ h0
  simp only at h1 h2
  refine ⟨fun x hx => ?_, by unfold put; rw [List.length_set], fun q => ?_⟩
  · unfold put at hx
    rcases List.mem_or_eq_of_mem_set hx with h | h
    · exact hb x h
    · rw [h, hn]; exact h1
  · unfold bit put
    rw [getD_set hp, hn]
    by_cases e : q / 8 = p / 8
    · rw [if_pos e]
      have := h2 ⟨7 - q % 8, by omega⟩
      simp only [Fin.mk.injEq] at this
      rw [this]
      by_cases e2 : q = p
      · subst e2; simp
      · rw [if_neg (by omega), if_neg e2, e, hn, Int.toNat_natCast]
    · rw [if_neg e, if_neg (by rintro rfl; exact e rfl)]

def sumb (x : Nat) : Nat := 128 * (x / 2 ^ (7 - 0) % 2) + 64 * (x / 2 ^ (7 - 1) % 2) + 32 * (x / 2 ^ (7 - 2) % 2) + 16 * (x / 2 ^ (7 - 3) % 2) + 8 * (x / 2 ^ (7 - 4) % 2) + 4 * (x / 2 ^ (7 - 5) % 2) + 2 * (x / 2 ^ (7 - 6) % 2) + x / 2 ^ (7 - 7) % 2

theorem sumb_eq : ∀ x : Fin 256, x.val = sumb x.val := by decide +kernel

theorem byte_eq {x y : Nat} (hx : x < 256) (hy : y < 256) (e : ∀ k, k < 8 → x / 2 ^ (7 - k) % 2 = y / 2 ^ (7 - k) % 2) : x = y := by
  have h1 : sumb x = sumb y := by
    unfold sumb
    rw [e 0 (by omega), e 1 (by omega), e 2 (by omega), e 3 (by omega), e 4 (by omega), e 5 (by omega), e 6 (by omega), e 7 (by omega)]
  exact (sumb_eq ⟨x, hx⟩).trans (h1.trans (sumb_eq ⟨y, hy⟩).symm)

theorem bits_eq {a b : List Int} (ha : Bytes a) (hb : Bytes b) (hl : a.length = b.length) (h : ∀ q, q < 8 * a.length → bit a q = bit b q) : a = b := by
  apply ext_getD hl
  intro i hi
  obtain ⟨a0, a1⟩ := ha _ (getD_mem (z := 0) hi)
  obtain ⟨b0, b1⟩ := hb _ (getD_mem (z := 0) (show i < b.length by omega))
  have H : ∀ k, k < 8 → (a.getD i 0).toNat / 2 ^ (7 - k) % 2 = (b.getD i 0).toNat / 2 ^ (7 - k) % 2 := by
    intro k hk
    have := h (8 * i + k) (by omega)
    unfold bit at this
    rw [show (8 * i + k) / 8 = i by omega, show (8 * i + k) % 8 = k by omega] at this
    exact this
  have := byte_eq (by omega) (by omega) H
  omega

theorem shr64 (v k : Nat) (hk : k ≤ 64) : ishr .u64 (v : Int) (k : Int) = ((v / 2 ^ k : Nat) : Int) := by
  unfold ishr
  have hb : IntKind.u64.bits = 64 := rfl
  rw [hb, Int.toNat_natCast, Nat.min_eq_left hk]
  rw [Int.fdiv_eq_ediv_of_nonneg _ (by exact_mod_cast Nat.zero_le (2 ^ k)), Int.natCast_ediv]
  push_cast
  rfl

theorem and64 (v : Nat) (h : v < 18446744073709551616) : iand .u64 (v : Int) 1 = ((v % 2 : Nat) : Int) := by
  unfold iand
  have e1 : (BitVec.ofInt IntKind.u64.bits (v : Int) &&& BitVec.ofInt IntKind.u64.bits 1).toNat = v % 2 := by
    show (BitVec.ofInt 64 (v : Int) &&& BitVec.ofInt 64 1).toNat = _
    rw [BitVec.toNat_and, BitVec.toNat_ofInt, BitVec.toNat_ofInt]
    rw [show ((1 : Int) % ((2 ^ 64 : Nat) : Int)).toNat = 1 from rfl, Nat.and_one_is_mod]
    omega
  rw [e1, wrapU64 (by omega) (by omega)]

theorem wrap8 (n : Nat) : IntKind.wrap .u8 (n : Int) = ((n % 256 : Nat) : Int) := by
  have e1 : IntKind.bits .u8 = 8 := rfl
  have e2 : IntKind.signed .u8 = false := rfl
  simp only [IntKind.wrap, e1, e2, Bool.false_and]
  simp

theorem bit_cons (x : Int) (l : List Int) (p : Nat) : bit (x :: l) (p + 8) = bit l p := by
  unfold bit
  rw [show (p + 8) / 8 = p / 8 + 1 by omega, Nat.add_mod_right]; rfl

theorem bit_app_r (a b : List Int) (p : Nat) : bit (a ++ b) (8 * a.length + p) = bit b p := by
  unfold bit
  rw [show (8 * a.length + p) / 8 = a.length + p / 8 by omega, show (8 * a.length + p) % 8 = p % 8 by omega]
  congr 3
  rw [List.getD_eq_getElem?_getD, List.getElem?_append_right (by omega), Nat.add_sub_cancel_left, ← List.getD_eq_getElem?_getD]

theorem bit_app_l (a b : List Int) (p : Nat) (h : p < 8 * a.length) : bit (a ++ b) p = bit a p := by
  unfold bit
  congr 3
  rw [List.getD_eq_getElem?_getD, List.getElem?_append_left (by omega), ← List.getD_eq_getElem?_getD]

theorem be_bit (n : Nat) : ∀ (k q : Nat), q < 8 * k → bit (be n k) q = n / 2 ^ (8 * k - 1 - q) % 2
  | 0, q, h => by omega
  | k + 1, q, h => by
    by_cases hq : q < 8
    · unfold be bit
      rw [Nat.div_eq_of_lt hq, Nat.mod_eq_of_lt hq]
      show (((n / 2 ^ (8 * k) % 256 : Nat) : Int)).toNat / 2 ^ (7 - q) % 2 = _
      rw [Int.toNat_natCast, show 8 * (k + 1) - 1 - q = 8 * k + (7 - q) by omega, Nat.pow_add, ← Nat.div_div_eq_div_mul]
      generalize n / 2 ^ (8 * k) = m
      have h256 : (256 : Nat) = 2 ^ (7 - q) * (2 * 2 ^ q) := by
        rw [Nat.mul_left_comm, ← Nat.pow_add, show 7 - q + q = 7 by omega]
      rw [h256, Nat.mod_mul_right_div_self, Nat.mod_mul_right_mod]
    · obtain ⟨r, rfl⟩ : ∃ r, q = r + 8 := ⟨q - 8, by omega⟩
      unfold be
      rw [bit_cons, be_bit n k r (by omega)]
      congr 3
      omega

def off (ws : List Nat) (i : Nat) : Nat := (ws.take i).sum
def wd (ws : List Nat) (i : Nat) : Nat := ws.getD i 0
def wl (ws : List Nat) : List Int := ws.map fun (n : Nat) => (n : Int)

theorem wl_len (ws : List Nat) : (wl ws).length = ws.length := by simp [wl]
theorem wl_get (ws : List Nat) (i : Nat) : (wl ws).getD i 0 = ((wd ws i : Nat) : Int) := by
  unfold wl wd
  rw [List.getD_eq_getElem?_getD, List.getElem?_map, List.getD_eq_getElem?_getD]
  cases ws[i]? <;> rfl

theorem off_succ (ws : List Nat) {i : Nat} (h : i < ws.length) : off ws (i + 1) = off ws i + wd ws i := by
  unfold off wd
  rw [take_snoc ws i h 0, List.sum_append]; simp

theorem off_mono (ws : List Nat) : ∀ {i j : Nat}, i ≤ j → j ≤ ws.length → off ws i ≤ off ws j
  | i, 0, h, _ => by obtain rfl : i = 0 := by omega
                     exact Nat.le_refl _
  | i, j + 1, h, hj => by
    by_cases e : i = j + 1
    · rw [e]; exact Nat.le_refl _
    · have := off_mono ws (show i ≤ j by omega) (by omega)
      rw [off_succ ws (by omega)]
      omega

theorem off_all (ws : List Nat) : off ws ws.length = ws.sum := by unfold off; rw [List.take_length]

theorem off_lt (ws : List Nat) {i : Nat} (h : i < ws.length) : off ws i + wd ws i ≤ ws.sum := by
  rw [← off_succ ws h, ← off_all]; exact off_mono ws (by omega) (Nat.le_refl _)

structure Wr (ws : List Nat) (v : Nat → Nat) (n i j : Nat) (b : List Int) : Prop where
  bytes : Bytes b
  len : b.length = n
  done : ∀ f, f < i → ∀ q, q < wd ws f → bit b (off ws f + q) = v f / 2 ^ (wd ws f - 1 - q) % 2
  part : ∀ q, q < j → bit b (off ws i + q) = v i / 2 ^ (wd ws i - 1 - q) % 2
  rest : ∀ p, off ws i + j ≤ p → bit b p = 0

theorem Wr.step {ws : List Nat} {v : Nat → Nat} {n i j : Nat} {b : List Int} (h : Wr ws v n i j b) (hn : ws.sum ≤ 8 * n) (hi : i < ws.length) (hj : j < wd ws i) : Wr ws v n i (j + 1) (put b (off ws i + j) (v i / 2 ^ (wd ws i - 1 - j) % 2)) := by
  have ha := off_lt ws hi
  obtain ⟨h1, h2, h3⟩ := put_ok h.bytes (p := off ws i + j) (c := v i / 2 ^ (wd ws i - 1 - j) % 2) (by rw [h.len]; omega) (Nat.mod_lt _ (by omega)) (h.rest _ (Nat.le_refl _))
  refine ⟨h1, h2.trans h.len, fun f hf q hq => ?_, fun q hq => ?_, fun p hp => ?_⟩
  · have h4 := off_succ ws (i := f) (by omega)
    have h5 := off_mono ws (show f + 1 ≤ i by omega) (by omega)
    rw [h3, if_neg (by omega)]; exact h.done f hf q hq
  · rw [h3]
    by_cases e : q = j
    · subst e; rw [if_pos rfl]
    · rw [if_neg (by omega)]; exact h.part q (by omega)
  · rw [h3, if_neg (by omega)]; exact h.rest p (by omega)

theorem Wr.next {ws : List Nat} {v : Nat → Nat} {n i : Nat} {b : List Int} (h : Wr ws v n i (wd ws i) b) (hi : i < ws.length) : Wr ws v n (i + 1) 0 b := by
  refine ⟨h.bytes, h.len, fun f hf q hq => ?_, fun q hq => by omega, fun p hp => h.rest p (by rw [off_succ ws hi] at hp; omega)⟩
  by_cases e : f = i
  · subst e; exact h.part q hq
  · exact h.done f (by omega) q hq

theorem bit_zero (n p : Nat) : bit (List.replicate n 0) p = 0 := by
  unfold bit
  have : (List.replicate n (0 : Int)).getD (p / 8) 0 = 0 := by
    rw [List.getD_eq_getElem?_getD, List.getElem?_replicate]
    split <;> rfl
  rw [this]; simp

theorem Wr.start (ws : List Nat) (v : Nat → Nat) (n : Nat) : Wr ws v n 0 0 (List.replicate n 0) :=
  ⟨Bytes.zeros n, by simp, fun f hf => by omega, fun q hq => by omega, fun p _ => bit_zero n p⟩

def flat (v : Nat → Nat) : List Nat → Nat → List Int
  | [], _ => []
  | w :: ws, i => be (v i) (w / 8) ++ flat v ws (i + 1)

theorem flat_len (v : Nat → Nat) : ∀ (ws : List Nat) (i : Nat), (∀ w ∈ ws, w % 8 = 0) → 8 * (flat v ws i).length = ws.sum
  | [], _, _ => rfl
  | w :: ws, i, h => by
    have := flat_len v ws (i + 1) fun x hx => h x (List.mem_cons_of_mem _ hx)
    have := h w List.mem_cons_self
    simp only [flat, List.length_append, be_len, List.sum_cons]
    omega

theorem flat_bytes (v : Nat → Nat) : ∀ (ws : List Nat) (i : Nat), Bytes (flat v ws i)
  | [], _ => Bytes.nil
  | w :: ws, i => (be_bytes _ _).app (flat_bytes v ws (i + 1))

theorem flat_bit (v : Nat → Nat) : ∀ (ws : List Nat) (i : Nat), (∀ w ∈ ws, w % 8 = 0) → ∀ f, f < ws.length → ∀ q, q < wd ws f → bit (flat v ws i) (off ws f + q) = v (i + f) / 2 ^ (wd ws f - 1 - q) % 2
  | [], _, _, f, hf, _, _ => by simp at hf
  | w :: ws, i, h, f, hf, q, hq => by
    have hw := h w List.mem_cons_self
    have hl : 8 * (be (v i) (w / 8)).length = w := by rw [be_len]; omega
    rcases f with _ | f
    · have e1 : off (w :: ws) 0 = 0 := rfl
      have e2 : wd (w :: ws) 0 = w := rfl
      rw [e2] at hq
      rw [e1, e2, Nat.zero_add, flat, bit_app_l _ _ _ (by omega), be_bit _ _ _ (by omega), Nat.add_zero, show 8 * (w / 8) = w by omega]
    · have e1 : off (w :: ws) (f + 1) = w + off ws f := by unfold off; simp
      have e2 : wd (w :: ws) (f + 1) = wd ws f := rfl
      rw [e2] at hq
      have := flat_bit v ws (i + 1) (fun x hx => h x (List.mem_cons_of_mem _ hx)) f (by simpa using hf) q hq
      rw [e1, e2, flat, show w + off ws f + q = 8 * (be (v i) (w / 8)).length + (off ws f + q) by omega, bit_app_r, this, show i + 1 + f = i + (f + 1) by omega]

theorem field : ∀ (ws : List Nat) (p : Nat), p < ws.sum → ∃ f, f < ws.length ∧ ∃ q, q < wd ws f ∧ p = off ws f + q
  | [], p, h => by simp at h
  | w :: ws, p, h => by
    by_cases hp : p < w
    · exact ⟨0, by simp, p, hp, by simp [off]⟩
    · obtain ⟨f, hf, q, hq, e⟩ := field ws (p - w) (by simp at h; omega)
      exact ⟨f + 1, by simp; omega, q, hq, by unfold off at e ⊢; simp; omega⟩

theorem Wr.flat {ws : List Nat} {v : Nat → Nat} {n : Nat} {b : List Int} (h : Wr ws v n ws.length 0 b) (hn : ws.sum = 8 * n) (h8 : ∀ w ∈ ws, w % 8 = 0) : b = flat v ws 0 := by
  have hl := flat_len v ws 0 h8
  refine bits_eq h.bytes (flat_bytes v ws 0) (by rw [h.len]; omega) fun p hp => ?_
  rw [h.len] at hp
  obtain ⟨f, hf, q, hq, rfl⟩ := field ws p (by omega)
  rw [h.done f hf q hq, flat_bit v ws 0 h8 f hf q hq, Nat.zero_add]
end Go.Proofs.Ytjleeabhpfmhaaa
end

section
namespace Go.Proofs.Ytjleeabhpfmhaaa
open Go Go.Proofs.AM

structure Wok (ws : List Nat) (n : Nat) : Prop where
  sum : ws.sum = 8 * n
  pos : ∀ w ∈ ws, 1 ≤ w ∧ w ≤ 64 ∧ w % 8 = 0
  small : n ≤ 1000
  len : ws.length ≤ 64

theorem Wok.wd {ws : List Nat} {n : Nat} (h : Wok ws n) {i : Nat} (hi : i < ws.length) : 1 ≤ wd ws i ∧ wd ws i ≤ 64 ∧ wd ws i % 8 = 0 := h.pos _ (getD_mem hi)

theorem m69_ok {ws : List Nat} {n : Nat} (h : Wok ws n) : m69 (wl ws, ()) = some ((n : Int), (0, ())) := by
  apply ok_eq
  unfold m69
  dsimp only
  have hl := wl_len ws
  have h1 := h.len
  have h2 := h.small
  have h3 := h.sum
  refine Ok.cond (fun hc => absurd hc (by omega)) (fun _ => ?_)
  refine Ok.bind (S := fun r => r = .inl ((8 * n : Nat) : Int)) ?_ (fun r hr => ?_)
  · refine Ok.loop ws.length (fun i x => x = (((off ws i : Nat) : Int), (i : Int))) rfl ?_
    rintro i x hi rfl
    refine Ok.cond (fun hc => ?_) (fun hc => ?_)
    · have hi' : i < ws.length := by simp only at hc; omega
      have hw := h.wd hi'
      have ho := off_lt ws hi'
      have hs := off_succ ws hi'
      simp only [wl_get, Int.toNat_natCast]
      refine Ok.gd (by omega) (Ok.gd (by omega) (Ok.cond (fun h => absurd h (by omega)) (fun _ => Ok.gd (by omega) (Ok.gd (by omega) (Ok.cond (fun h => absurd h (by omega)) (fun _ => Ok.gd (by omega) (Ok.gd (by omega) (Ok.inl ⟨hi', ?_⟩))))))))
      rw [wsucc (by omega), wrap64 (by omega) (by omega), hs]; push_cast; rfl
    · obtain rfl : i = ws.length := by simp only at hc; omega
      exact Ok.inr (by rw [off_all, h3])
  · subst hr
    refine Ok.some ?_
    have e1 : IntKind.wrap .i64 (((8 * n : Nat) : Int) + 7) = ((8 * n + 7 : Nat) : Int) := by rw [wrap64 (by omega) (by omega)]; push_cast; rfl
    rw [e1, tdiv8, wrap64 (by omega) (by omega), show (8 * n + 7) / 8 = n by omega]

def us (b : List Int) (ws : List Nat) (i : Nat) : List Int := (List.range i).map fun j => ((un b (off ws j) (wd ws j) : Nat) : Int)

def vl (ws : List Nat) (v : Nat → Nat) : List Int := (List.range ws.length).map fun j => ((v j : Nat) : Int)
theorem vl_len (ws : List Nat) (v : Nat → Nat) : (vl ws v).length = ws.length := by simp [vl]
theorem vl_get (ws : List Nat) (v : Nat → Nat) {i : Nat} (h : i < ws.length) : (vl ws v).getD i 0 = ((v i : Nat) : Int) := by
  unfold vl
  rw [List.getD_eq_getElem?_getD, List.getElem?_map, List.getElem?_range h]; rfl

theorem m48_ok {ws : List Nat} {n : Nat} (h : Wok ws n) (v : Nat → Nat) (hv : ∀ i, i < ws.length → v i < 2 ^ wd ws i) : m48 (wl ws, (vl ws v, ())) = some (flat v ws 0, (0, ())) := by
  apply ok_eq
  unfold m48
  rw [m69_ok h]
  have hl := wl_len ws
  have h1 := h.len
  have h2 := h.small
  have h3 := h.sum
  dsimp only [Option.bind_some]
  have hvl := vl_len ws v
  refine Ok.ncond (fun h => absurd rfl h) (fun _ => Ok.ncond (fun h => absurd (by rw [hl, hvl]) h) (fun _ => ?_))
  refine Ok.gd (by omega) (Ok.gd (by omega) (Ok.gd (by omega) ?_))
  refine Ok.bind (S := fun r => ∃ b, r = .inl b ∧ Wr ws v n ws.length 0 b) ?_ (fun r hr => ?_)
  rotate_left
  · obtain ⟨b, rfl, hb⟩ := hr
    exact Ok.some (by rw [hb.flat h3 fun w hw => (h.pos w hw).2.2])
  refine Ok.loop ws.length (fun i x => ∃ b, x = (((off ws i : Nat) : Int), ((i : Int), b)) ∧ Wr ws v n i 0 b) ⟨_, rfl, Wr.start ws v n⟩ ?_
  rintro i x hi ⟨b, rfl, hb⟩
  refine Ok.cond (fun hc => ?_) (fun hc => ?_)
  rotate_left
  · obtain rfl : i = ws.length := by simp only at hc; omega
    exact Ok.inr ⟨b, rfl, hb⟩
  have hi5 : i < ws.length := by simp only at hc; omega
  have hw := h.wd hi5
  have ha := off_lt ws hi5
  have hvi := hv i hi5
  have hwu : IntKind.wrap .u64 ((wd ws i : Nat) : Int) = ((wd ws i : Nat) : Int) := wrapU64 (by omega) (by omega)
  have hv64 : v i < 18446744073709551616 := Nat.lt_of_lt_of_le hvi (Nat.le_trans (Nat.pow_le_pow_right (by omega) hw.2.1) (by decide))
  simp only [Int.toNat_natCast, wl_get, vl_get ws v hi5]
  have inner : ∀ T : (Int × List Int) → Prop, (∀ r, (∃ c, r = (((off ws i + wd ws i : Nat) : Int), c) ∧ Wr ws v n i (wd ws i) c) → T r) → Ok (loopM (X := (Int × (Int × (List Int)))) (E := (Int × (List Int))) (fun (x3 : (Int × (Int × (List Int)))) =>
      bif (decide (x3.2.1 ≥ (0 : Int))) then
        (gd ((0 : Int) ≤ (Go.IntKind.wrap .i64 (Int.tdiv x3.1 (8 : Int)))) (gd ((Go.IntKind.wrap .i64 (Int.tdiv x3.1 (8 : Int))) < (((List.length x3.2.2) : Nat) : Int)) (gd ((Int.toNat (Go.IntKind.wrap .i64 (Int.tdiv x3.1 (8 : Int)))) < (List.length x3.2.2)) (gd ((0 : Int) ≤ (i : Int)) (gd ((i : Int) < (((List.length (vl ws v)) : Nat) : Int)) (gd ((0 : Int) ≤ (Go.IntKind.wrap .u64 x3.2.1)) (gd ((0 : Int) ≤ (Go.IntKind.wrap .u64 (Go.IntKind.wrap .i64 ((7 : Int) - (Int.tmod x3.1 (8 : Int)))))) (gd ((0 : Int) ≤ (Go.IntKind.wrap .i64 (Int.tdiv x3.1 (8 : Int)))) (gd ((Go.IntKind.wrap .i64 (Int.tdiv x3.1 (8 : Int))) < (((List.length x3.2.2) : Nat) : Int)) (gd ((Int.toNat (Go.IntKind.wrap .i64 (Int.tdiv x3.1 (8 : Int)))) < (List.length x3.2.2)) (some (Sum.inl ((Go.IntKind.wrap .i64 (x3.1 + (1 : Int))), ((Go.IntKind.wrap .i64 (x3.2.1 - (1 : Int))), (List.set x3.2.2 (Int.toNat (Go.IntKind.wrap .i64 (Int.tdiv x3.1 (8 : Int)))) (ior .u8 (List.getD x3.2.2 (Int.toNat (Go.IntKind.wrap .i64 (Int.tdiv x3.1 (8 : Int)))) (0 : Int)) (ishl .u8 (Go.IntKind.wrap .u8 (iand .u64 (ishr .u64 ((v i : Nat) : Int) (Go.IntKind.wrap .u64 x3.2.1)) (1 : Int))) (Go.IntKind.wrap .u64 (Go.IntKind.wrap .i64 ((7 : Int) - (Int.tmod x3.1 (8 : Int))))))))))))))))))))))
      else
        (some (Sum.inr (x3.1, x3.2.2)))) (((off ws i : Nat) : Int), ((Go.IntKind.wrap .i64 (((wd ws i : Nat) : Int) - (1 : Int))), b))) T := by
    intro T hT
    refine Ok.loop (wd ws i) (fun j x => ∃ c, x = (((off ws i + j : Nat) : Int), (((wd ws i : Nat) : Int) - 1 - (j : Int), c)) ∧ Wr ws v n i j c) ⟨b, ?_, hb⟩ ?_
    · rw [wrap64 (by omega) (by omega)]; simp
    rintro j x hj ⟨c, rfl, hcw⟩
    refine Ok.cond (fun hc => ?_) (fun hc => ?_)
    rotate_left
    · obtain rfl : j = wd ws i := by simp only at hc; omega
      exact Ok.inr (hT _ ⟨c, rfl, hcw⟩)
    have hjw : j < wd ws i := by simp only at hc; omega
    have hk : ((wd ws i : Nat) : Int) - 1 - (j : Int) = ((wd ws i - 1 - j : Nat) : Int) := by omega
    have hku : IntKind.wrap .u64 ((wd ws i - 1 - j : Nat) : Int) = ((wd ws i - 1 - j : Nat) : Int) := wrapU64 (by omega) (by omega)
    have h7 : IntKind.wrap .u64 ((7 - (off ws i + j) % 8 : Nat) : Int) = ((7 - (off ws i + j) % 8 : Nat) : Int) := wrapU64 (by omega) (by omega)
    have hlen := hcw.len
    have hdl : v i / 2 ^ (wd ws i - 1 - j) < 18446744073709551616 := Nat.lt_of_le_of_lt (Nat.div_le_self _ _) hv64
    have hw8 : ∀ n : Nat, IntKind.wrap .u8 ((n % 2 : Nat) : Int) = ((n % 2 : Nat) : Int) := by
      intro n
      rcases Nat.mod_two_eq_zero_or_one n with e | e <;> rw [e] <;> rfl
    simp only [hk]
    rw [wp (by omega), wq, h7, hku, shr64 _ _ (by omega), and64 _ hdl, hw8]
    simp only [Int.toNat_natCast]
    refine Ok.gd (by omega) (Ok.gd (by omega) (Ok.gd (by omega) (Ok.gd (by omega) (Ok.gd (by omega) (Ok.gd (by omega) (Ok.gd (by omega) (Ok.gd (by omega) (Ok.gd (by omega) (Ok.gd (by omega) (Ok.inl ⟨by omega, ?_⟩))))))))))
    refine ⟨_, ?_, hcw.step (by omega) hi5 hjw⟩
    rw [wsucc (by omega), wrap64 (n := ((wd ws i - 1 - j : Nat) : Int) - 1) (by omega) (by omega)]
    refine Prod.ext rfl (Prod.ext ?_ rfl)
    show ((wd ws i - 1 - j : Nat) : Int) - 1 = _
    push_cast
    omega
  refine Ok.gd (by omega) (Ok.gd (by omega) (Ok.cond (fun hlt => ?_) (fun hge => ?_)))
  · rw [hwu, shr64 _ _ hw.2.1, Nat.div_eq_of_lt hvi]
    refine Ok.gd (by omega) (Ok.gd (by omega) (Ok.gd (by omega) (Ok.gd (by omega) (Ok.gd (by omega) (Ok.ncond (fun h => absurd rfl h) (fun _ => Ok.gd (by omega) (Ok.gd (by omega) ?_)))))))
    refine Ok.bind (inner _ fun r hr => hr) (fun r hr => ?_)
    obtain ⟨c, rfl, hc2⟩ := hr
    refine Ok.inl ⟨by omega, c, ?_, hc2.next hi5⟩
    rw [wsucc (by omega), off_succ ws hi5]
  · refine Ok.gd (by omega) (Ok.gd (by omega) ?_)
    refine Ok.bind (inner _ fun r hr => hr) (fun r hr => ?_)
    obtain ⟨c, rfl, hc2⟩ := hr
    refine Ok.inl ⟨by omega, c, ?_, hc2.next hi5⟩
    rw [wsucc (by omega), off_succ ws hi5]
end Go.Proofs.Ytjleeabhpfmhaaa
end

section
namespace Go.Proofs.Ytjleeabhpfmhaaa
open Go Go.Proofs.AM

theorem m61_ok (b : List Int) (n k : Nat) (hk : k ≤ 8) (hb : b.length ≤ 1000000) : m61 (b, ((n : Int), ((k : Int), ()))) = some (b ++ be n k) := by
  apply ok_eq
  unfold m61
  dsimp only
  refine Ok.bind (S := fun r => r = b ++ be n k) ?_ (fun r hr => Ok.some hr)
  have e0 : IntKind.wrap .i64 ((k : Int) - 1) = (k : Int) - 1 := wrap64 (by omega) (by omega)
  refine Ok.loop k (fun i x => ∃ c, x = (c, (k : Int) - 1 - (i : Int)) ∧ c ++ be n (k - i) = b ++ be n k ∧ c.length = b.length + i) ⟨b, by rw [e0]; simp, rfl, rfl⟩ ?_
  rintro i x hi ⟨c, rfl, hc, hl⟩
  refine Ok.cond (fun h => ?_) (fun h => ?_)
  rotate_left
  · simp only at h
    obtain rfl : i = k := by omega
    refine Ok.inr ?_
    have : i - i = 0 := by omega
    rw [this] at hc
    rw [← hc]; simp [be]
  simp only at h
  obtain ⟨m, hm⟩ : ∃ m, k - i = m + 1 := ⟨k - i - 1, by omega⟩
  have hk1 : (k : Int) - 1 - (i : Int) = (m : Int) := by omega
  have e8 : IntKind.wrap .i64 ((8 : Int) * (m : Int)) = ((8 * m : Nat) : Int) := by rw [wrap64 (by omega) (by omega)]; push_cast; rfl
  rw [hk1, e8, shr64 _ _ (by omega), wrap8]
  simp only [List.length_cons, List.length_nil]
  refine Ok.gd (by omega) (Ok.gd (by omega) (Ok.gd (by omega) (Ok.inl ⟨by omega, c ++ [((n / 2 ^ (8 * m) % 256 : Nat) : Int)], ?_, ?_, by simp; omega⟩)))
  · rw [wrap64 (by omega) (by omega)]
    refine Prod.ext rfl ?_
    show (m : Int) - 1 = (k : Int) - 1 - ((i + 1 : Nat) : Int)
    omega
  · rw [← hc, hm, show k - (i + 1) = m by omega, be, List.append_assoc]; rfl

theorem m35_ok (b : List Int) (hb : Bytes b) (k : Nat) (hk : k ≤ 8) (hl : k ≤ b.length) : m35 (b, ((k : Int), ())) = some (((val (b.take k) : Nat) : Int), (b.drop k, ())) := by
  apply ok_eq
  unfold m35
  dsimp only
  have e1 : List.take (Int.toNat (k : Int) - Int.toNat 0) (List.drop (Int.toNat 0) b) = b.take k := rfl
  have e2 : List.take (Int.toNat ((b.length : Nat) : Int) - Int.toNat (k : Int)) (List.drop (Int.toNat (k : Int)) b) = b.drop k := by
    rw [Int.toNat_natCast, Int.toNat_natCast]
    exact List.take_of_length_le (by simp)
  simp only [e1, e2]
  have hlen : (b.take k).length = k := by rw [List.length_take]; omega
  have hbt := hb.take k
  refine Ok.gd (by omega) (Ok.gd (by omega) (Ok.bind (S := fun r => r = ((val (b.take k) : Nat) : Int)) ?_ (fun r hr => Ok.gd (by omega) (Ok.gd (by omega) (Ok.gd (by omega) (Ok.some (by rw [hr])))))))
  generalize b.take k = l at *
  refine Ok.loop k (fun i x => x = (((val (l.take i) : Nat) : Int), (i : Int))) rfl ?_
  rintro i x hi rfl
  refine Ok.cond (fun h => ?_) (fun h => ?_)
  rotate_left
  · simp only at h
    obtain rfl : i = k := by omega
    refine Ok.inr ?_
    rw [List.take_of_length_le (by omega)]
  simp only at h
  refine Ok.gd (by omega) (Ok.gd (by omega) (Ok.inl ⟨by omega, ?_⟩))
  simp only [Int.toNat_natCast]
  have hi' : i < l.length := by omega
  obtain ⟨g0, g1⟩ := hbt _ (getD_mem (z := 0) hi')
  obtain ⟨m, hm⟩ : ∃ m : Nat, l.getD i 0 = m := ⟨(l.getD i 0).toNat, by omega⟩
  have hv := val_lt (l.take i) (hbt.take i)
  have hv2 := val_lt (l.take (i + 1)) (hbt.take (i + 1))
  have hs := take_snoc l i hi' 0
  rw [hs, val_snoc, hm, Int.toNat_natCast] at hv2
  have hp : 2 ^ (8 * (l.take i ++ [(m : Int)]).length) ≤ 2 ^ 64 := Nat.pow_le_pow_right (by omega) (by simp; omega)
  rw [hm, wrapU64 (n := (m : Int)) (by omega) (by omega), ioru8 _ _ (by omega) (by omega), hs, val_snoc, hm, Int.toNat_natCast, wsucc (by omega)]

theorem m60_ok (b : List Int) (n : Nat) (h : b.length ≤ n) (hn : n ≤ 1000000) : m60 (b, ((n : Int), ())) = some (b ++ List.replicate (n - b.length) 0) := by
  unfold m60
  have e : IntKind.wrap .i64 ((n : Int) - ((b.length : Nat) : Int)) = ((n - b.length : Nat) : Int) := by rw [wrap64 (by omega) (by omega)]; omega
  simp only [e, Int.toNat_natCast]
  rw [gd_pos (by omega), gd_pos (by simp; omega), gd_pos (by simp; omega)]

theorem m50_ok (b : List Int) (n : Nat) (h : b.length ≤ n) (hn : n ≤ 1000000) : m50 (b, ((n : Int), ())) = some (b ++ List.replicate (n - b.length) 0) := by
  apply ok_eq
  unfold m50
  dsimp only
  refine Ok.bind (S := fun r => r = b ++ List.replicate (n - b.length) 0) ?_ (fun r hr => Ok.some hr)
  refine Ok.loop (n - b.length) (fun i x => x = b ++ List.replicate i 0) (by simp) ?_
  rintro i x hi rfl
  simp only [List.length_append, List.length_replicate, List.length_cons, List.length_nil]
  refine Ok.cond (fun h => ?_) (fun h => ?_)
  · refine Ok.gd (by omega) (Ok.gd (by omega) (Ok.inl ⟨by omega, ?_⟩))
    rw [List.append_assoc, List.replicate_succ']
  · obtain rfl : i = n - b.length := by omega
    exact Ok.inr rfl

def zb (x : Int) : Nat → Nat
  | 0 => 0
  | j + 1 => if iand .u8 (ishr .u8 x (j : Int)) 1 = 0 then zb x j + 1 else zb x j

def Zn (l : List Int) : Nat → Nat
  | 0 => 0
  | i + 1 => Zn l i + zb (l.getD i 0) 8

theorem zb_le (x : Int) : ∀ j, zb x j ≤ j
  | 0 => Nat.le_refl _
  | j + 1 => by unfold zb; have := zb_le x j; split <;> omega

theorem Zn_le (l : List Int) : ∀ i, Zn l i ≤ 8 * i
  | 0 => Nat.le_refl _
  | i + 1 => by unfold Zn; have := Zn_le l i; have := zb_le (l.getD i 0) 8; omega

theorem m92_eq (l : List Int) (hl : l.length ≤ 2000000) : m92 (l, ()) = some (((Zn l l.length : Nat) : Int), ()) := by
  apply ok_eq
  unfold m92
  dsimp only
  refine Ok.bind (S := fun r => r = ((Zn l l.length : Nat) : Int)) ?_ (fun r hr => Ok.some (by rw [hr]))
  refine Ok.loop l.length (fun i x => x = (((Zn l i : Nat) : Int), (i : Int))) rfl ?_
  rintro i x hi rfl
  have hz := Zn_le l i
  refine Ok.cond (fun hc => ?_) (fun hc => ?_)
  rotate_left
  · simp only at hc
    obtain rfl : i = l.length := by omega
    exact Ok.inr rfl
  simp only at hc
  refine Ok.gd (by simp only; omega) (Ok.gd hc (Ok.bind (S := fun r => r = ((Zn l i + zb (l.getD i 0) 8 : Nat) : Int)) ?_ (fun r hr => Ok.inl ⟨by omega, ?_⟩)))
  rotate_left
  · rw [hr, wsucc (by omega)]; rfl
  refine Ok.loop 8 (fun j x => x = (((Zn l i + zb (l.getD i 0) j : Nat) : Int), (j : Int))) rfl ?_
  rintro j x hj rfl
  have hb := zb_le (l.getD i 0) j
  refine Ok.cond (fun hc => ?_) (fun hc => ?_)
  rotate_left
  · simp only at hc
    obtain rfl : j = 8 := by omega
    exact Ok.inr rfl
  simp only at hc
  refine Ok.gd (by simp only; omega) (Ok.cond (fun e => Ok.inl ⟨by omega, ?_⟩) (fun e => Ok.inl ⟨by omega, ?_⟩))
  · simp only [Int.toNat_natCast] at e ⊢
    rw [wsucc (by omega), wsucc (by omega), zb, if_pos e]; rfl
  · simp only [Int.toNat_natCast] at e ⊢
    rw [wsucc (by omega), zb, if_neg e]

theorem m72_eq (l : List Int) (hl : l.length ≤ 2000000) : m72 (l, ()) = some (((Zn l l.length : Nat) : Int), ()) := by
  apply ok_eq
  unfold m72
  dsimp only
  refine Ok.bind (S := fun r => r = ((Zn l l.length : Nat) : Int)) ?_ (fun r hr => Ok.some (by rw [hr]))
  refine Ok.loop l.length (fun i x => x = (((Zn l i : Nat) : Int), (i : Int))) rfl ?_
  rintro i x hi rfl
  have hz := Zn_le l i
  refine Ok.cond (fun hc => ?_) (fun hc => ?_)
  rotate_left
  · simp only at hc
    obtain rfl : i = l.length := by omega
    exact Ok.inr rfl
  simp only at hc
  refine Ok.bind (S := fun r => r = ((Zn l i + zb (l.getD i 0) 8 : Nat) : Int)) ?_ (fun r hr => Ok.inl ⟨by omega, ?_⟩)
  rotate_left
  · rw [hr, wsucc (by omega)]; rfl
  refine Ok.loop 8 (fun j x => x = (((Zn l i + zb (l.getD i 0) j : Nat) : Int), (j : Int))) rfl ?_
  rintro j x hj rfl
  have hb := zb_le (l.getD i 0) j
  refine Ok.cond (fun hc => ?_) (fun hc => ?_)
  rotate_left
  · simp only at hc
    obtain rfl : j = 8 := by omega
    exact Ok.inr rfl
  simp only at hc
  have hwj : IntKind.wrap .u64 (j : Int) = (j : Int) := wrapU64 (by omega) (by omega)
  refine Ok.gd (by simp only; omega) (Ok.gd (by simp only; omega) (Ok.gd (by simp only [hwj]; omega) (Ok.cond (fun e => Ok.inl ⟨by omega, ?_⟩) (fun e => Ok.inl ⟨by omega, ?_⟩))))
  · simp only [Int.toNat_natCast, hwj] at e ⊢
    rw [wsucc (by omega), wsucc (by omega), zb, if_pos e]; rfl
  · simp only [Int.toNat_natCast, hwj] at e ⊢
    rw [wsucc (by omega), zb, if_neg e]

theorem shri (v k : Nat) (hk : k ≤ 64) : ishr .i64 (v : Int) (k : Int) = ((v / 2 ^ k : Nat) : Int) := by
  unfold ishr
  have hb : IntKind.i64.bits = 64 := rfl
  rw [hb, Int.toNat_natCast, Nat.min_eq_left hk]
  rw [Int.fdiv_eq_ediv_of_nonneg _ (by exact_mod_cast Nat.zero_le (2 ^ k)), Int.natCast_ediv]
  push_cast
  rfl

theorem four (z : Nat) : (IntKind.wrap .u8 (ishr .i64 (z : Int) 24)) :: (IntKind.wrap .u8 (ishr .i64 (z : Int) 16)) :: (IntKind.wrap .u8 (ishr .i64 (z : Int) 8)) :: (IntKind.wrap .u8 (z : Int)) :: ([] : List Int) = be z 4 := by
  have e24 := shri z 24 (by omega)
  have e16 := shri z 16 (by omega)
  have e8 := shri z 8 (by omega)
  have f24 : ((24 : Nat) : Int) = 24 := rfl
  have f16 : ((16 : Nat) : Int) = 16 := rfl
  have f8 : ((8 : Nat) : Int) = 8 := rfl
  rw [f24] at e24
  rw [f16] at e16
  rw [f8] at e8
  rw [e24, e16, e8, wrap8, wrap8, wrap8, wrap8]
  simp [be]

def sealed (l : List Int) : List Int := l ++ be (Zn l l.length) 4

theorem m80_ok (a b : List Int) (ha : a.length ≤ 2000000) (hb : b.length ≤ 2000000) : m80 ([a, b], ()) = some (a ++ b, ()) := by
  apply ok_eq
  unfold m80
  dsimp only
  have hw1 : IntKind.wrap .i64 ((0 : Int) + ((a.length : Nat) : Int)) = ((a.length : Nat) : Int) := by rw [wrap64 (by omega) (by omega)]; omega
  have hw2 : IntKind.wrap .i64 (((a.length : Nat) : Int) + ((b.length : Nat) : Int)) = ((a.length + b.length : Nat) : Int) := by rw [wrap64 (by omega) (by omega)]; push_cast; rfl
  refine Ok.bind (S := fun r => r = ((a.length + b.length : Nat) : Int)) ?_ (fun r hr => ?_)
  · refine Ok.loop 2 (fun i x => (i = 0 ∧ x = ((0 : Int), (0 : Int))) ∨ (i = 1 ∧ x = (((a.length : Nat) : Int), 1)) ∨ (i = 2 ∧ x = (((a.length + b.length : Nat) : Int), 2))) (.inl ⟨rfl, rfl⟩) ?_
    rintro i x hi (⟨rfl, rfl⟩ | ⟨rfl, rfl⟩ | ⟨rfl, rfl⟩)
    · refine Ok.cond (fun _ => Ok.gd (by simp) (Ok.gd (by simp) (Ok.cond (fun h => absurd h ?_) (fun _ => Ok.inl ⟨by omega, .inr (.inl ⟨rfl, ?_⟩)⟩)))) (fun h => absurd (by simp) h)
      · show ¬ IntKind.wrap .i64 ((0 : Int) + ((a.length : Nat) : Int)) < 0
        rw [hw1]; omega
      · show (IntKind.wrap .i64 ((0 : Int) + ((a.length : Nat) : Int)), _) = _
        rw [hw1]; rfl
    · refine Ok.cond (fun _ => Ok.gd (by simp) (Ok.gd (by simp) (Ok.cond (fun h => absurd h ?_) (fun _ => Ok.inl ⟨by omega, .inr (.inr ⟨rfl, ?_⟩)⟩)))) (fun h => absurd (by simp) h)
      · show ¬ IntKind.wrap .i64 (((a.length : Nat) : Int) + ((b.length : Nat) : Int)) < 0
        rw [hw2]; omega
      · show (IntKind.wrap .i64 (((a.length : Nat) : Int) + ((b.length : Nat) : Int)), _) = _
        rw [hw2]; rfl
    · exact Ok.cond (fun h => absurd h (by simp)) (fun _ => Ok.inr rfl)
  subst hr
  refine Ok.bind (S := fun _ => True) (Ok.gd (by omega) (Ok.gd (by omega) (Ok.gd (by omega) (Ok.some trivial)))) (fun r _ => ?_)
  refine Ok.bind (S := fun r => r = a ++ b) ?_ (fun r hr => Ok.some (by rw [hr]))
  refine Ok.loop 2 (fun i x => (i = 0 ∧ x = (([] : List Int), (0 : Int))) ∨ (i = 1 ∧ x = (a, 1)) ∨ (i = 2 ∧ x = (a ++ b, 2))) (.inl ⟨rfl, rfl⟩) ?_
  rintro i x hi (⟨rfl, rfl⟩ | ⟨rfl, rfl⟩ | ⟨rfl, rfl⟩)
  · refine Ok.cond (fun _ => Ok.gd (by simp) (Ok.gd (by simp) (Ok.gd ?_ (Ok.gd ?_ (Ok.inl ⟨by omega, .inr (.inl ⟨rfl, rfl⟩)⟩))))) (fun h => absurd (by simp) h)
    · show ((([] : List Int).length + a.length) * 1) ≤ 140737488355328
      simp; omega
    · show (([] : List Int).length + a.length) ≤ 140737488355328
      simp; omega
  · refine Ok.cond (fun _ => Ok.gd (by simp) (Ok.gd (by simp) (Ok.gd ?_ (Ok.gd ?_ (Ok.inl ⟨by omega, .inr (.inr ⟨rfl, rfl⟩)⟩))))) (fun h => absurd (by simp) h)
    · show ((a.length + b.length) * 1) ≤ 140737488355328
      omega
    · show (a.length + b.length) ≤ 140737488355328
      omega
  · exact Ok.cond (fun h => absurd h (by simp)) (fun _ => Ok.inr rfl)

theorem m81_ok (l : List Int) (hl : l.length ≤ 1048576) : m81 (l, ()) = some (be (Zn l l.length) 4, ()) := by
  unfold m81
  rw [m92_eq l (by omega)]
  simp only [Option.bind_some]
  rw [four]

theorem m59_ok (l : List Int) (hl : l.length ≤ 1048576) : m59 (l, ()) = some (sealed l, (0, ())) := by
  unfold m59
  have h : ¬ (((List.length l : Nat) : Int) > 1048576) := by omega
  simp only [decide_eq_false h, cond_false]
  rw [m81_ok l hl]
  simp only [Option.bind_some]
  rw [m80_ok _ _ (by omega) (by rw [be_len]; omega)]
  rfl

theorem m49_ok (l : List Int) (hl : l.length ≤ 1048576) : m49 (l, ()) = some (sealed l, (0, ())) := by
  unfold m49
  have h : ¬ (((List.length l : Nat) : Int) > 1048576) := by omega
  simp only [decide_eq_false h, cond_false]
  rw [m72_eq l (by omega)]
  simp only [Option.bind_some, List.nil_append, four, be_len, List.length_nil]
  rw [gd_pos (by omega), gd_pos (by omega), gd_pos (by omega), gd_pos (by omega)]
  rfl
end Go.Proofs.Ytjleeabhpfmhaaa
end

section
namespace Go.Proofs.Ytjleeabhpfmhaaa
open Go Go.Proofs.AM

theorem streq_iff (a b : ByteArray) : streq a b = true ↔ a = b := by
  obtain ⟨a⟩ := a
  obtain ⟨b⟩ := b
  show (a == b) = true ↔ _
  rw [beq_iff_eq]
  simp

theorem ofNums_inj {a b : List Int} (ha : Bytes a) (hb : Bytes b) : streq (strOfNums a) (strOfNums b) = true ↔ a = b := by
  constructor
  · intro h
    have h2 : strOfNums a = strOfNums b := (streq_iff _ _).1 h
    have h3 : (strOfNums a).data.toList = (strOfNums b).data.toList := by rw [h2]
    rw [strOfNums_data, strOfNums_data] at h3
    have hl : a.length = b.length := by have := congrArg List.length h3; simpa using this
    apply List.ext_getElem hl
    intro i i1 i2
    have h4 : (a.map fun n => UInt8.ofNat n.toNat)[i]'(by simpa using i1) = (b.map fun n => UInt8.ofNat n.toNat)[i]'(by simpa using i2) := by simp only [h3]
    rw [List.getElem_map, List.getElem_map] at h4
    have h5 := congrArg UInt8.toNat h4
    obtain ⟨a0, a1⟩ := ha _ (List.getElem_mem i1)
    obtain ⟨b0, b1⟩ := hb _ (List.getElem_mem i2)
    simp only [UInt8.toNat_ofNat'] at h5
    omega
  · rintro rfl; exact (streq_iff _ _).2 rfl

def Seal (l : List Int) : Prop :=
  4 ≤ l.length ∧ l.length ≤ 1048580 ∧ (¬ ∀ i, i < l.length → l.getD i 0 = 255) ∧ val (l.drop (l.length - 4)) = Zn (l.take (l.length - 4)) (l.length - 4)

def sup (s q : Nat) : List Int := be 1397508656 4 ++ be s 4 ++ be q 8 ++ List.replicate 236 0
def supF (s q : Nat) : List Int := sealed (sup s q)

theorem sup_len (s q : Nat) : (sup s q).length = 252 := by simp [sup, be_len]
theorem sup_bytes (s q : Nat) : Bytes (sup s q) := (((be_bytes _ _).app (be_bytes _ _)).app (be_bytes _ _)).app (Bytes.zeros _)
theorem sealed_len (l : List Int) : (sealed l).length = l.length + 4 := by simp [sealed, be_len]
theorem sealed_bytes {l : List Int} (h : Bytes l) : Bytes (sealed l) := h.app (be_bytes _ _)

def okS (s q : Int) : Prop := 0 ≤ s ∧ s < 64 ∧ 1 ≤ q ∧ q ≤ 281474976710656
instance (s q : Int) : Decidable (okS s q) := by unfold okS; exact inferInstance

theorem m58_ok (q : Int) : m58 (q, ()) = some (decide (1 ≤ q ∧ q ≤ 281474976710656), ()) := by
  unfold m58
  dsimp only
  by_cases h : q ≥ 1
  · rw [decide_eq_true h, cond_true]
    have : decide (q ≤ 281474976710656) = decide (1 ≤ q ∧ q ≤ 281474976710656) := by
      apply decide_eq_decide.2; constructor
      · intro h2; exact ⟨h, h2⟩
      · intro h2; exact h2.2
    rw [this]
  · rw [decide_eq_false h, cond_false, decide_eq_false (fun h2 => h h2.1)]

theorem m36_ok (s q : Int) : m36 ((s, q), ()) = some (if okS s q then (supF s.toNat q.toNat, (0, ())) else ([], (1, ()))) := by
  apply ok_eq
  unfold m36
  dsimp only
  refine Ok.cond (fun h => Ok.some ?_) (fun h1 => Ok.cond (fun h => Ok.some ?_) (fun h2 => ?_))
  · rw [if_neg (fun h2 => by have := h2.1; omega)]
  · rw [if_neg (fun h2 => by have := h2.2.1; omega)]
  rw [m58_ok]
  simp only [Option.bind_some]
  refine Ok.ncond (fun h => Ok.some ?_) (fun h3 => ?_)
  · rw [if_neg (fun h2 => h ⟨h2.2.2.1, h2.2.2.2⟩)]
  have hok : okS s q := ⟨by omega, by omega, h3.1, h3.2⟩
  rw [if_pos hok]
  obtain ⟨s, rfl⟩ : ∃ n : Nat, s = n := ⟨s.toNat, by omega⟩
  obtain ⟨q, rfl⟩ : ∃ n : Nat, q = n := ⟨q.toNat, by omega⟩
  have a1 := m61_ok [] 1397508656 4 (by omega) (by simp)
  have a2 := m61_ok ([] ++ be 1397508656 4) s 4 (by omega) (by simp [be_len])
  have a3 := m61_ok ([] ++ be 1397508656 4 ++ be s 4) q 8 (by omega) (by simp [be_len])
  have a4 := m60_ok ([] ++ be 1397508656 4 ++ be s 4 ++ be q 8) 252 (by simp [be_len]) (by omega)
  have hsup : [] ++ be 1397508656 4 ++ be s 4 ++ be q 8 ++ List.replicate (252 - ([] ++ be 1397508656 4 ++ be s 4 ++ be q 8).length) 0 = sup s q := by
    simp [sup, be_len]
  rw [hsup] at a4
  have b1 : m61 ([], ((1397508656 : Int), ((4 : Int), ()))) = some ([] ++ be 1397508656 4) := a1
  have b2 : m61 ([] ++ be 1397508656 4, ((s : Int), ((4 : Int), ()))) = some ([] ++ be 1397508656 4 ++ be s 4) := a2
  have b3 : m61 ([] ++ be 1397508656 4 ++ be s 4, ((q : Int), ((8 : Int), ()))) = some ([] ++ be 1397508656 4 ++ be s 4 ++ be q 8) := a3
  have b4 : m60 ([] ++ be 1397508656 4 ++ be s 4 ++ be q 8, ((252 : Int), ())) = some (sup s q) := a4
  rw [wrapU64 (by omega) (by omega), wrapU64 (by omega) (by omega), b1]
  simp only [Option.bind_some]
  rw [b2]
  simp only [Option.bind_some]
  rw [b3]
  simp only [Option.bind_some]
  rw [b4]
  simp only [Option.bind_some]
  rw [m59_ok _ (by rw [sup_len]; omega)]
  exact Ok.some rfl

theorem wok3 : Wok [32, 32, 64] 16 := ⟨by decide, by decide, by decide, by decide⟩

theorem m28_ok (s q : Int) : m28 ((s, q), ()) = some (if okS s q then (supF s.toNat q.toNat, (0, ())) else ([], (1, ()))) := by
  apply ok_eq
  unfold m28
  dsimp only
  refine Ok.cond (fun h => Ok.some ?_) (fun h1 => Ok.cond (fun h => Ok.some ?_) (fun h2 => Ok.cond (fun h => Ok.some ?_) (fun h3 => Ok.cond (fun h => Ok.some ?_) (fun h4 => ?_))))
  · rw [if_neg (fun h2 => by have := h2.1; omega)]
  · rw [if_neg (fun h2 => by have := h2.2.1; omega)]
  · rw [if_neg (fun h2 => by have := h2.2.2.1; omega)]
  · rw [if_neg (fun h2 => by have := h2.2.2.2; omega)]
  have hok : okS s q := ⟨by omega, by omega, by omega, by omega⟩
  rw [if_pos hok]
  obtain ⟨s, rfl⟩ : ∃ n : Nat, s = n := ⟨s.toNat, by omega⟩
  obtain ⟨q, rfl⟩ : ∃ n : Nat, q = n := ⟨q.toNat, by omega⟩
  rw [wrapU64 (by omega) (by omega), wrapU64 (by omega) (by omega)]
  have a1 := m48_ok wok3 (fun i => [1397508656, s, q].getD i 0) (by
    intro i hi
    rcases i with _ | _ | _ | i
    · show 1397508656 < 2 ^ 32; decide
    · show s < 2 ^ 32; omega
    · show q < 2 ^ 64; omega
    · simp at hi; omega)
  have b1 : m48 ([32, 32, 64], ([1397508656, (s : Int), (q : Int)], ())) = some (be 1397508656 4 ++ (be s 4 ++ (be q 8 ++ [])), (0, ())) := a1
  have hl : (be 1397508656 4 ++ (be s 4 ++ (be q 8 ++ []))).length = 16 := by simp [be_len]
  have a2 := m50_ok (be 1397508656 4 ++ (be s 4 ++ (be q 8 ++ []))) 252 (by omega) (by omega)
  rw [hl] at a2
  have e : be 1397508656 4 ++ (be s 4 ++ (be q 8 ++ [])) ++ List.replicate (252 - 16) 0 = sup s q := by simp [sup]
  rw [e] at a2
  have b2 : m50 (be 1397508656 4 ++ (be s 4 ++ (be q 8 ++ [])), ((252 : Int), ())) = some (sup s q) := a2
  rw [b1]
  simp only [Option.bind_some]
  rw [b2]
  simp only [Option.bind_some]
  rw [m49_ok _ (by rw [sup_len]; omega)]
  exact Ok.some rfl

open Classical in
noncomputable def dsup (b : List Int) : (Int × Int) × (Int × Unit) :=
  if b.length = 256 ∧ okS (val ((b.drop 4).take 4)) (val ((b.drop 8).take 8)) ∧ supF (val ((b.drop 4).take 4)) (val ((b.drop 8).take 8)) = b then (((val ((b.drop 4).take 4) : Nat), (val ((b.drop 8).take 8) : Nat)), (0, ())) else ((0, 0), (170, ()))

theorem wrap_neg {n : Nat} (h : 9223372036854775808 ≤ n) (h2 : n < 18446744073709551616) : IntKind.wrap .i64 (n : Int) = (n : Int) - 18446744073709551616 := by
  have e1 : IntKind.bits .i64 = 64 := rfl
  have e2 : IntKind.signed .i64 = true := rfl
  simp only [IntKind.wrap, e1, e2, Bool.true_and, Nat.add_one_sub_one]
  split <;> rename_i h <;> simp at h <;> omega

theorem okS_wrap (s q : Nat) (hq : q < 18446744073709551616) : (okS (s : Int) (IntKind.wrap .i64 (q : Int)) ↔ okS (s : Int) (q : Int)) ∧ (okS (s : Int) (q : Int) → IntKind.wrap .i64 (q : Int) = q) := by
  by_cases h : q < 9223372036854775808
  · have e : IntKind.wrap .i64 (q : Int) = q := wrap64 (by omega) (by omega)
    rw [e]; exact ⟨Iff.rfl, fun _ => rfl⟩
  · have e := wrap_neg (show 9223372036854775808 ≤ q by omega) hq
    rw [e]
    refine ⟨⟨fun h2 => ?_, fun h2 => ?_⟩, fun h2 => ?_⟩
    · have := h2.2.2.1; omega
    · have := h2.2.2.2; omega
    · have := h2.2.2.2; omega

theorem val_lt' {l : List Int} (h : Bytes l) {k : Nat} (hl : l.length ≤ k) : val l < 2 ^ (8 * k) := Nat.lt_of_lt_of_le (val_lt l h) (Nat.pow_le_pow_right (by omega) (by omega))

theorem m23_ok (b : List Int) (hb : Bytes b) : m23 (b, ()) = some (dsup b) := by
  apply ok_eq
  unfold m23
  dsimp only
  refine Ok.ncond (fun h => Ok.some ?_) (fun h => ?_)
  · unfold dsup; rw [if_neg (fun h2 => h (by rw [h2.1]; rfl))]
  have hl : b.length = 256 := by omega
  have e4 : List.take (Int.toNat ((b.length : Nat) : Int) - Int.toNat 4) (List.drop (Int.toNat 4) b) = b.drop 4 := by
    rw [Int.toNat_natCast]
    exact List.take_of_length_le (by simp)
  refine Ok.gd (by omega) (Ok.gd (by omega) ?_)
  rw [e4]
  have a1 : m35 (b.drop 4, ((4 : Int), ())) = some (((val ((b.drop 4).take 4) : Nat) : Int), (b.drop 8, ())) := by
    have := m35_ok (b.drop 4) (hb.drop 4) 4 (by omega) (by simp; omega)
    rw [List.drop_drop] at this
    exact this
  have a2 : m35 (b.drop 8, ((8 : Int), ())) = some (((val ((b.drop 8).take 8) : Nat) : Int), (b.drop 16, ())) := by
    have := m35_ok (b.drop 8) (hb.drop 8) 8 (by omega) (by simp; omega)
    rw [List.drop_drop] at this
    exact this
  rw [a1]
  simp only [Option.bind_some]
  rw [a2]
  simp only [Option.bind_some]
  have v1 := val_lt' ((hb.drop 4).take 4) (k := 4) (by simp; omega)
  have v2 := val_lt' ((hb.drop 8).take 8) (k := 8) (by simp; omega)
  unfold dsup
  generalize val ((b.drop 4).take 4) = s at *
  generalize val ((b.drop 8).take 8) = q at *
  obtain ⟨w1, w2⟩ := okS_wrap s q v2
  rw [wrap64 (n := (s : Int)) (by omega) (by omega), m36_ok]
  simp only [Option.bind_some]
  by_cases hok : okS (s : Int) (q : Int)
  · rw [w2 hok, if_pos hok]
    simp only [Int.toNat_natCast]
    refine Ok.ncond (fun h => (h (by simp)).elim) (fun _ => ?_)
    unfold m37
    simp only [Option.bind_some]
    have hin : streq (strOfNums (supF s q)) (strOfNums b) = true ↔ supF s q = b := ofNums_inj (sealed_bytes (sup_bytes s q)) hb
    refine Ok.condb (fun h => Ok.some ?_) (fun h => Ok.some ?_)
    · rw [if_neg]
      rintro ⟨_, _, h3⟩
      have := hin.2 h3
      rw [this] at h; simp at h
    · rw [if_pos ⟨hl, hok, hin.1 (by simpa using h)⟩]
  · rw [if_neg (fun h => hok (w1.1 h))]
    refine Ok.ncond (fun _ => Ok.some ?_) (fun h => absurd h (by decide))
    rw [if_neg (fun h => hok h.2.1)]

end Go.Proofs.Ytjleeabhpfmhaaa
end

section
namespace Go.Proofs.Ytjleeabhpfmhaaa
open Go Go.Proofs.AM

abbrev JB := Int × (Int × ((List (Int × Bool)) × ((List Int) × Int)))

def isBlk (n : Int) : Prop := 0 ≤ n ∧ n < 8192
instance (n : Int) : Decidable (isBlk n) := by unfold isBlk; exact inferInstance

theorem m75_ok (n : Int) : m75 (n, ()) = some (decide (isBlk n), ()) := by
  unfold m75
  dsimp only
  by_cases h : n ≥ 0
  · rw [decide_eq_true h, cond_true]
    have : decide (n < 8192) = decide (isBlk n) := decide_eq_decide.2 ⟨fun h2 => ⟨h, h2⟩, fun h2 => h2.2⟩
    rw [this]
  · rw [decide_eq_false h, cond_false, decide_eq_false (fun h2 : isBlk n => h h2.1)]

theorem m57_ok (n : Int) : m57 (n, ()) = some (decide (isBlk n), ()) := by
  unfold m57
  dsimp only
  by_cases h : n ≥ 0
  · rw [decide_eq_true h, cond_true]
    have : decide (n < 8192) = decide (isBlk n) := decide_eq_decide.2 ⟨fun h2 => ⟨h, h2⟩, fun h2 => h2.2⟩
    rw [this]
  · rw [decide_eq_false h, cond_false, decide_eq_false (fun h2 : isBlk n => h h2.1)]

def allT (l : List (Int × Bool)) : Prop := ∀ i, i < l.length → isBlk (l.getD i (0, false)).1
def allR (l : List Int) : Prop := ∀ i, i < l.length → isBlk (l.getD i 0)

def plainB (x : JB) : Prop :=
  (1 ≤ x.2.1 ∧ x.2.1 ≤ 281474976710656) ∧
    (if x.1 = 1 then x.2.2.2.1.length = 0 ∧ x.2.2.2.2 = 0 ∧ 1 ≤ x.2.2.1.length ∧ x.2.2.1.length ≤ 48 ∧ allT x.2.2.1
     else if x.1 = 3 then x.2.2.1.length = 0 ∧ x.2.2.2.2 = 0 ∧ 1 ≤ x.2.2.2.1.length ∧ x.2.2.2.1.length ≤ 60 ∧ allR x.2.2.2.1
     else if x.1 = 2 then x.2.2.1.length = 0 ∧ x.2.2.2.1.length = 0 ∧ 1 ≤ x.2.2.2.2 ∧ x.2.2.2.2 ≤ 64 else False)

theorem m82_ok (x : JB) : Ok (m82 (x, ())) (fun r => r.1 = true ↔ plainB x) := by
  obtain ⟨k, q, t, v, c⟩ := x
  unfold m82 plainB
  rw [m58_ok]
  dsimp only [Option.bind_some]
  refine Ok.ncond (fun h => Ok.some ⟨fun h => by simp at h, fun h2 => absurd h2.1 h⟩) (fun hq => ?_)
  refine Ok.cond (fun hk => ?_) (fun hk => Ok.cond (fun hk3 => ?_) (fun hk3 => Ok.cond (fun hk2 => ?_) (fun hk2 => Ok.some ?_)))
  · rw [if_pos hk]
    refine Ok.cond (fun h1 => ?_) (fun h1 => Ok.some ⟨fun h => by simp at h, fun h => by omega⟩)
    refine Ok.cond (fun h2 => ?_) (fun h2 => Ok.some ⟨fun h => by simp at h, fun h => by omega⟩)
    refine Ok.cond (fun h3 => ?_) (fun h3 => Ok.some ⟨fun h => by simp at h, fun h => by omega⟩)
    refine Ok.cond (fun h4 => ?_) (fun h4 => Ok.some ⟨fun h => by simp at h, fun h => by omega⟩)
    refine Ok.bind (S := fun r => (r = .inl () ∧ allT t) ∨ ((∃ i : Nat, r = .inr (i : Int)) ∧ ¬ allT t)) ?_ ?_
    · refine Ok.loop t.length (fun i x => x = (i : Int) ∧ ∀ j, j < i → isBlk (t.getD j (0, false)).1) ⟨rfl, fun j hj => by omega⟩ ?_
      rintro i x hi ⟨rfl, h⟩
      refine Ok.cond (fun hc => ?_) (fun hc => Ok.inr (.inl ⟨rfl, fun j hj => h j (by omega)⟩))
      refine Ok.gd (by omega) (Ok.gd hc ?_)
      rw [m75_ok]
      simp only [Int.toNat_natCast, Option.bind_some]
      refine Ok.ncond (fun hne => Ok.inr (.inr ⟨⟨i, rfl⟩, fun hh => hne (hh i (by omega))⟩)) (fun he => Ok.inl ⟨by omega, wsucc (by omega), fun j hj => ?_⟩)
      by_cases e : j = i
      · subst e; exact he
      · exact h j (by omega)
    · rintro r (⟨rfl, h⟩ | ⟨⟨i, rfl⟩, h⟩)
      · exact Ok.some ⟨fun _ => ⟨hq, by omega, by omega, by omega, by omega, h⟩, fun _ => by simp⟩
      · refine Ok.some ⟨fun e => ?_, fun h2 => absurd h2.2.2.2.2.2 h⟩
        have : ((i : Int) ≥ 0) := by omega
        simp [this] at e
  · rw [if_neg hk, if_pos hk3]
    refine Ok.cond (fun h1 => ?_) (fun h1 => Ok.some ⟨fun h => by simp at h, fun h => by omega⟩)
    refine Ok.cond (fun h2 => ?_) (fun h2 => Ok.some ⟨fun h => by simp at h, fun h => by omega⟩)
    refine Ok.cond (fun h3 => ?_) (fun h3 => Ok.some ⟨fun h => by simp at h, fun h => by omega⟩)
    refine Ok.cond (fun h4 => ?_) (fun h4 => Ok.some ⟨fun h => by simp at h, fun h => by omega⟩)
    refine Ok.bind (S := fun r => (r = .inl () ∧ allR v) ∨ ((∃ i : Nat, r = .inr (i : Int)) ∧ ¬ allR v)) ?_ ?_
    · refine Ok.loop v.length (fun i x => x = (i : Int) ∧ ∀ j, j < i → isBlk (v.getD j 0)) ⟨rfl, fun j hj => by omega⟩ ?_
      rintro i x hi ⟨rfl, h⟩
      refine Ok.cond (fun hc => ?_) (fun hc => Ok.inr (.inl ⟨rfl, fun j hj => h j (by omega)⟩))
      refine Ok.gd (by omega) (Ok.gd hc ?_)
      rw [m75_ok]
      simp only [Int.toNat_natCast, Option.bind_some]
      refine Ok.ncond (fun hne => Ok.inr (.inr ⟨⟨i, rfl⟩, fun hh => hne (hh i (by omega))⟩)) (fun he => Ok.inl ⟨by omega, wsucc (by omega), fun j hj => ?_⟩)
      by_cases e : j = i
      · subst e; exact he
      · exact h j (by omega)
    · rintro r (⟨rfl, h⟩ | ⟨⟨i, rfl⟩, h⟩)
      · exact Ok.some ⟨fun _ => ⟨hq, by omega, by omega, by omega, by omega, h⟩, fun _ => by simp⟩
      · refine Ok.some ⟨fun e => ?_, fun h2 => absurd h2.2.2.2.2.2 h⟩
        have : ((i : Int) ≥ 0) := by omega
        simp [this] at e
  · rw [if_neg hk, if_neg hk3, if_pos hk2]
    refine Ok.cond (fun h1 => ?_) (fun h1 => Ok.some ⟨fun h => by simp at h, fun h => by omega⟩)
    refine Ok.cond (fun h2 => ?_) (fun h2 => Ok.some ⟨fun h => by simp at h, fun h => by omega⟩)
    refine Ok.cond (fun h3 => ?_) (fun h3 => Ok.some ⟨fun h => by simp at h, fun h => by omega⟩)
    refine Ok.some ⟨fun h => ⟨hq, by omega, by omega, by omega, by simpa using h⟩, fun h => by simpa using h.2.2.2.2⟩
  · rw [if_neg hk, if_neg hk3, if_neg hk2]
    exact ⟨fun h => by simp at h, fun h => h.2.elim⟩

theorem m71_ok (x : JB) (hlt : x.2.2.1.length ≤ 1000000000) (hlv : x.2.2.2.1.length ≤ 1000000000) : Ok (m71 (x, ())) (fun r => r.1 = true ↔ plainB x) := by
  obtain ⟨k, q, t, v, c⟩ := x
  unfold m71 plainB
  dsimp only at hlt hlv ⊢
  refine Ok.cond (fun h => Ok.some ⟨fun h => by simp at h, fun h2 => by omega⟩) (fun hq1 => ?_)
  refine Ok.cond (fun h => Ok.some ⟨fun h => by simp at h, fun h2 => by omega⟩) (fun hq2 => ?_)
  refine Ok.cond (fun hk => ?_) (fun hk => Ok.cond (fun hk3 => ?_) (fun hk3 => Ok.cond (fun hk2 => ?_) (fun hk2 => Ok.some ?_)))
  · rw [if_pos hk]
    refine Ok.bind (S := fun r => (r = .inl () ∧ allT t) ∨ (r = .inr false ∧ ¬ allT t)) ?_ ?_
    · refine Ok.loop t.length (fun i x => x = (i : Int) ∧ ∀ j, j < i → isBlk (t.getD j (0, false)).1) ⟨rfl, fun j hj => by omega⟩ ?_
      rintro i x hi ⟨rfl, h⟩
      refine Ok.cond (fun hc => ?_) (fun hc => Ok.inr (.inl ⟨rfl, fun j hj => h j (by omega)⟩))
      refine Ok.gd (by omega) (Ok.gd hc ?_)
      rw [m57_ok]
      simp only [Int.toNat_natCast, Option.bind_some]
      refine Ok.ncond (fun hne => Ok.inr (.inr ⟨rfl, fun hh => hne (hh i (by omega))⟩)) (fun he => Ok.inl ⟨by omega, wsucc (by omega), fun j hj => ?_⟩)
      by_cases e : j = i
      · subst e; exact he
      · exact h j (by omega)
    · rintro r (⟨rfl, h⟩ | ⟨rfl, h⟩)
      · refine Ok.cond (fun h1 => ?_) (fun h1 => Ok.some ⟨fun h => by simp at h, fun h => by omega⟩)
        refine Ok.cond (fun h2 => ?_) (fun h2 => Ok.some ⟨fun h => by simp at h, fun h => by omega⟩)
        refine Ok.cond (fun h3 => ?_) (fun h3 => Ok.some ⟨fun h => by simp at h, fun h => by omega⟩)
        refine Ok.some ⟨fun h5 => ⟨by omega, by omega, by simpa using h5, by omega, by omega, h⟩, fun h5 => by simpa using h5.2.2.1⟩
      · exact Ok.some ⟨fun e => by simp at e, fun h2 => absurd h2.2.2.2.2.2 h⟩
  · rw [if_neg hk, if_pos hk3]
    refine Ok.bind (S := fun r => (r = .inl () ∧ allR v) ∨ (r = .inr false ∧ ¬ allR v)) ?_ ?_
    · refine Ok.loop v.length (fun i x => x = (i : Int) ∧ ∀ j, j < i → isBlk (v.getD j 0)) ⟨rfl, fun j hj => by omega⟩ ?_
      rintro i x hi ⟨rfl, h⟩
      refine Ok.cond (fun hc => ?_) (fun hc => Ok.inr (.inl ⟨rfl, fun j hj => h j (by omega)⟩))
      refine Ok.gd (by omega) (Ok.gd hc ?_)
      rw [m57_ok]
      simp only [Int.toNat_natCast, Option.bind_some]
      refine Ok.ncond (fun hne => Ok.inr (.inr ⟨rfl, fun hh => hne (hh i (by omega))⟩)) (fun he => Ok.inl ⟨by omega, wsucc (by omega), fun j hj => ?_⟩)
      by_cases e : j = i
      · subst e; exact he
      · exact h j (by omega)
    · rintro r (⟨rfl, h⟩ | ⟨rfl, h⟩)
      · refine Ok.cond (fun h1 => ?_) (fun h1 => Ok.some ⟨fun h => by simp at h, fun h => by omega⟩)
        refine Ok.cond (fun h2 => ?_) (fun h2 => Ok.some ⟨fun h => by simp at h, fun h => by omega⟩)
        refine Ok.cond (fun h3 => ?_) (fun h3 => Ok.some ⟨fun h => by simp at h, fun h => by omega⟩)
        refine Ok.some ⟨fun h5 => ⟨by omega, by omega, by simpa using h5, by omega, by omega, h⟩, fun h5 => by simpa using h5.2.2.1⟩
      · exact Ok.some ⟨fun e => by simp at e, fun h2 => absurd h2.2.2.2.2.2 h⟩
  · rw [if_neg hk, if_neg hk3, if_pos hk2]
    refine Ok.cond (fun h1 => ?_) (fun h1 => Ok.some ⟨fun h => by simp at h, fun h => by omega⟩)
    refine Ok.cond (fun h2 => ?_) (fun h2 => Ok.some ⟨fun h => by simp at h, fun h => by omega⟩)
    refine Ok.cond (fun h3 => ?_) (fun h3 => Ok.some ⟨fun h => by simp at h, fun h => by omega⟩)
    refine Ok.some ⟨fun h => ?_, fun h => ?_⟩
    · have := of_decide_eq_true h
      exact ⟨by omega, by omega, by omega, by omega, by omega⟩
    · exact decide_eq_true (by omega)
  · rw [if_neg hk, if_neg hk3, if_neg hk2]
    exact ⟨fun h => by simp at h, fun h => h.2.elim⟩

theorem plain_facts {x : JB} (h : plainB x) : (1 ≤ x.1 ∧ x.1 ≤ 3) ∧ (1 ≤ x.2.1 ∧ x.2.1 ≤ 281474976710656) ∧ x.2.2.1.length ≤ 48 ∧ x.2.2.2.1.length ≤ 60 ∧ (x.2.2.1.length = 0 ∨ x.2.2.2.1.length = 0) ∧ 0 ≤ x.2.2.2.2 ∧
    ((x.2.2.1.length : Nat) : Int) + ((x.2.2.2.1.length : Nat) : Int) + x.2.2.2.2 ≤ 64 ∧ allT x.2.2.1 ∧ allR x.2.2.2.1 := by
  obtain ⟨h1, h2⟩ := h
  split at h2
  · refine ⟨by omega, h1, by omega, by omega, by omega, by omega, by omega, h2.2.2.2.2, fun i hi => by omega⟩
  · split at h2
    · refine ⟨by omega, h1, by omega, by omega, by omega, by omega, by omega, fun i hi => by omega, h2.2.2.2.2⟩
    · split at h2
      · exact ⟨by omega, h1, by omega, by omega, by omega, by omega, by omega, fun i hi => by omega, fun i hi => by omega⟩
      · exact h2.elim

def tagB (t : Int × Bool) : List Int := be t.1.toNat 4 ++ be (if t.2 then 1 else 0) 1
def revB (n : Int) : List Int := be n.toNat 4
def cnt (x : JB) : Nat := (((x.2.2.1.length : Nat) : Int) + ((x.2.2.2.1.length : Nat) : Int) + x.2.2.2.2).toNat
def hdB (x : JB) : List Int := be 1397508641 4 ++ be x.1.toNat 1 ++ be x.2.1.toNat 8 ++ be (cnt x) 1
def inB (x : JB) : List Int := hdB x ++ x.2.2.1.flatMap tagB ++ x.2.2.2.1.flatMap revB
def encB (x : JB) : List Int := inB x ++ List.replicate (256 - (inB x).length) 0

theorem hdB_len (x : JB) : (hdB x).length = 14 := by simp [hdB, be_len]
theorem tags_len : ∀ l : List (Int × Bool), (l.flatMap tagB).length = 5 * l.length
  | [] => rfl
  | t :: l => by rw [List.flatMap_cons, List.length_append, tags_len l]; simp [tagB, be_len]; omega
theorem revs_len : ∀ l : List Int, (l.flatMap revB).length = 4 * l.length
  | [] => rfl
  | t :: l => by rw [List.flatMap_cons, List.length_append, revs_len l]; simp [revB, be_len]; omega
theorem inB_len (x : JB) : (inB x).length = 14 + 5 * x.2.2.1.length + 4 * x.2.2.2.1.length := by
  simp only [inB, List.length_append, hdB_len, tags_len, revs_len]
theorem flat_bytes' {A : Type} {f : A → List Int} (h : ∀ a, Bytes (f a)) (l : List A) : Bytes (l.flatMap f) := fun x hx => by
  obtain ⟨a, _, ha⟩ := List.mem_flatMap.1 hx
  exact h a x ha
theorem inB_bytes (x : JB) : Bytes (inB x) :=
  (((((be_bytes _ _).app (be_bytes _ _)).app (be_bytes _ _)).app (be_bytes _ _)).app (flat_bytes' (fun a => (be_bytes _ _).app (be_bytes _ _)) _)).app (flat_bytes' (fun a => be_bytes _ _) _)
theorem encB_bytes (x : JB) : Bytes (encB x) := (inB_bytes x).app (Bytes.zeros _)
theorem encB_len {x : JB} (h : plainB x) : (encB x).length = 256 := by
  obtain ⟨_, _, h3, h4, h5, _⟩ := plain_facts h
  simp only [encB, List.length_append, List.length_replicate, inB_len]
  omega

theorem flatMap_snoc {A : Type} (f : A → List Int) (l : List A) (i : Nat) (h : i < l.length) (z : A) : (l.take (i + 1)).flatMap f = (l.take i).flatMap f ++ f (l.getD i z) := by
  rw [take_snoc l i h z, List.flatMap_append]; simp

open Classical in
theorem m62_ok (x : JB) : m62 (x, ()) = some (if plainB x then (encB x, (0, ())) else ([], (170, ()))) := by
  apply ok_eq
  unfold m62
  refine Ok.bind (m82_ok x) fun r hr => ?_
  refine Ok.condb (fun h => Ok.some ?_) (fun h => ?_)
  · rw [if_neg]; intro hp; rw [hr.2 hp] at h; simp at h
  have hp : plainB x := hr.1 (by simpa using h)
  rw [if_pos hp]
  obtain ⟨k1, q1, lt, lv, ltv, c0, cs, at_, av⟩ := plain_facts hp
  obtain ⟨k, q, t, v, c⟩ := x
  have hlen := inB_len (k, q, t, v, c)
  have hcnt : cnt (k, q, t, v, c) = (((t.length : Nat) : Int) + ((v.length : Nat) : Int) + c).toNat := rfl
  dsimp only at *
  obtain ⟨k, rfl⟩ : ∃ n : Nat, k = n := ⟨k.toNat, by omega⟩
  obtain ⟨q, rfl⟩ : ∃ n : Nat, q = n := ⟨q.toNat, by omega⟩
  obtain ⟨n, hn⟩ : ∃ n : Nat, ((t.length : Nat) : Int) + ((v.length : Nat) : Int) + c = n := ⟨(((t.length : Nat) : Int) + ((v.length : Nat) : Int) + c).toNat, by omega⟩
  have hw : IntKind.wrap .u64 (IntKind.wrap .i64 (IntKind.wrap .i64 (((t.length : Nat) : Int) + ((v.length : Nat) : Int)) + c)) = (n : Int) := by
    rw [wrap64 (n := ((t.length : Nat) : Int) + ((v.length : Nat) : Int)) (by omega) (by omega), hn, wrap64 (by omega) (by omega), wrapU64 (by omega) (by omega)]
  have hcn : cnt ((k : Int), (q : Int), t, v, c) = n := by rw [hcnt, hn]; rfl
  have b1 : m61 ([], ((1397508641 : Int), ((4 : Int), ()))) = some (be 1397508641 4) := m61_ok [] 1397508641 4 (by omega) (by simp)
  have b2 : m61 (be 1397508641 4, ((k : Int), ((1 : Int), ()))) = some (be 1397508641 4 ++ be k 1) := m61_ok _ k 1 (by omega) (by simp [be_len])
  have b3 : m61 (be 1397508641 4 ++ be k 1, ((q : Int), ((8 : Int), ()))) = some (be 1397508641 4 ++ be k 1 ++ be q 8) := m61_ok _ q 8 (by omega) (by simp [be_len])
  have b4 : m61 (be 1397508641 4 ++ be k 1 ++ be q 8, ((n : Int), ((1 : Int), ()))) = some (be 1397508641 4 ++ be k 1 ++ be q 8 ++ be n 1) := m61_ok _ n 1 (by omega) (by simp [be_len])
  have hh : be 1397508641 4 ++ be k 1 ++ be q 8 ++ be n 1 = hdB ((k : Int), (q : Int), t, v, c) := by unfold hdB; rw [hcn]; rfl
  rw [hh] at b4
  have hl14 := hdB_len ((k : Int), (q : Int), t, v, c)
  rw [hw, wrapU64 (n := (k : Int)) (by omega) (by omega), wrapU64 (n := (q : Int)) (by omega) (by omega), b1]
  simp only [Option.bind_some]
  rw [b2]
  simp only [Option.bind_some]
  rw [b3]
  simp only [Option.bind_some]
  rw [b4]
  simp only [Option.bind_some]
  have hin : inB ((k : Int), (q : Int), t, v, c) = hdB ((k : Int), (q : Int), t, v, c) ++ t.flatMap tagB ++ v.flatMap revB := rfl
  generalize hdB ((k : Int), (q : Int), t, v, c) = hd at *
  refine Ok.bind (S := fun r => r = hd ++ t.flatMap tagB) ?_ (fun r hr => ?_)
  · refine Ok.loop t.length (fun i x => x = (hd ++ (t.take i).flatMap tagB, (i : Int))) (by simp) ?_
    rintro i x hi rfl
    refine Ok.cond (fun hc => ?_) (fun hc => ?_)
    rotate_left
    · simp only at hc
      obtain rfl : i = t.length := by omega
      exact Ok.inr (by rw [List.take_length])
    have hi' : i < t.length := by simp only at hc; omega
    have ha := at_ i hi'
    have hs := flatMap_snoc tagB t i hi' (0, false)
    have hl := tags_len (t.take i)
    rw [List.length_take] at hl
    refine Ok.gd (by simp only; omega) (Ok.gd hc ?_)
    simp only [Int.toNat_natCast]
    obtain ⟨tn, te, hte⟩ : ∃ tn te, t.getD i (0, false) = (tn, te) := ⟨_, _, rfl⟩
    rw [hte] at ha hs ⊢
    obtain ⟨tn, rfl⟩ : ∃ m : Nat, tn = m := ⟨tn.toNat, by have := ha.1; simp only at this; omega⟩
    have ha2 := ha.2
    simp only at ha2
    have u := wrapU64 (n := (tn : Int)) (by omega) (by omega)
    have c1 : m61 (hd ++ (t.take i).flatMap tagB, ((tn : Int), ((4 : Int), ()))) = some (hd ++ (t.take i).flatMap tagB ++ be tn 4) := m61_ok _ tn 4 (by omega) (by simp only [List.length_append]; omega)
    cases te with
    | true =>
      have c2 : m61 (hd ++ (t.take i).flatMap tagB ++ be tn 4, ((1 : Int), ((1 : Int), ()))) = some (hd ++ (t.take i).flatMap tagB ++ be tn 4 ++ be 1 1) := m61_ok _ 1 1 (by omega) (by simp only [List.length_append, be_len]; omega)
      simp only [cond_true, u]
      rw [c1]
      simp only [Option.bind_some]
      rw [c2]
      simp only [Option.bind_some]
      refine Ok.inl ⟨hi', ?_⟩
      rw [wsucc (by omega), hs]
      simp [tagB, List.append_assoc]
    | false =>
      have c2 : m61 (hd ++ (t.take i).flatMap tagB ++ be tn 4, ((0 : Int), ((1 : Int), ()))) = some (hd ++ (t.take i).flatMap tagB ++ be tn 4 ++ be 0 1) := m61_ok _ 0 1 (by omega) (by simp only [List.length_append, be_len]; omega)
      simp only [cond_false, u]
      rw [c1]
      simp only [Option.bind_some]
      rw [c2]
      simp only [Option.bind_some]
      refine Ok.inl ⟨hi', ?_⟩
      rw [wsucc (by omega), hs]
      simp [tagB, List.append_assoc]
  subst hr
  refine Ok.bind (S := fun r => r = hd ++ t.flatMap tagB ++ v.flatMap revB) ?_ (fun r hr => ?_)
  · refine Ok.loop v.length (fun i x => x = (hd ++ t.flatMap tagB ++ (v.take i).flatMap revB, (i : Int))) (by simp) ?_
    rintro i x hi rfl
    refine Ok.cond (fun hc => ?_) (fun hc => ?_)
    rotate_left
    · simp only at hc
      obtain rfl : i = v.length := by omega
      exact Ok.inr (by rw [List.take_length])
    have hi' : i < v.length := by simp only at hc; omega
    have ha := av i hi'
    have hs := flatMap_snoc revB v i hi' 0
    have hl := revs_len (v.take i)
    have hl2 := tags_len t
    rw [List.length_take] at hl
    refine Ok.gd (by simp only; omega) (Ok.gd hc ?_)
    simp only [Int.toNat_natCast]
    obtain ⟨m, hm⟩ : ∃ m : Nat, v.getD i 0 = m := ⟨(v.getD i 0).toNat, by have := ha.1; omega⟩
    rw [hm] at ha hs ⊢
    have ha2 := ha.2
    have c1 : m61 (hd ++ t.flatMap tagB ++ (v.take i).flatMap revB, ((m : Int), ((4 : Int), ()))) = some (hd ++ t.flatMap tagB ++ (v.take i).flatMap revB ++ be m 4) := m61_ok _ m 4 (by omega) (by simp only [List.length_append]; omega)
    rw [wrapU64 (n := (m : Int)) (by omega) (by omega), c1]
    simp only [Option.bind_some]
    refine Ok.inl ⟨hi', ?_⟩
    rw [wsucc (by omega), hs]
    simp [revB, List.append_assoc]
  subst hr
  rw [← hin]
  have d1 : m60 (inB ((k : Int), (q : Int), t, v, c), ((256 : Int), ())) = some (encB ((k : Int), (q : Int), t, v, c)) := m60_ok _ 256 (by omega) (by omega)
  rw [d1]
  exact Ok.some rfl

theorem wok4 : Wok [32, 8, 64, 8] 14 := ⟨by decide, by decide, by decide, by decide⟩
theorem wok2 : Wok [32, 8] 5 := ⟨by decide, by decide, by decide, by decide⟩
theorem wok1 : Wok [32] 4 := ⟨by decide, by decide, by decide, by decide⟩

theorem m48_4 (a b c d : Nat) (ha : a < 2 ^ 32) (hb : b < 2 ^ 8) (hc : c < 2 ^ 64) (hd : d < 2 ^ 8) : m48 ([32, 8, 64, 8], ([(a : Int), (b : Int), (c : Int), (d : Int)], ())) = some (be a 4 ++ be b 1 ++ be c 8 ++ be d 1, (0, ())) := by
  have a1 := m48_ok wok4 (fun i => [a, b, c, d].getD i 0) (by
    intro i hi
    rcases i with _ | _ | _ | _ | i
    · exact ha
    · exact hb
    · exact hc
    · exact hd
    · simp at hi; omega)
  have b1 : m48 ([32, 8, 64, 8], ([(a : Int), (b : Int), (c : Int), (d : Int)], ())) = some (be a 4 ++ (be b 1 ++ (be c 8 ++ (be d 1 ++ []))), (0, ())) := a1
  rw [b1]; simp

theorem m48_2 (a b : Nat) (ha : a < 2 ^ 32) (hb : b < 2 ^ 8) : m48 ([32, 8], ([(a : Int), (b : Int)], ())) = some (be a 4 ++ be b 1, (0, ())) := by
  have a1 := m48_ok wok2 (fun i => [a, b].getD i 0) (by
    intro i hi
    rcases i with _ | _ | i
    · exact ha
    · exact hb
    · simp at hi; omega)
  have b1 : m48 ([32, 8], ([(a : Int), (b : Int)], ())) = some (be a 4 ++ (be b 1 ++ []), (0, ())) := a1
  rw [b1]; simp

theorem m48_1 (a : Nat) (ha : a < 2 ^ 32) : m48 ([32], ([(a : Int)], ())) = some (be a 4, (0, ())) := by
  have a1 := m48_ok wok1 (fun i => [a].getD i 0) (by
    intro i hi
    rcases i with _ | i
    · exact ha
    · simp at hi)
  have b1 : m48 ([32], ([(a : Int)], ())) = some (be a 4 ++ [], (0, ())) := a1
  rw [b1]; simp

open Classical in
theorem m46_ok (x : JB) (hlt : x.2.2.1.length ≤ 1000000000) (hlv : x.2.2.2.1.length ≤ 1000000000) : m46 (x, ()) = some (if plainB x then (encB x, (0, ())) else ([], (170, ()))) := by
  apply ok_eq
  unfold m46
  refine Ok.bind (m71_ok x hlt hlv) fun r hr => ?_
  refine Ok.condb (fun h => Ok.some ?_) (fun h => ?_)
  · rw [if_neg]; intro hp; rw [hr.2 hp] at h; simp at h
  have hp : plainB x := hr.1 (by simpa using h)
  rw [if_pos hp]
  obtain ⟨k1, q1, lt, lv, ltv, c0, cs, at_, av⟩ := plain_facts hp
  obtain ⟨k, q, t, v, c⟩ := x
  have hlen := inB_len (k, q, t, v, c)
  have hcnt : cnt (k, q, t, v, c) = (((t.length : Nat) : Int) + ((v.length : Nat) : Int) + c).toNat := rfl
  dsimp only at *
  obtain ⟨k, rfl⟩ : ∃ n : Nat, k = n := ⟨k.toNat, by omega⟩
  obtain ⟨q, rfl⟩ : ∃ n : Nat, q = n := ⟨q.toNat, by omega⟩
  obtain ⟨n, hn⟩ : ∃ n : Nat, ((t.length : Nat) : Int) + ((v.length : Nat) : Int) + c = n := ⟨(((t.length : Nat) : Int) + ((v.length : Nat) : Int) + c).toNat, by omega⟩
  have hw : IntKind.wrap .u64 (IntKind.wrap .i64 (IntKind.wrap .i64 (((t.length : Nat) : Int) + ((v.length : Nat) : Int)) + c)) = (n : Int) := by
    rw [wrap64 (n := ((t.length : Nat) : Int) + ((v.length : Nat) : Int)) (by omega) (by omega), hn, wrap64 (by omega) (by omega), wrapU64 (by omega) (by omega)]
  have hcn : cnt ((k : Int), (q : Int), t, v, c) = n := by rw [hcnt, hn]; rfl
  have b1 : m48 ([32, 8, 64, 8], ([(1397508641 : Int), (k : Int), (q : Int), (n : Int)], ())) = some (be 1397508641 4 ++ be k 1 ++ be q 8 ++ be n 1, (0, ())) := m48_4 1397508641 k q n (by omega) (by omega) (by omega) (by omega)
  have hh : be 1397508641 4 ++ be k 1 ++ be q 8 ++ be n 1 = hdB ((k : Int), (q : Int), t, v, c) := by unfold hdB; rw [hcn]; rfl
  rw [hh] at b1
  have hl14 := hdB_len ((k : Int), (q : Int), t, v, c)
  rw [hw, wrapU64 (n := (k : Int)) (by omega) (by omega), wrapU64 (n := (q : Int)) (by omega) (by omega), b1]
  simp only [Option.bind_some]
  have hin : inB ((k : Int), (q : Int), t, v, c) = hdB ((k : Int), (q : Int), t, v, c) ++ t.flatMap tagB ++ v.flatMap revB := rfl
  generalize hdB ((k : Int), (q : Int), t, v, c) = hd at *
  refine Ok.bind (S := fun r => r = hd ++ t.flatMap tagB) ?_ (fun r hr => ?_)
  · refine Ok.loop t.length (fun i x => x = (hd ++ (t.take i).flatMap tagB, (i : Int))) (by simp) ?_
    rintro i x hi rfl
    refine Ok.cond (fun hc => ?_) (fun hc => ?_)
    rotate_left
    · simp only at hc
      obtain rfl : i = t.length := by omega
      exact Ok.inr (by rw [List.take_length])
    have hi' : i < t.length := by simp only at hc; omega
    have ha := at_ i hi'
    have hs := flatMap_snoc tagB t i hi' (0, false)
    have hl := tags_len (t.take i)
    rw [List.length_take] at hl
    refine Ok.gd (by simp only; omega) (Ok.gd hc ?_)
    simp only [Int.toNat_natCast]
    obtain ⟨tn, te, hte⟩ : ∃ tn te, t.getD i (0, false) = (tn, te) := ⟨_, _, rfl⟩
    rw [hte] at ha hs ⊢
    obtain ⟨tn, rfl⟩ : ∃ m : Nat, tn = m := ⟨tn.toNat, by have := ha.1; simp only at this; omega⟩
    have ha2 := ha.2
    simp only at ha2
    have u := wrapU64 (n := (tn : Int)) (by omega) (by omega)
    cases te with
    | true =>
      have c2 : m48 ([32, 8], ([(tn : Int), (1 : Int)], ())) = some (be tn 4 ++ be 1 1, (0, ())) := m48_2 tn 1 (by omega) (by omega)
      simp only [cond_true, u]
      rw [c2]
      simp only [Option.bind_some, List.length_append, be_len]
      refine Ok.gd (by omega) (Ok.gd (by omega) (Ok.gd (by omega) (Ok.gd (by omega) (Ok.inl ⟨hi', ?_⟩))))
      rw [wsucc (by omega), hs]
      simp [tagB, List.append_assoc]
    | false =>
      have c2 : m48 ([32, 8], ([(tn : Int), (0 : Int)], ())) = some (be tn 4 ++ be 0 1, (0, ())) := m48_2 tn 0 (by omega) (by omega)
      simp only [cond_false, u]
      rw [c2]
      simp only [Option.bind_some, List.length_append, be_len]
      refine Ok.gd (by omega) (Ok.gd (by omega) (Ok.gd (by omega) (Ok.gd (by omega) (Ok.inl ⟨hi', ?_⟩))))
      rw [wsucc (by omega), hs]
      simp [tagB, List.append_assoc]
  subst hr
  refine Ok.bind (S := fun r => r = hd ++ t.flatMap tagB ++ v.flatMap revB) ?_ (fun r hr => ?_)
  · refine Ok.loop v.length (fun i x => x = (hd ++ t.flatMap tagB ++ (v.take i).flatMap revB, (i : Int))) (by simp) ?_
    rintro i x hi rfl
    refine Ok.cond (fun hc => ?_) (fun hc => ?_)
    rotate_left
    · simp only at hc
      obtain rfl : i = v.length := by omega
      exact Ok.inr (by rw [List.take_length])
    have hi' : i < v.length := by simp only at hc; omega
    have ha := av i hi'
    have hs := flatMap_snoc revB v i hi' 0
    have hl := revs_len (v.take i)
    have hl2 := tags_len t
    rw [List.length_take] at hl
    refine Ok.gd (by simp only; omega) (Ok.gd hc ?_)
    simp only [Int.toNat_natCast]
    obtain ⟨m, hm⟩ : ∃ m : Nat, v.getD i 0 = m := ⟨(v.getD i 0).toNat, by have := ha.1; omega⟩
    rw [hm] at ha hs ⊢
    have ha2 := ha.2
    rw [wrapU64 (n := (m : Int)) (by omega) (by omega), m48_1 m (by omega)]
    simp only [Option.bind_some, List.length_append, be_len]
    refine Ok.gd (by omega) (Ok.gd (by omega) (Ok.inl ⟨hi', ?_⟩))
    rw [wsucc (by omega), hs]
    simp [revB, List.append_assoc]
  subst hr
  rw [← hin]
  have d1 : m50 (inB ((k : Int), (q : Int), t, v, c), ((256 : Int), ())) = some (encB ((k : Int), (q : Int), t, v, c)) := m50_ok _ 256 (by omega) (by omega)
  rw [d1]
  exact Ok.some rfl
end Go.Proofs.Ytjleeabhpfmhaaa
end
