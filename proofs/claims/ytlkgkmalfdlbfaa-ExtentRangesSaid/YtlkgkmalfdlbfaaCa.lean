/- What the functions of this claim compute, each shown by the kernel, and what that comes to, with no program in sight. No condition. -/
import Derived.Test.YtlkgkmalfdlbfaaProg
import Derived.Test.YtlkgkmalfdlbfaaAmc
import Derived.KernelRfl
import Derived.Shelf.Spec.SlicesGrow
import Derived.Shelf.SlSortCmp.WholeK
import Derived.WalkKit
import Derived.ProofKit
set_option maxRecDepth 2000
set_option linter.unusedVariables false
set_option linter.unusedSimpArgs false
section
/- What the functions' contracts share. -/
namespace Go.Proofs.Ytlkgkmalfdlbfaa
theorem Try.follows : Try.prog.follows .mixedOrders = true := by kernel_rfl
end Go.Proofs.Ytlkgkmalfdlbfaa
end

section
/- What function 32 (slipway/extent.One) computes, by the kernel. -/
open Go Go.Proofs.AM
namespace Go.Proofs.Ytlkgkmalfdlbfaa

noncomputable def m32 (x : (Int × (Int × Int)) × Unit) : Option (Int × Unit) :=
  bif (decide (x.1.1 < (0 : Int))) then
    (some ((130 : Int), ()))
  else
    (bif (decide (x.1.1 ≥ (65536 : Int))) then
      (some ((130 : Int), ()))
    else
      (bif (decide (x.1.2.1 < (1 : Int))) then
        (some ((130 : Int), ()))
      else
        (bif (decide (x.1.2.1 > (4096 : Int))) then
          (some ((130 : Int), ()))
        else
          (bif (decide (x.1.2.2 < (1 : Int))) then
            (some ((130 : Int), ()))
          else
            (bif (decide (x.1.2.2 ≥ (8192 : Int))) then
              (some ((130 : Int), ()))
            else
              (bif (decide ((Go.IntKind.wrap .i64 (x.1.1 + x.1.2.1)) > (65536 : Int))) then
                (some ((130 : Int), ()))
              else
                (bif (decide ((Go.IntKind.wrap .i64 (x.1.2.2 + x.1.2.1)) > (8192 : Int))) then
                  (some ((130 : Int), ()))
                else
                  (some ((0 : Int), ())))))))))

noncomputable def r32 : PDen [(true, (.pair (.int .i64) (.pair (.int .i64) (.int .i64))))] → Option (PDen [(false, (.int .i64))]) := fun x => afun Try.prog (envOf [] [] [] []) ⟨[], []⟩ Try.f32 [(true, (.pair (.int .i64) (.pair (.int .i64) (.int .i64))))] [(false, (.int .i64))] false x
theorem r32_eq : r32 = m32 := by kernel_rfl

theorem c32 : CS.Sound Try.prog 32 ⟨[(true, (.pair (.int .i64) (.pair (.int .i64) (.int .i64))))], [(false, (.int .i64))], false, m32⟩ := afun_sound' (envOf_sound (CSs.nil) (HDs.nil) (IDs.nil)) rfl Try.follows (f := 32) (fn := Try.f32) Try.func32 (by kernel_rfl) (by kernel_rfl) r32_eq
end Go.Proofs.Ytlkgkmalfdlbfaa
end

section
/- What function 46 (slipway/extent.end) computes, by the kernel. -/
open Go Go.Proofs.AM
namespace Go.Proofs.Ytlkgkmalfdlbfaa

noncomputable def m46 (x : (Int × (Int × Int)) × Unit) : Option (Int × Unit) :=
  some ((Go.IntKind.wrap .i64 (x.1.1 + x.1.2.1)), ())

noncomputable def r46 : PDen [(true, (.pair (.int .i64) (.pair (.int .i64) (.int .i64))))] → Option (PDen [(false, (.int .i64))]) := fun x => afun Try.prog (envOf [] [] [] []) ⟨[], []⟩ Try.f46 [(true, (.pair (.int .i64) (.pair (.int .i64) (.int .i64))))] [(false, (.int .i64))] false x
theorem r46_eq : r46 = m46 := by kernel_rfl

theorem c46 : CS.Sound Try.prog 46 ⟨[(true, (.pair (.int .i64) (.pair (.int .i64) (.int .i64))))], [(false, (.int .i64))], false, m46⟩ := afun_sound' (envOf_sound (CSs.nil) (HDs.nil) (IDs.nil)) rfl Try.follows (f := 46) (fn := Try.f46) Try.func46 (by kernel_rfl) (by kernel_rfl) r46_eq
end Go.Proofs.Ytlkgkmalfdlbfaa
end

section
/- What function 50 (slipway/extent.joins) computes, by the kernel. -/
open Go Go.Proofs.AM
namespace Go.Proofs.Ytlkgkmalfdlbfaa

noncomputable def m50 (x : (Int × (Int × Int)) × (Int × (Int × Int)) × Unit) : Option (Bool × Unit) :=
  Option.bind (m46 (x.1, ())) fun (y1 : (Int × Unit)) =>
  bif (decide (y1.1 = x.2.1.1)) then
    (bif (decide ((Go.IntKind.wrap .i64 (x.1.2.2 + x.1.2.1)) = x.2.1.2.2)) then
      (some ((decide ((Go.IntKind.wrap .i64 (x.1.2.1 + x.2.1.2.1)) ≤ (4096 : Int))), ()))
    else
      (some (false, ())))
  else
    (some (false, ()))

noncomputable def r50 : PDen [(true, (.pair (.int .i64) (.pair (.int .i64) (.int .i64)))), (true, (.pair (.int .i64) (.pair (.int .i64) (.int .i64))))] → Option (PDen [(false, .bool)]) := fun x => afun Try.prog (envOf [(46, ⟨[(true, (.pair (.int .i64) (.pair (.int .i64) (.int .i64))))], [(false, (.int .i64))], false, m46⟩)] [] [] []) ⟨[], []⟩ Try.f50 [(true, (.pair (.int .i64) (.pair (.int .i64) (.int .i64)))), (true, (.pair (.int .i64) (.pair (.int .i64) (.int .i64))))] [(false, .bool)] false x
theorem r50_eq : r50 = m50 := by kernel_rfl

theorem c50 : CS.Sound Try.prog 50 ⟨[(true, (.pair (.int .i64) (.pair (.int .i64) (.int .i64)))), (true, (.pair (.int .i64) (.pair (.int .i64) (.int .i64))))], [(false, .bool)], false, m50⟩ := afun_sound' (envOf_sound (CSs.cons c46 (CSs.nil)) (HDs.nil) (IDs.nil)) rfl Try.follows (f := 50) (fn := Try.f50) Try.func50 (by kernel_rfl) (by kernel_rfl) r50_eq
end Go.Proofs.Ytlkgkmalfdlbfaa
end

section
/- What function 29 (slipway/extent.Check) computes, by the kernel. -/
open Go Go.Proofs.AM
namespace Go.Proofs.Ytlkgkmalfdlbfaa

noncomputable def m29 (x : (List (Int × (Int × Int))) × Unit) : Option (Int × Unit) :=
  Option.bind (loopM (X := Int) (E := (Unit ⊕ Int)) (fun (x1 : Int) =>
      bif (decide (x1 < (((List.length x.1) : Nat) : Int))) then
        (gd ((0 : Int) ≤ x1) (gd (x1 < (((List.length x.1) : Nat) : Int)) (Option.bind (m32 ((List.getD x.1 (Int.toNat x1) ((0 : Int), ((0 : Int), (0 : Int)))), ())) fun (y2 : (Int × Unit)) =>
            bif (!(decide (y2.1 = (0 : Int)))) then
              (some (Sum.inr (Sum.inr (130 : Int))))
            else
              (bif (decide (x1 > (0 : Int))) then
                (gd ((0 : Int) ≤ (Go.IntKind.wrap .i64 (x1 - (1 : Int)))) (gd ((Go.IntKind.wrap .i64 (x1 - (1 : Int))) < (((List.length x.1) : Nat) : Int)) (Option.bind (m46 ((List.getD x.1 (Int.toNat (Go.IntKind.wrap .i64 (x1 - (1 : Int)))) ((0 : Int), ((0 : Int), (0 : Int)))), ())) fun (y3 : (Int × Unit)) =>
                    bif (decide ((List.getD x.1 (Int.toNat x1) ((0 : Int), ((0 : Int), (0 : Int)))).1 < y3.1)) then
                      (some (Sum.inr (Sum.inr (130 : Int))))
                    else
                      (gd ((0 : Int) ≤ (Go.IntKind.wrap .i64 (x1 - (1 : Int)))) (gd ((Go.IntKind.wrap .i64 (x1 - (1 : Int))) < (((List.length x.1) : Nat) : Int)) (Option.bind (m50 ((List.getD x.1 (Int.toNat (Go.IntKind.wrap .i64 (x1 - (1 : Int)))) ((0 : Int), ((0 : Int), (0 : Int)))), ((List.getD x.1 (Int.toNat x1) ((0 : Int), ((0 : Int), (0 : Int)))), ()))) fun (y4 : (Bool × Unit)) =>
                          bif y4.1 then
                            (some (Sum.inr (Sum.inr (130 : Int))))
                          else
                            (some (Sum.inl (Go.IntKind.wrap .i64 (x1 + (1 : Int)))))))))))
              else
                (some (Sum.inl (Go.IntKind.wrap .i64 (x1 + (1 : Int)))))))))
      else
        (some (Sum.inr (Sum.inl ())))) (0 : Int)) fun (y1 : (Unit ⊕ Int)) =>
  Sum.elim (fun y2 =>
    some ((0 : Int), ())) (fun y2 =>
    some (y2, ())) y1

noncomputable def r29 : PDen [(false, (.sl (.pair (.int .i64) (.pair (.int .i64) (.int .i64)))))] → Option (PDen [(false, (.int .i64))]) := fun x => afun Try.prog (envOf [(32, ⟨[(true, (.pair (.int .i64) (.pair (.int .i64) (.int .i64))))], [(false, (.int .i64))], false, m32⟩), (46, ⟨[(true, (.pair (.int .i64) (.pair (.int .i64) (.int .i64))))], [(false, (.int .i64))], false, m46⟩), (50, ⟨[(true, (.pair (.int .i64) (.pair (.int .i64) (.int .i64)))), (true, (.pair (.int .i64) (.pair (.int .i64) (.int .i64))))], [(false, .bool)], false, m50⟩)] [] [] []) ⟨[(0, ⟨[.slot 7 (.d false (.int .i64) true)], [], [(some 0, []), (none, [.slot 2 (.d false (.int .i64) true)])], none⟩)], []⟩ Try.f29 [(false, (.sl (.pair (.int .i64) (.pair (.int .i64) (.int .i64)))))] [(false, (.int .i64))] false x
theorem r29_eq : r29 = m29 := by kernel_rfl

theorem c29 : CS.Sound Try.prog 29 ⟨[(false, (.sl (.pair (.int .i64) (.pair (.int .i64) (.int .i64)))))], [(false, (.int .i64))], false, m29⟩ := afun_sound' (envOf_sound (CSs.cons c32 (CSs.cons c46 (CSs.cons c50 (CSs.nil)))) (HDs.nil) (IDs.nil)) rfl Try.follows (f := 29) (fn := Try.f29) Try.func29 (by kernel_rfl) (by kernel_rfl) r29_eq
end Go.Proofs.Ytlkgkmalfdlbfaa
end

section
/-
  DERIVED: THE SHELF's CONTRACTS AT THIS DUMP, IN PLAIN WORDS (tools/lay-plain.mjs out of 'YtlkgkmalfdlbfaaLayB.lean', which tools/lay-shelf.mjs wrote): THE SAME DECLARATIONS UNDER THE SAME NAMES: 'import', 'namespace', 'open', 'def', 'theorem' AND NOTHING ELSE: no command of the shelf's: FOR A HAND-IN. Each laying: the table of numbers ('.._ren') and one theorem, a field a fact of the dump's own or the kernel's comparison; each contract: ONE APPLICATION.
-/
namespace Go.Proofs
open Go.Shelf
def Try.growExt_ren : Go.Shelf.Ren := ⟨fun | 4 => 52 | n => n, fun | 22 => 22 | 25 => 24 | 3 => 3 | 4 => 4 | 9 => 9 | 20 => 20 | 0 => 0 | n => n, fun | n => n⟩
theorem Try.growExt : Go.Proofs.Lays8.n4 Try.prog Try.growExt_ren := {
  mixed := by kernel_rfl
  f4 := ⟨Try.f52.name, by decide, Try.func52.trans (congrArg some (by kernel_rfl))⟩
  t0 := Try.underlying0
  a0 := Try.isAgg0
  z0 := Try.sizeOf0
  v0 := Try.zeroValue0
  t3 := Try.underlying3
  a3 := Try.isAgg3
  z3 := Try.sizeOf3
  v3 := Try.zeroValue3
  t4 := Try.underlying4
  a4 := Try.isAgg4
  z4 := Try.sizeOf4
  v4 := Try.zeroValue4
  t9 := Try.underlying9
  a9 := Try.isAgg9
  z9 := Try.sizeOf9
  v9 := Try.zeroValue9
  t20 := Try.underlying20
  a20 := Try.isAgg20
  z20 := Try.sizeOf20
  v20 := Try.zeroValue20
  t22 := Try.underlying22
  a22 := Try.isAgg22
  z22 := Try.sizeOf22
  v22 := Try.zeroValue22 }
end Go.Proofs
end

section
/- slices.Grow of nothing, at extents. No condition. -/
open Go Go.Proofs.AM
namespace Go.Proofs.Ytlkgkmalfdlbfaa
theorem g52 : (growHD 24 (.pair (.int .i64) (.pair (.int .i64) (.int .i64))) 24).Sound Try.prog 52 := by
  have h : (Try.prog.info? 24).map (fun i => (i.size, i.bytes, i.zero)) = some (3, 24, some (.agg #[.int .i64 0, .int .i64 0, .int .i64 0])) := by kernel_rfl
  obtain ⟨i, hi, hs⟩ := Option.map_eq_some_iff.1 h
  simp only [Prod.mk.injEq] at hs
  exact growHD_sound Try.growExt rfl rfl (fun args w => enters_of Try.func52 (by kernel_rfl) rfl args w) hi hs.2.2 rfl hs.1 (by decide) hs.2.1
end Go.Proofs.Ytlkgkmalfdlbfaa
end

section
/- What function 39 (slices.Concat(()slipway/api.Extent,slipway/api.Extent)) computes, by the kernel. -/
open Go Go.Proofs.AM
namespace Go.Proofs.Ytlkgkmalfdlbfaa

noncomputable def m39 (x : (List (List (Int × (Int × Int)))) × Unit) : Option ((List (Int × (Int × Int))) × Unit) :=
  Option.bind (loopM (X := (Int × Int)) (E := Int) (fun (x1 : (Int × Int)) =>
      bif (decide (x1.2 < (((List.length x.1) : Nat) : Int))) then
        (gd ((0 : Int) ≤ x1.2) (gd (x1.2 < (((List.length x.1) : Nat) : Int)) (bif (decide ((Go.IntKind.wrap .i64 (x1.1 + (((List.length (List.getD x.1 (Int.toNat x1.2) ([] : List (Int × (Int × Int))))) : Nat) : Int))) < (0 : Int))) then
              (none)
            else
              (some (Sum.inl ((Go.IntKind.wrap .i64 (x1.1 + (((List.length (List.getD x.1 (Int.toNat x1.2) ([] : List (Int × (Int × Int))))) : Nat) : Int))), (Go.IntKind.wrap .i64 (x1.2 + (1 : Int)))))))))
      else
        (some (Sum.inr x1.1))) ((0 : Int), (0 : Int))) fun (y1 : Int) =>
  Option.bind (gd ((0 : Int) ≤ y1) (gd ((y1 * (24 : Int)) ≤ (140737488355328 : Int)) (gd (y1 ≤ (4611686018427387904 : Int)) (some ())))) fun (y2 : Unit) =>
  Option.bind (loopM (X := ((List (Int × (Int × Int))) × Int)) (E := (List (Int × (Int × Int)))) (fun (x3 : ((List (Int × (Int × Int))) × Int)) =>
      bif (decide (x3.2 < (((List.length x.1) : Nat) : Int))) then
        (gd ((0 : Int) ≤ x3.2) (gd (x3.2 < (((List.length x.1) : Nat) : Int)) (gd ((((List.length x3.1) + (List.length (List.getD x.1 (Int.toNat x3.2) ([] : List (Int × (Int × Int)))))) * 24) ≤ 140737488355328) (gd (((List.length x3.1) + (List.length (List.getD x.1 (Int.toNat x3.2) ([] : List (Int × (Int × Int)))))) ≤ 140737488355328) (some (Sum.inl ((x3.1 ++ (List.getD x.1 (Int.toNat x3.2) ([] : List (Int × (Int × Int))))), (Go.IntKind.wrap .i64 (x3.2 + (1 : Int))))))))))
      else
        (some (Sum.inr x3.1))) (([] : List (Int × (Int × Int))), (0 : Int))) fun (y3 : (List (Int × (Int × Int)))) =>
  some (y3, ())

noncomputable def r39 : PDen [(false, (.sl (.sl (.pair (.int .i64) (.pair (.int .i64) (.int .i64))))))] → Option (PDen [(false, (.sl (.pair (.int .i64) (.pair (.int .i64) (.int .i64)))))]) := fun x => afun Try.prog (envOf [] [(52, growHD 24 (.pair (.int .i64) (.pair (.int .i64) (.int .i64))) 24)] [] []) ⟨[(0, ⟨[.slot 3 (.d false (.int .i64) true), .slot 11 (.d false (.int .i64) true)], [], [(some 0, [.slot 3 (.d false (.int .i64) true)])], none⟩), (2, ⟨[.slot 6 (.v 24 (.pair (.int .i64) (.pair (.int .i64) (.int .i64))) true), .slot 27 (.d false (.int .i64) true)], [0], [(some 2, [.slot 6 (.v 24 (.pair (.int .i64) (.pair (.int .i64) (.int .i64))) true)])], none⟩)], []⟩ Try.f39 [(false, (.sl (.sl (.pair (.int .i64) (.pair (.int .i64) (.int .i64))))))] [(false, (.sl (.pair (.int .i64) (.pair (.int .i64) (.int .i64)))))] false x
theorem r39_eq : r39 = m39 := by kernel_rfl

theorem c39 : CS.Sound Try.prog 39 ⟨[(false, (.sl (.sl (.pair (.int .i64) (.pair (.int .i64) (.int .i64))))))], [(false, (.sl (.pair (.int .i64) (.pair (.int .i64) (.int .i64)))))], false, m39⟩ := afun_sound' (envOf_sound (CSs.nil) (HDs.cons g52 (HDs.nil)) (IDs.nil)) rfl Try.follows (f := 39) (fn := Try.f39) Try.func39 (by kernel_rfl) (by kernel_rfl) r39_eq
end Go.Proofs.Ytlkgkmalfdlbfaa
end

section
/- What function 53 (slipway/extent.clip) computes, by the kernel. -/
open Go Go.Proofs.AM
namespace Go.Proofs.Ytlkgkmalfdlbfaa

noncomputable def m53 (x : (Int × (Int × Int)) × Int × Int × Unit) : Option ((Int × (Int × Int)) × (Bool × Unit)) :=
  Option.bind (m46 (x.1, ())) fun (y1 : (Int × Unit)) =>
  bif (decide ((if x.1.1 > x.2.1 then x.1.1 else x.2.1) ≥ (if y1.1 < x.2.2.1 then y1.1 else x.2.2.1))) then
    (some (((0 : Int), ((0 : Int), (0 : Int))), (false, ())))
  else
    (some (((if x.1.1 > x.2.1 then x.1.1 else x.2.1), ((Go.IntKind.wrap .i64 ((if y1.1 < x.2.2.1 then y1.1 else x.2.2.1) - (if x.1.1 > x.2.1 then x.1.1 else x.2.1))), (Go.IntKind.wrap .i64 ((Go.IntKind.wrap .i64 (x.1.2.2 + (if x.1.1 > x.2.1 then x.1.1 else x.2.1))) - x.1.1)))), (true, ())))

noncomputable def r53 : PDen [(true, (.pair (.int .i64) (.pair (.int .i64) (.int .i64)))), (false, (.int .i64)), (false, (.int .i64))] → Option (PDen [(true, (.pair (.int .i64) (.pair (.int .i64) (.int .i64)))), (false, .bool)]) := fun x => afun Try.prog (envOf [(46, ⟨[(true, (.pair (.int .i64) (.pair (.int .i64) (.int .i64))))], [(false, (.int .i64))], false, m46⟩)] [] [] []) ⟨[], []⟩ Try.f53 [(true, (.pair (.int .i64) (.pair (.int .i64) (.int .i64)))), (false, (.int .i64)), (false, (.int .i64))] [(true, (.pair (.int .i64) (.pair (.int .i64) (.int .i64)))), (false, .bool)] false x
theorem r53_eq : r53 = m53 := by kernel_rfl

theorem c53 : CS.Sound Try.prog 53 ⟨[(true, (.pair (.int .i64) (.pair (.int .i64) (.int .i64)))), (false, (.int .i64)), (false, (.int .i64))], [(true, (.pair (.int .i64) (.pair (.int .i64) (.int .i64)))), (false, .bool)], false, m53⟩ := afun_sound' (envOf_sound (CSs.cons c46 (CSs.nil)) (HDs.nil) (IDs.nil)) rfl Try.follows (f := 53) (fn := Try.f53) Try.func53 (by kernel_rfl) (by kernel_rfl) r53_eq
end Go.Proofs.Ytlkgkmalfdlbfaa
end

section
/- What function 40 (slipway/extent.clips) computes, by the kernel. -/
open Go Go.Proofs.AM
namespace Go.Proofs.Ytlkgkmalfdlbfaa

noncomputable def m40 (x : (List (Int × (Int × Int))) × Int × Int × Unit) : Option ((List (Int × (Int × Int))) × Unit) :=
  Option.bind (loopM (X := ((List (Int × (Int × Int))) × Int)) (E := (List (Int × (Int × Int)))) (fun (x1 : ((List (Int × (Int × Int))) × Int)) =>
      bif (decide (x1.2 < (((List.length x.1) : Nat) : Int))) then
        (gd ((0 : Int) ≤ x1.2) (gd (x1.2 < (((List.length x.1) : Nat) : Int)) (Option.bind (m53 ((List.getD x.1 (Int.toNat x1.2) ((0 : Int), ((0 : Int), (0 : Int)))), (x.2.1, (x.2.2.1, ())))) fun (y2 : ((Int × (Int × Int)) × (Bool × Unit))) =>
            bif y2.2.1 then
              (gd ((((List.length x1.1) + (List.length (y2.1 :: ([] : List (Int × (Int × Int)))))) * 24) ≤ 140737488355328) (gd (((List.length x1.1) + (List.length (y2.1 :: ([] : List (Int × (Int × Int)))))) ≤ 140737488355328) (some (Sum.inl ((x1.1 ++ (y2.1 :: ([] : List (Int × (Int × Int))))), (Go.IntKind.wrap .i64 (x1.2 + (1 : Int))))))))
            else
              (some (Sum.inl (x1.1, (Go.IntKind.wrap .i64 (x1.2 + (1 : Int)))))))))
      else
        (some (Sum.inr x1.1))) (([] : List (Int × (Int × Int))), (0 : Int))) fun (y1 : (List (Int × (Int × Int)))) =>
  some (y1, ())

noncomputable def r40 : PDen [(false, (.sl (.pair (.int .i64) (.pair (.int .i64) (.int .i64))))), (false, (.int .i64)), (false, (.int .i64))] → Option (PDen [(false, (.sl (.pair (.int .i64) (.pair (.int .i64) (.int .i64)))))]) := fun x => afun Try.prog (envOf [(53, ⟨[(true, (.pair (.int .i64) (.pair (.int .i64) (.int .i64)))), (false, (.int .i64)), (false, (.int .i64))], [(true, (.pair (.int .i64) (.pair (.int .i64) (.int .i64)))), (false, .bool)], false, m53⟩)] [] [] []) ⟨[(0, ⟨[.slot 7 (.v 24 (.pair (.int .i64) (.pair (.int .i64) (.int .i64))) true), .slot 14 (.d false (.int .i64) true)], [], [(some 0, [.slot 7 (.v 24 (.pair (.int .i64) (.pair (.int .i64) (.int .i64))) true)])], none⟩)], []⟩ Try.f40 [(false, (.sl (.pair (.int .i64) (.pair (.int .i64) (.int .i64))))), (false, (.int .i64)), (false, (.int .i64))] [(false, (.sl (.pair (.int .i64) (.pair (.int .i64) (.int .i64)))))] false x
theorem r40_eq : r40 = m40 := by kernel_rfl

theorem c40 : CS.Sound Try.prog 40 ⟨[(false, (.sl (.pair (.int .i64) (.pair (.int .i64) (.int .i64))))), (false, (.int .i64)), (false, (.int .i64))], [(false, (.sl (.pair (.int .i64) (.pair (.int .i64) (.int .i64)))))], false, m40⟩ := afun_sound' (envOf_sound (CSs.cons c53 (CSs.nil)) (HDs.nil) (IDs.nil)) rfl Try.follows (f := 40) (fn := Try.f40) Try.func40 (by kernel_rfl) (by kernel_rfl) r40_eq
end Go.Proofs.Ytlkgkmalfdlbfaa
end

section
/- What function 17 (slices.Clone(()slipway/api.Extent,slipway/api.Extent)) computes, by the kernel. -/
open Go Go.Proofs.AM
namespace Go.Proofs.Ytlkgkmalfdlbfaa

noncomputable def m17 (x : (List (Int × (Int × Int))) × Unit) : Option (List (Int × (Int × Int))) :=
  both (bif (decide ((((List.length x.1) : Nat) : Int) = (0 : Int))) then
      (some ([] : List (Int × (Int × Int))))
    else
      (gd ((((List.length ([] : List (Int × (Int × Int)))) + (List.length x.1)) * 24) ≤ 140737488355328) (gd (((List.length ([] : List (Int × (Int × Int)))) + (List.length x.1)) ≤ 140737488355328) (some (([] : List (Int × (Int × Int))) ++ x.1))))) (gd ((((List.length ([] : List (Int × (Int × Int)))) + (List.length x.1)) * 24) ≤ 140737488355328) (gd (((List.length ([] : List (Int × (Int × Int)))) + (List.length x.1)) ≤ 140737488355328) (some (([] : List (Int × (Int × Int))) ++ x.1))))

noncomputable def r17 : PDen [(false, (.sl (.pair (.int .i64) (.pair (.int .i64) (.int .i64)))))] → Option (List (K.den (.pair (.int .i64) (.pair (.int .i64) (.int .i64))))) := fun x => afunO Try.prog (envOf [] [] [] []) ⟨[], []⟩ Try.f17 [(false, (.sl (.pair (.int .i64) (.pair (.int .i64) (.int .i64)))))] 24 (.pair (.int .i64) (.pair (.int .i64) (.int .i64))) false x
theorem r17_eq : r17 = m17 := by kernel_rfl

theorem c17 : OS.Sound Try.prog 17 ⟨[(false, (.sl (.pair (.int .i64) (.pair (.int .i64) (.int .i64)))))], 24, (.pair (.int .i64) (.pair (.int .i64) (.int .i64))), false, m17⟩ := afunO_sound' (envOf_sound (CSs.nil) (HDs.nil) (IDs.nil)) rfl Try.follows (f := 17) (fn := Try.f17) Try.func17 (by kernel_rfl) (by kernel_rfl) r17_eq
end Go.Proofs.Ytlkgkmalfdlbfaa
end

section
/-
  DERIVED: THE SHELF's CONTRACTS AT THIS DUMP, IN PLAIN WORDS (tools/lay-plain.mjs out of 'YtlkgkmalfdlbfaaLayA.lean', which tools/lay-shelf.mjs wrote): THE SAME DECLARATIONS UNDER THE SAME NAMES: 'import', 'namespace', 'open', 'def', 'theorem' AND NOTHING ELSE: no command of the shelf's: FOR A HAND-IN. Each laying: the table of numbers ('.._ren') and one theorem, a field a fact of the dump's own or the kernel's comparison; each contract: ONE APPLICATION.
-/
namespace Go.Proofs
open Go.Shelf
def Try.sortExt_ren : Go.Shelf.Ren := ⟨fun | 6 => 43 | 15 => 55 | 14 => 54 | 28 => 67 | 29 => 68 | 20 => 59 | 21 => 60 | 22 => 61 | 23 => 62 | 24 => 63 | 25 => 64 | 26 => 65 | 27 => 66 | 46 => 69 | 47 => 70 | 48 => 71 | 49 => 72 | 50 => 73 | 57 => 74 | n => n, fun | 22 => 22 | 24 => 24 | 25 => 65 | 3 => 3 | 39 => 76 | 0 => 0 | 53 => 88 | 55 => 90 | 4 => 4 | 46 => 82 | 45 => 81 | 50 => 35 | 5 => 5 | 9 => 9 | 66 => 91 | 70 => 95 | 76 => 97 | 77 => 98 | n => n, fun | n => n⟩
theorem Try.sortExt : Go.Proofs.SlLaysF0.n6 Try.prog Try.sortExt_ren := {
  mixed := by kernel_rfl
  f6 := ⟨Try.f43.name, by decide, Try.func43.trans (congrArg some (by kernel_rfl))⟩
  f14 := ⟨Try.f54.name, by decide, Try.func54.trans (congrArg some (by kernel_rfl))⟩
  f15 := Try.func55.trans (congrArg some (by kernel_rfl))
  f20 := ⟨Try.f59.name, by decide, Try.func59.trans (congrArg some (by kernel_rfl))⟩
  f21 := ⟨Try.f60.name, by decide, Try.func60.trans (congrArg some (by kernel_rfl))⟩
  f22 := ⟨Try.f61.name, by decide, Try.func61.trans (congrArg some (by kernel_rfl))⟩
  f23 := ⟨Try.f62.name, by decide, Try.func62.trans (congrArg some (by kernel_rfl))⟩
  f24 := ⟨Try.f63.name, by decide, Try.func63.trans (congrArg some (by kernel_rfl))⟩
  f25 := ⟨Try.f64.name, by decide, Try.func64.trans (congrArg some (by kernel_rfl))⟩
  f26 := ⟨Try.f65.name, by decide, Try.func65.trans (congrArg some (by kernel_rfl))⟩
  f27 := ⟨Try.f66.name, by decide, Try.func66.trans (congrArg some (by kernel_rfl))⟩
  f28 := Try.func67.trans (congrArg some (by kernel_rfl))
  f29 := Try.func68.trans (congrArg some (by kernel_rfl))
  f46 := ⟨Try.f69.name, by decide, Try.func69.trans (congrArg some (by kernel_rfl))⟩
  f47 := Try.func70.trans (congrArg some (by kernel_rfl))
  f48 := Try.func71.trans (congrArg some (by kernel_rfl))
  f49 := ⟨Try.f72.name, by decide, Try.func72.trans (congrArg some (by kernel_rfl))⟩
  f50 := ⟨Try.f73.name, by decide, Try.func73.trans (congrArg some (by kernel_rfl))⟩
  f57 := ⟨Try.f74.name, by decide, Try.func74.trans (congrArg some (by kernel_rfl))⟩
  t0 := Try.underlying0
  a0 := Try.isAgg0
  z0 := Try.sizeOf0
  v0 := Try.zeroValue0
  t3 := Try.underlying3
  a3 := Try.isAgg3
  z3 := Try.sizeOf3
  v3 := Try.zeroValue3
  t4 := Try.underlying4
  a4 := Try.isAgg4
  z4 := Try.sizeOf4
  v4 := Try.zeroValue4
  t5 := Try.underlying5
  a5 := Try.isAgg5
  z5 := Try.sizeOf5
  v5 := Try.zeroValue5
  t9 := Try.underlying9
  a9 := Try.isAgg9
  z9 := Try.sizeOf9
  v9 := Try.zeroValue9
  t22 := Try.underlying22
  a22 := Try.isAgg22
  z22 := Try.sizeOf22
  v22 := Try.zeroValue22
  t25 := Try.underlying65
  a25 := Try.isAgg65
  z25 := Try.sizeOf65
  v25 := Try.zeroValue65
  t39 := Try.underlying76
  a39 := Try.isAgg76
  z39 := Try.sizeOf76
  v39 := Try.zeroValue76
  t45 := Try.underlying81
  a45 := Try.isAgg81
  z45 := Try.sizeOf81
  v45 := Try.zeroValue81
  t46 := Try.underlying82
  a46 := Try.isAgg82
  z46 := Try.sizeOf82
  v46 := Try.zeroValue82
  t50 := Try.underlying35
  a50 := Try.isAgg35
  z50 := Try.sizeOf35
  v50 := Try.zeroValue35
  t53 := Try.underlying88
  a53 := Try.isAgg88
  z53 := Try.sizeOf88
  v53 := Try.zeroValue88
  t55 := Try.underlying90
  a55 := Try.isAgg90
  z55 := Try.sizeOf90
  v55 := Try.zeroValue90
  t66 := Try.underlying91
  a66 := Try.isAgg91
  z66 := Try.sizeOf91
  v66 := Try.zeroValue91
  t70 := Try.underlying95
  a70 := Try.isAgg95
  z70 := Try.sizeOf95
  v70 := Try.zeroValue95
  t76 := Try.underlying97
  a76 := Try.isAgg97
  z76 := Try.sizeOf97
  v76 := Try.zeroValue97
  t77 := Try.underlying98
  a77 := Try.isAgg98
  z77 := Try.sizeOf98
  v77 := Try.zeroValue98 }
end Go.Proofs
end

section
/- Sorting nothing: the calls at an empty slice. -/
open Go Go.Proofs.AM Go.Shelf Go.Lib
namespace Go.Proofs
theorem nil59 (g : Nat) (A : Option Addr) (cap : Nat) (w : World) : Calls Try.prog 59 #[.slice A 0 cap, .int .i64 0, .int .i64 0, .func (.func g) #[] #[]] w fun e w' => e = .returned (.tuple #[]) ∧ Grew w w' := by
  go_enter Try.func59, Try.ntmps59
  go_wp2
  apply wp_loop_once
  go_wp2
  go_end0
  exact ⟨rfl, Grew.refl _⟩
theorem nil54 (g : Nat) (A : Option Addr) (cap : Nat) (lim : Int) (w : World) : Calls Try.prog 54 #[.slice A 0 cap, .int .i64 0, .int .i64 0, .int .i64 lim, .func (.func g) #[] #[]] w fun e w' => e = .returned (.tuple #[]) ∧ Grew w w' := by
  have h59 := fun w => nil59 g A cap w
  go_enter Try.func54, Try.ntmps54
  go_wp2
  apply wp_loop_once
  go_wp2_with (go_at_call 59; refine (h59 _).mono ?_; rintro e w' ⟨rfl, hg⟩)
  exact bodyPost_ret (results_none rfl _ _ _) rfl ⟨rfl, hg⟩
theorem nil43 (g : Nat) (A : Option Addr) (cap : Nat) (w : World) : Calls Try.prog 43 #[.slice A 0 cap, .func (.func g) #[] #[]] w fun e w' => e = .returned (.tuple #[]) ∧ Grew w w' := by
  have h54 := fun lim w => nil54 g A cap lim w
  have h55 : ∀ w, Calls Try.prog 55 #[.int .u64 0] w fun e w' => ∃ l : Int, e = .returned (.int .i64 l) ∧ w' = w := fun w => by
    have h := Any.bits_Len (SlLaysF0.n15.bits (P := Try.prog) (ρ := Try.sortExt_ren) { Try.sortExt with }) 0 w (by omega) (by omega)
    exact h.mono fun _ _ ⟨he, hw⟩ => ⟨_, he, hw⟩
  go_enter Try.func43, Try.ntmps43
  go_wp2_with (first | (go_at_call 55; refine (h55 _).mono ?_; rintro e w' ⟨l, rfl, rfl⟩) | (go_at_call 54; refine (h54 _ _).mono ?_; rintro e w' ⟨rfl, hg⟩))
  go_end0
  exact ⟨rfl, hg⟩
end Go.Proofs
end

section
/- What function 56 (cmp.isNaN(int)) computes, by the kernel. -/
open Go Go.Proofs.AM
namespace Go.Proofs.Ytlkgkmalfdlbfaa

noncomputable def m56 (x : Int × Unit) : Option (Bool × Unit) :=
  some ((!(decide (x.1 = x.1))), ())

noncomputable def r56 : PDen [(false, (.int .i64))] → Option (PDen [(false, .bool)]) := fun x => afun Try.prog (envOf [] [] [] []) ⟨[], []⟩ Try.f56 [(false, (.int .i64))] [(false, .bool)] false x
theorem r56_eq : r56 = m56 := by kernel_rfl

theorem c56 : CS.Sound Try.prog 56 ⟨[(false, (.int .i64))], [(false, .bool)], false, m56⟩ := afun_sound' (envOf_sound (CSs.nil) (HDs.nil) (IDs.nil)) rfl Try.follows (f := 56) (fn := Try.f56) Try.func56 (by kernel_rfl) (by kernel_rfl) r56_eq
end Go.Proofs.Ytlkgkmalfdlbfaa
end

section
/- What function 45 (cmp.Compare(int)) computes, by the kernel. -/
open Go Go.Proofs.AM
namespace Go.Proofs.Ytlkgkmalfdlbfaa

noncomputable def m45 (x : Int × Int × Unit) : Option (Int × Unit) :=
  Option.bind (m56 (x.1, ())) fun (y1 : (Bool × Unit)) =>
  Option.bind (m56 (x.2.1, ())) fun (y2 : (Bool × Unit)) =>
  bif y1.1 then
    (bif y2.1 then
      (some ((0 : Int), ()))
    else
      (some ((-1 : Int), ())))
  else
    (bif y2.1 then
      (some ((1 : Int), ()))
    else
      (bif (decide (x.1 < x.2.1)) then
        (some ((-1 : Int), ()))
      else
        (bif (decide (x.1 > x.2.1)) then
          (some ((1 : Int), ()))
        else
          (some ((0 : Int), ())))))

noncomputable def r45 : PDen [(false, (.int .i64)), (false, (.int .i64))] → Option (PDen [(false, (.int .i64))]) := fun x => afun Try.prog (envOf [(56, ⟨[(false, (.int .i64))], [(false, .bool)], false, m56⟩)] [] [] []) ⟨[], []⟩ Try.f45 [(false, (.int .i64)), (false, (.int .i64))] [(false, (.int .i64))] false x
theorem r45_eq : r45 = m45 := by kernel_rfl

theorem c45 : CS.Sound Try.prog 45 ⟨[(false, (.int .i64)), (false, (.int .i64))], [(false, (.int .i64))], false, m45⟩ := afun_sound' (envOf_sound (CSs.cons c56 (CSs.nil)) (HDs.nil) (IDs.nil)) rfl Try.follows (f := 45) (fn := Try.f45) Try.func45 (by kernel_rfl) (by kernel_rfl) r45_eq
end Go.Proofs.Ytlkgkmalfdlbfaa
end

section
/- What function 44 (slipway/extent.Norm$1) computes, by the kernel. -/
open Go Go.Proofs.AM
namespace Go.Proofs.Ytlkgkmalfdlbfaa

noncomputable def m44 (x : (Int × (Int × Int)) × (Int × (Int × Int)) × Unit) : Option (Int × Unit) :=
  Option.bind (m45 (x.1.1, (x.2.1.1, ()))) fun (y1 : (Int × Unit)) =>
  some (y1.1, ())

noncomputable def r44 : PDen [(true, (.pair (.int .i64) (.pair (.int .i64) (.int .i64)))), (true, (.pair (.int .i64) (.pair (.int .i64) (.int .i64))))] → Option (PDen [(false, (.int .i64))]) := fun x => afun Try.prog (envOf [(45, ⟨[(false, (.int .i64)), (false, (.int .i64))], [(false, (.int .i64))], false, m45⟩)] [] [] []) ⟨[], []⟩ Try.f44 [(true, (.pair (.int .i64) (.pair (.int .i64) (.int .i64)))), (true, (.pair (.int .i64) (.pair (.int .i64) (.int .i64))))] [(false, (.int .i64))] false x
theorem r44_eq : r44 = m44 := by kernel_rfl

theorem c44 : CS.Sound Try.prog 44 ⟨[(true, (.pair (.int .i64) (.pair (.int .i64) (.int .i64)))), (true, (.pair (.int .i64) (.pair (.int .i64) (.int .i64))))], [(false, (.int .i64))], false, m44⟩ := afun_sound' (envOf_sound (CSs.cons c45 (CSs.nil)) (HDs.nil) (IDs.nil)) rfl Try.follows (f := 44) (fn := Try.f44) Try.func44 (by kernel_rfl) (by kernel_rfl) r44_eq
end Go.Proofs.Ytlkgkmalfdlbfaa
end

section
/- What function 51 (slipway/extent.norm$1) computes, by the kernel. -/
open Go Go.Proofs.AM
namespace Go.Proofs.Ytlkgkmalfdlbfaa

noncomputable def m51 (x : (Int × (Int × Int)) × (Int × (Int × Int)) × Unit) : Option (Int × Unit) :=
  Option.bind (m45 (x.1.1, (x.2.1.1, ()))) fun (y1 : (Int × Unit)) =>
  some (y1.1, ())

noncomputable def r51 : PDen [(true, (.pair (.int .i64) (.pair (.int .i64) (.int .i64)))), (true, (.pair (.int .i64) (.pair (.int .i64) (.int .i64))))] → Option (PDen [(false, (.int .i64))]) := fun x => afun Try.prog (envOf [(45, ⟨[(false, (.int .i64)), (false, (.int .i64))], [(false, (.int .i64))], false, m45⟩)] [] [] []) ⟨[], []⟩ Try.f51 [(true, (.pair (.int .i64) (.pair (.int .i64) (.int .i64)))), (true, (.pair (.int .i64) (.pair (.int .i64) (.int .i64))))] [(false, (.int .i64))] false x
theorem r51_eq : r51 = m51 := by kernel_rfl

theorem c51 : CS.Sound Try.prog 51 ⟨[(true, (.pair (.int .i64) (.pair (.int .i64) (.int .i64)))), (true, (.pair (.int .i64) (.pair (.int .i64) (.int .i64))))], [(false, (.int .i64))], false, m51⟩ := afun_sound' (envOf_sound (CSs.cons c45 (CSs.nil)) (HDs.nil) (IDs.nil)) rfl Try.follows (f := 51) (fn := Try.f51) Try.func51 (by kernel_rfl) (by kernel_rfl) r51_eq
end Go.Proofs.Ytlkgkmalfdlbfaa
end

section
/- Sorting extents by their first blocks: what the two calls do. No condition. -/
open Go Go.Proofs.AM Go.Sort
namespace Go.Proofs.Ytlkgkmalfdlbfaa
abbrev kX : K := .pair (.int .i64) (.pair (.int .i64) (.int .i64))
def cfX (x y : kX.den) : Int := if x.1 < y.1 then -1 else if x.1 > y.1 then 1 else 0
theorem ltX (x y : kX.den) : ltOf cfX x y = decide ((show Int from x.1) < y.1) := by
  unfold ltOf cfX
  by_cases h : (show Int from x.1) < y.1
  · simp [h]
  · by_cases h2 : (show Int from x.1) > y.1 <;> simp [h, h2]
theorem swoX : SWO (ltOf cfX) where
  irrefl x := by rw [ltX]; simp
  trans x y z h1 h2 := by rw [ltX] at *; simp at *; omega
  ntrans x y z h1 h2 := by rw [ltX] at *; simp at *; omega
theorem m45_eq (a b : Int) : m45 (a, (b, ())) = some (if a < b then -1 else if a > b then 1 else 0, ()) := by
  unfold m45 m56
  by_cases h : a < b
  · simp [h]
  · by_cases h2 : a > b <;> simp [h, h2]
theorem m44_eq (x y : kX.den) : m44 (x, (y, ())) = some (cfX x y, ()) := by
  unfold m44; rw [m45_eq]; rfl
theorem m51_eq (x y : kX.den) : m51 (x, (y, ())) = some (cfX x y, ()) := by
  unfold m51; rw [m45_eq]; rfl
noncomputable def m43_44 (x : List (Int × (Int × Int)) × Unit) : Option (List (Int × (Int × Int))) := gd (x.1.length ≤ 140737488355328) (some (sortS (k := kX) cfX x.1))
noncomputable def m43_51 (x : List (Int × (Int × Int)) × Unit) : Option (List (Int × (Int × Int))) := gd (x.1.length ≤ 140737488355328) (some (sortS (k := kX) cfX x.1))
theorem aggX (w : World) : (isAgg 24).run Try.prog w = .ok true w := by
  rw [run_isAgg Try.underlying24]; rfl
theorem sizeX (w : World) : (Go.sizeOf 24).run Try.prog w = .ok kX.size w := by
  have h : (Try.prog.info? 24).map (fun i => i.size) = some 3 := by kernel_rfl
  obtain ⟨i, hi, hs⟩ := Option.map_eq_some_iff.1 h
  rw [Go.Proofs.AM.run_sizeOf hi, hs]; rfl
/-- The call at a slice of nothing. -/
def SortNil (g : FuncId) : Prop := ∀ (A : Option Addr) (cap : Nat) (w : World), Calls Try.prog 43 #[.slice A 0 cap, .func (.func g) #[] #[]] w fun e w' => e = .returned (.tuple #[]) ∧ Grew w w'
theorem hM (g : List (Int × (Int × Int)) × Unit → Option (List (Int × (Int × Int)))) (hg : ∀ xs, g (xs, ()) = gd (xs.length ≤ 140737488355328) (some (sortS (k := kX) cfX xs))) (xs y : List kX.den) (h : g (xs, ()) = some y) : y = sortS cfX xs ∧ xs.length ≤ 140737488355328 := by
  rw [hg] at h
  obtain ⟨h1, h2⟩ := gd_some h
  exact ⟨by simpa using h2.symm, h1⟩
theorem nil44 : SortNil 44 := fun A cap w => Go.Proofs.nil43 44 A cap w
theorem nil51 : SortNil 51 := fun A cap w => Go.Proofs.nil43 51 A cap w
theorem c43_44 : (sortHD 44 24 kX m43_44).Sound Try.prog 43 :=
  sortHD_sound (S := sortS cfX) (hM m43_44 (fun _ => rfl)) (sortOK_of Try.sortExt rfl aggX sizeX swoX c44 m44_eq (fun args w => enters_of Try.func43 (by kernel_rfl) rfl args w) nil44) rfl
theorem c43_51 : (sortHD 51 24 kX m43_51).Sound Try.prog 43 :=
  sortHD_sound (S := sortS cfX) (hM m43_51 (fun _ => rfl)) (sortOK_of Try.sortExt rfl aggX sizeX swoX c51 m51_eq (fun args w => enters_of Try.func43 (by kernel_rfl) rfl args w) nil51) rfl
end Go.Proofs.Ytlkgkmalfdlbfaa
end

section
/- What function 38 (slipway/extent.norm) computes, by the kernel. -/
open Go Go.Proofs.AM
namespace Go.Proofs.Ytlkgkmalfdlbfaa

noncomputable def m38 (x : (List (Int × (Int × Int))) × Unit) : Option (List (Int × (Int × Int))) :=
  Option.bind (m17 (x.1, ())) fun (y1 : (List (Int × (Int × Int)))) =>
  Option.bind (m43_51 (y1, ())) fun (y2 : (List (Int × (Int × Int)))) =>
  Option.bind (loopM (X := ((List (Int × (Int × Int))) × Int)) (E := (List (Int × (Int × Int)))) (fun (x3 : ((List (Int × (Int × Int))) × Int)) =>
      bif (decide (x3.2 < (((List.length y2) : Nat) : Int))) then
        (gd ((0 : Int) ≤ x3.2) (gd (x3.2 < (((List.length y2) : Nat) : Int)) (gd ((Int.toNat x3.2) < (List.length y2)) (bif (decide ((((List.length x3.1) : Nat) : Int) > (0 : Int))) then
                (gd ((0 : Int) ≤ (Go.IntKind.wrap .i64 ((((List.length x3.1) : Nat) : Int) - (1 : Int)))) (gd ((Go.IntKind.wrap .i64 ((((List.length x3.1) : Nat) : Int) - (1 : Int))) < (((List.length x3.1) : Nat) : Int)) (gd ((Int.toNat (Go.IntKind.wrap .i64 ((((List.length x3.1) : Nat) : Int) - (1 : Int)))) < (List.length x3.1)) (Option.bind (m50 ((List.getD x3.1 (Int.toNat (Go.IntKind.wrap .i64 ((((List.length x3.1) : Nat) : Int) - (1 : Int)))) ((0 : Int), ((0 : Int), (0 : Int)))), ((List.getD y2 (Int.toNat x3.2) ((0 : Int), ((0 : Int), (0 : Int)))), ()))) fun (y4 : (Bool × Unit)) =>
                      bif y4.1 then
                        (gd ((0 : Int) ≤ (Go.IntKind.wrap .i64 ((((List.length x3.1) : Nat) : Int) - (1 : Int)))) (gd ((Go.IntKind.wrap .i64 ((((List.length x3.1) : Nat) : Int) - (1 : Int))) < (((List.length x3.1) : Nat) : Int)) (gd ((Int.toNat (Go.IntKind.wrap .i64 ((((List.length x3.1) : Nat) : Int) - (1 : Int)))) < (List.length x3.1)) (gd ((0 : Int) ≤ (Go.IntKind.wrap .i64 ((((List.length x3.1) : Nat) : Int) - (1 : Int)))) (gd ((Go.IntKind.wrap .i64 ((((List.length x3.1) : Nat) : Int) - (1 : Int))) < (((List.length x3.1) : Nat) : Int)) (gd ((Int.toNat (Go.IntKind.wrap .i64 ((((List.length x3.1) : Nat) : Int) - (1 : Int)))) < (List.length x3.1)) (some (Sum.inl ((List.set x3.1 (Int.toNat (Go.IntKind.wrap .i64 ((((List.length x3.1) : Nat) : Int) - (1 : Int)))) ((List.getD x3.1 (Int.toNat (Go.IntKind.wrap .i64 ((((List.length x3.1) : Nat) : Int) - (1 : Int)))) ((0 : Int), ((0 : Int), (0 : Int)))).1, ((Go.IntKind.wrap .i64 ((List.getD x3.1 (Int.toNat (Go.IntKind.wrap .i64 ((((List.length x3.1) : Nat) : Int) - (1 : Int)))) ((0 : Int), ((0 : Int), (0 : Int)))).2.1 + (List.getD y2 (Int.toNat x3.2) ((0 : Int), ((0 : Int), (0 : Int)))).2.1)), (List.getD x3.1 (Int.toNat (Go.IntKind.wrap .i64 ((((List.length x3.1) : Nat) : Int) - (1 : Int)))) ((0 : Int), ((0 : Int), (0 : Int)))).2.2))), (Go.IntKind.wrap .i64 (x3.2 + (1 : Int))))))))))))
                      else
                        (gd ((((List.length x3.1) + (List.length ((List.getD y2 (Int.toNat x3.2) ((0 : Int), ((0 : Int), (0 : Int)))) :: ([] : List (Int × (Int × Int)))))) * 24) ≤ 140737488355328) (gd (((List.length x3.1) + (List.length ((List.getD y2 (Int.toNat x3.2) ((0 : Int), ((0 : Int), (0 : Int)))) :: ([] : List (Int × (Int × Int)))))) ≤ 140737488355328) (some (Sum.inl ((x3.1 ++ ((List.getD y2 (Int.toNat x3.2) ((0 : Int), ((0 : Int), (0 : Int)))) :: ([] : List (Int × (Int × Int))))), (Go.IntKind.wrap .i64 (x3.2 + (1 : Int))))))))))))
              else
                (gd ((((List.length x3.1) + (List.length ((List.getD y2 (Int.toNat x3.2) ((0 : Int), ((0 : Int), (0 : Int)))) :: ([] : List (Int × (Int × Int)))))) * 24) ≤ 140737488355328) (gd (((List.length x3.1) + (List.length ((List.getD y2 (Int.toNat x3.2) ((0 : Int), ((0 : Int), (0 : Int)))) :: ([] : List (Int × (Int × Int)))))) ≤ 140737488355328) (some (Sum.inl ((x3.1 ++ ((List.getD y2 (Int.toNat x3.2) ((0 : Int), ((0 : Int), (0 : Int)))) :: ([] : List (Int × (Int × Int))))), (Go.IntKind.wrap .i64 (x3.2 + (1 : Int))))))))))))
      else
        (some (Sum.inr x3.1))) (([] : List (Int × (Int × Int))), (0 : Int))) fun (y3 : (List (Int × (Int × Int)))) =>
  some y3

noncomputable def r38 : PDen [(false, (.sl (.pair (.int .i64) (.pair (.int .i64) (.int .i64)))))] → Option (List (K.den (.pair (.int .i64) (.pair (.int .i64) (.int .i64))))) := fun x => afunO Try.prog (envOf [(50, ⟨[(true, (.pair (.int .i64) (.pair (.int .i64) (.int .i64)))), (true, (.pair (.int .i64) (.pair (.int .i64) (.int .i64))))], [(false, .bool)], false, m50⟩)] [(43, sortHD 51 24 (.pair (.int .i64) (.pair (.int .i64) (.int .i64))) m43_51), (17, OS.hd ⟨[(false, (.sl (.pair (.int .i64) (.pair (.int .i64) (.int .i64)))))], 24, (.pair (.int .i64) (.pair (.int .i64) (.int .i64))), false, m17⟩)] [] []) ⟨[(0, ⟨[.slot 3 (.v 24 (.pair (.int .i64) (.pair (.int .i64) (.int .i64))) true), .slot 13 (.d false (.int .i64) true)], [], [(some 0, [.slot 3 (.v 24 (.pair (.int .i64) (.pair (.int .i64) (.int .i64))) true)])], none⟩)], []⟩ Try.f38 [(false, (.sl (.pair (.int .i64) (.pair (.int .i64) (.int .i64)))))] 24 (.pair (.int .i64) (.pair (.int .i64) (.int .i64))) false x
theorem r38_eq : r38 = m38 := by kernel_rfl

theorem c38 : OS.Sound Try.prog 38 ⟨[(false, (.sl (.pair (.int .i64) (.pair (.int .i64) (.int .i64)))))], 24, (.pair (.int .i64) (.pair (.int .i64) (.int .i64))), false, m38⟩ := afunO_sound' (envOf_sound (CSs.cons c50 (CSs.nil)) (HDs.cons c43_51 (HDs.cons (OS.Sound.hd c17) (HDs.nil))) (IDs.nil)) rfl Try.follows (f := 38) (fn := Try.f38) Try.func38 (by kernel_rfl) (by kernel_rfl) r38_eq
end Go.Proofs.Ytlkgkmalfdlbfaa
end

section
/- What function 14 (slipway/extent.Punch) computes, by the kernel. -/
open Go Go.Proofs.AM
namespace Go.Proofs.Ytlkgkmalfdlbfaa

noncomputable def m14 (x : (List (Int × (Int × Int))) × Int × Int × Unit) : Option ((List (Int × (Int × Int))) × ((List (Int × (Int × Int))) × (Int × Unit))) :=
  Option.bind (m29 (x.1, ())) fun (y1 : (Int × Unit)) =>
  bif (!(decide (y1.1 = (0 : Int)))) then
    (some (([] : List (Int × (Int × Int))), (([] : List (Int × (Int × Int))), (y1.1, ()))))
  else
    (bif (decide (x.2.1 < (0 : Int))) then
      (some (([] : List (Int × (Int × Int))), (([] : List (Int × (Int × Int))), ((1 : Int), ()))))
    else
      (bif (decide (x.2.1 > (65536 : Int))) then
        (some (([] : List (Int × (Int × Int))), (([] : List (Int × (Int × Int))), ((1 : Int), ()))))
      else
        (bif (decide (x.2.2.1 < (0 : Int))) then
          (some (([] : List (Int × (Int × Int))), (([] : List (Int × (Int × Int))), ((1 : Int), ()))))
        else
          (Option.bind (m40 (x.1, ((0 : Int), (x.2.1, ())))) fun (y2 : ((List (Int × (Int × Int))) × Unit)) =>
          Option.bind (m40 (x.1, ((Go.IntKind.wrap .i64 (x.2.1 + (if (Go.IntKind.wrap .i64 ((65536 : Int) - x.2.1)) < x.2.2.1 then (Go.IntKind.wrap .i64 ((65536 : Int) - x.2.1)) else x.2.2.1))), ((65536 : Int), ())))) fun (y3 : ((List (Int × (Int × Int))) × Unit)) =>
          Option.bind (m39 ((y2.1 :: (y3.1 :: ([] : List (List (Int × (Int × Int)))))), ())) fun (y4 : ((List (Int × (Int × Int))) × Unit)) =>
          Option.bind (m38 (y4.1, ())) fun (y5 : (List (Int × (Int × Int)))) =>
          Option.bind (m40 (x.1, (x.2.1, ((Go.IntKind.wrap .i64 (x.2.1 + (if (Go.IntKind.wrap .i64 ((65536 : Int) - x.2.1)) < x.2.2.1 then (Go.IntKind.wrap .i64 ((65536 : Int) - x.2.1)) else x.2.2.1))), ())))) fun (y6 : ((List (Int × (Int × Int))) × Unit)) =>
          some (y5, (y6.1, ((0 : Int), ())))))))

noncomputable def r14 : PDen [(false, (.sl (.pair (.int .i64) (.pair (.int .i64) (.int .i64))))), (false, (.int .i64)), (false, (.int .i64))] → Option (PDen [(false, (.sl (.pair (.int .i64) (.pair (.int .i64) (.int .i64))))), (false, (.sl (.pair (.int .i64) (.pair (.int .i64) (.int .i64))))), (false, (.int .i64))]) := fun x => afunM Try.prog (envOf [(29, ⟨[(false, (.sl (.pair (.int .i64) (.pair (.int .i64) (.int .i64)))))], [(false, (.int .i64))], false, m29⟩), (39, ⟨[(false, (.sl (.sl (.pair (.int .i64) (.pair (.int .i64) (.int .i64))))))], [(false, (.sl (.pair (.int .i64) (.pair (.int .i64) (.int .i64)))))], false, m39⟩), (40, ⟨[(false, (.sl (.pair (.int .i64) (.pair (.int .i64) (.int .i64))))), (false, (.int .i64)), (false, (.int .i64))], [(false, (.sl (.pair (.int .i64) (.pair (.int .i64) (.int .i64)))))], false, m40⟩)] [(38, OS.hd ⟨[(false, (.sl (.pair (.int .i64) (.pair (.int .i64) (.int .i64)))))], 24, (.pair (.int .i64) (.pair (.int .i64) (.int .i64))), false, m38⟩)] [] []) ⟨[], []⟩ Try.f14 [(false, (.sl (.pair (.int .i64) (.pair (.int .i64) (.int .i64))))), (false, (.int .i64)), (false, (.int .i64))] [(false, (.sl (.pair (.int .i64) (.pair (.int .i64) (.int .i64))))), (false, (.sl (.pair (.int .i64) (.pair (.int .i64) (.int .i64))))), (false, (.int .i64))] [(.s 24), .d, .d] false x
theorem r14_eq : r14 = m14 := by kernel_rfl

theorem c14 : OM.Sound Try.prog 14 ⟨[(false, (.sl (.pair (.int .i64) (.pair (.int .i64) (.int .i64))))), (false, (.int .i64)), (false, (.int .i64))], [(false, (.sl (.pair (.int .i64) (.pair (.int .i64) (.int .i64))))), (false, (.sl (.pair (.int .i64) (.pair (.int .i64) (.int .i64))))), (false, (.int .i64))], [(.s 24), .d, .d], false, m14⟩ := afunM_sound' (envOf_sound (CSs.cons c29 (CSs.cons c39 (CSs.cons c40 (CSs.nil)))) (HDs.cons (OS.Sound.hd c38) (HDs.nil)) (IDs.nil)) rfl Try.follows (f := 14) (fn := Try.f14) Try.func14 (by kernel_rfl) (by kernel_rfl) r14_eq
end Go.Proofs.Ytlkgkmalfdlbfaa
end

section
/- What function 16 (slipway/extent.Put) computes, by the kernel. -/
open Go Go.Proofs.AM
namespace Go.Proofs.Ytlkgkmalfdlbfaa

noncomputable def m16 (x : (List (Int × (Int × Int))) × (Int × (Int × Int)) × Unit) : Option ((List (Int × (Int × Int))) × ((List (Int × (Int × Int))) × (Int × Unit))) :=
  Option.bind (m29 (x.1, ())) fun (y1 : (Int × Unit)) =>
  bif (!(decide (y1.1 = (0 : Int)))) then
    (some (([] : List (Int × (Int × Int))), (([] : List (Int × (Int × Int))), (y1.1, ()))))
  else
    (Option.bind (m32 (x.2.1, ())) fun (y2 : (Int × Unit)) =>
    bif (!(decide (y2.1 = (0 : Int)))) then
      (some (([] : List (Int × (Int × Int))), (([] : List (Int × (Int × Int))), (y2.1, ()))))
    else
      (Option.bind (m14 (x.1, (x.2.1.1, (x.2.1.2.1, ())))) fun (y3 : ((List (Int × (Int × Int))) × ((List (Int × (Int × Int))) × (Int × Unit)))) =>
      bif (!(decide (y3.2.2.1 = (0 : Int)))) then
        (some (([] : List (Int × (Int × Int))), (([] : List (Int × (Int × Int))), (y3.2.2.1, ()))))
      else
        (gd ((((List.length y3.1) + (List.length (x.2.1 :: ([] : List (Int × (Int × Int)))))) * 24) ≤ 140737488355328) (gd (((List.length y3.1) + (List.length (x.2.1 :: ([] : List (Int × (Int × Int)))))) ≤ 140737488355328) (Option.bind (m38 ((y3.1 ++ (x.2.1 :: ([] : List (Int × (Int × Int))))), ())) fun (y4 : (List (Int × (Int × Int)))) =>
            some (y4, (y3.2.1, ((0 : Int), ()))))))))

noncomputable def r16 : PDen [(false, (.sl (.pair (.int .i64) (.pair (.int .i64) (.int .i64))))), (true, (.pair (.int .i64) (.pair (.int .i64) (.int .i64))))] → Option (PDen [(false, (.sl (.pair (.int .i64) (.pair (.int .i64) (.int .i64))))), (false, (.sl (.pair (.int .i64) (.pair (.int .i64) (.int .i64))))), (false, (.int .i64))]) := fun x => afun Try.prog (envOf [(29, ⟨[(false, (.sl (.pair (.int .i64) (.pair (.int .i64) (.int .i64)))))], [(false, (.int .i64))], false, m29⟩), (32, ⟨[(true, (.pair (.int .i64) (.pair (.int .i64) (.int .i64))))], [(false, (.int .i64))], false, m32⟩)] [(38, OS.hd ⟨[(false, (.sl (.pair (.int .i64) (.pair (.int .i64) (.int .i64)))))], 24, (.pair (.int .i64) (.pair (.int .i64) (.int .i64))), false, m38⟩), (14, OM.hd ⟨[(false, (.sl (.pair (.int .i64) (.pair (.int .i64) (.int .i64))))), (false, (.int .i64)), (false, (.int .i64))], [(false, (.sl (.pair (.int .i64) (.pair (.int .i64) (.int .i64))))), (false, (.sl (.pair (.int .i64) (.pair (.int .i64) (.int .i64))))), (false, (.int .i64))], [(.s 24), .d, .d], false, m14⟩)] [] []) ⟨[], []⟩ Try.f16 [(false, (.sl (.pair (.int .i64) (.pair (.int .i64) (.int .i64))))), (true, (.pair (.int .i64) (.pair (.int .i64) (.int .i64))))] [(false, (.sl (.pair (.int .i64) (.pair (.int .i64) (.int .i64))))), (false, (.sl (.pair (.int .i64) (.pair (.int .i64) (.int .i64))))), (false, (.int .i64))] false x
theorem r16_eq : r16 = m16 := by kernel_rfl

theorem c16 : CS.Sound Try.prog 16 ⟨[(false, (.sl (.pair (.int .i64) (.pair (.int .i64) (.int .i64))))), (true, (.pair (.int .i64) (.pair (.int .i64) (.int .i64))))], [(false, (.sl (.pair (.int .i64) (.pair (.int .i64) (.int .i64))))), (false, (.sl (.pair (.int .i64) (.pair (.int .i64) (.int .i64))))), (false, (.int .i64))], false, m16⟩ := afun_sound' (envOf_sound (CSs.cons c29 (CSs.cons c32 (CSs.nil))) (HDs.cons (OS.Sound.hd c38) (HDs.cons (OM.Sound.hd c14) (HDs.nil))) (IDs.nil)) rfl Try.follows (f := 16) (fn := Try.f16) Try.func16 (by kernel_rfl) (by kernel_rfl) r16_eq
end Go.Proofs.Ytlkgkmalfdlbfaa
end

section
/- What function 19 (slices.Equal(()slipway/api.Extent,slipway/api.Extent)) computes, by the kernel. -/
open Go Go.Proofs.AM
namespace Go.Proofs.Ytlkgkmalfdlbfaa

noncomputable def m19 (x : (List (Int × (Int × Int))) × (List (Int × (Int × Int))) × Unit) : Option (Bool × Unit) :=
  bif (!(decide ((((List.length x.1) : Nat) : Int) = (((List.length x.2.1) : Nat) : Int)))) then
    (some (false, ()))
  else
    (Option.bind (loopM (X := Int) (E := (Unit ⊕ Bool)) (fun (x1 : Int) =>
        bif (decide (x1 < (((List.length x.1) : Nat) : Int))) then
          (gd ((0 : Int) ≤ x1) (gd (x1 < (((List.length x.1) : Nat) : Int)) (gd ((0 : Int) ≤ x1) (gd (x1 < (((List.length x.2.1) : Nat) : Int)) (bif (!((decide ((List.getD x.1 (Int.toNat x1) ((0 : Int), ((0 : Int), (0 : Int)))).1 = (List.getD x.2.1 (Int.toNat x1) ((0 : Int), ((0 : Int), (0 : Int)))).1)) && ((decide ((List.getD x.1 (Int.toNat x1) ((0 : Int), ((0 : Int), (0 : Int)))).2.1 = (List.getD x.2.1 (Int.toNat x1) ((0 : Int), ((0 : Int), (0 : Int)))).2.1)) && (decide ((List.getD x.1 (Int.toNat x1) ((0 : Int), ((0 : Int), (0 : Int)))).2.2 = (List.getD x.2.1 (Int.toNat x1) ((0 : Int), ((0 : Int), (0 : Int)))).2.2))))) then
                    (some (Sum.inr (Sum.inr false)))
                  else
                    (some (Sum.inl (Go.IntKind.wrap .i64 (x1 + (1 : Int))))))))))
        else
          (some (Sum.inr (Sum.inl ())))) (0 : Int)) fun (y1 : (Unit ⊕ Bool)) =>
    Sum.elim (fun y2 =>
      some (true, ())) (fun y2 =>
      some (y2, ())) y1)

noncomputable def r19 : PDen [(false, (.sl (.pair (.int .i64) (.pair (.int .i64) (.int .i64))))), (false, (.sl (.pair (.int .i64) (.pair (.int .i64) (.int .i64)))))] → Option (PDen [(false, .bool)]) := fun x => afun Try.prog (envOf [] [] [] []) ⟨[(0, ⟨[.slot 13 (.d false (.int .i64) true)], [], [(some 0, []), (none, [.slot 4 (.d false .bool true)])], none⟩)], []⟩ Try.f19 [(false, (.sl (.pair (.int .i64) (.pair (.int .i64) (.int .i64))))), (false, (.sl (.pair (.int .i64) (.pair (.int .i64) (.int .i64)))))] [(false, .bool)] false x
theorem r19_eq : r19 = m19 := by kernel_rfl

theorem c19 : CS.Sound Try.prog 19 ⟨[(false, (.sl (.pair (.int .i64) (.pair (.int .i64) (.int .i64))))), (false, (.sl (.pair (.int .i64) (.pair (.int .i64) (.int .i64)))))], [(false, .bool)], false, m19⟩ := afun_sound' (envOf_sound (CSs.nil) (HDs.nil) (IDs.nil)) rfl Try.follows (f := 19) (fn := Try.f19) Try.func19 (by kernel_rfl) (by kernel_rfl) r19_eq
end Go.Proofs.Ytlkgkmalfdlbfaa
end

section
/- What function 8 (slipway/slipwaylaw13.live) computes, by the kernel. -/
open Go Go.Proofs.AM
namespace Go.Proofs.Ytlkgkmalfdlbfaa

noncomputable def m8 (x : Unit) : Option (Bool × Unit) :=
  Option.bind (m16 ((((0 : Int), ((4 : Int), (10 : Int))) :: ([] : List (Int × (Int × Int)))), (((4 : Int), ((2 : Int), (14 : Int))), ()))) fun (y1 : ((List (Int × (Int × Int))) × ((List (Int × (Int × Int))) × (Int × Unit)))) =>
  Option.bind (m14 (y1.1, ((2 : Int), ((1 : Int), ())))) fun (y2 : ((List (Int × (Int × Int))) × ((List (Int × (Int × Int))) × (Int × Unit)))) =>
  bif (decide (y1.2.2.1 = (0 : Int))) then
    (bif (decide (y2.2.2.1 = (0 : Int))) then
      (bif (decide ((((List.length y1.2.1) : Nat) : Int) = (0 : Int))) then
        (Option.bind (m19 (y1.1, ((((0 : Int), ((6 : Int), (10 : Int))) :: ([] : List (Int × (Int × Int)))), ()))) fun (y3 : (Bool × Unit)) =>
        bif y3.1 then
          (Option.bind (m19 (y2.1, ((((0 : Int), ((2 : Int), (10 : Int))) :: (((3 : Int), ((3 : Int), (13 : Int))) :: ([] : List (Int × (Int × Int))))), ()))) fun (y4 : (Bool × Unit)) =>
          bif y4.1 then
            (Option.bind (m19 (y2.2.1, ((((2 : Int), ((1 : Int), (12 : Int))) :: ([] : List (Int × (Int × Int)))), ()))) fun (y5 : (Bool × Unit)) =>
            some (y5.1, ()))
          else
            (some (false, ())))
        else
          (some (false, ())))
      else
        (some (false, ())))
    else
      (some (false, ())))
  else
    (some (false, ()))

noncomputable def r8 : PDen [] → Option (PDen [(false, .bool)]) := fun x => afun Try.prog (envOf [(16, ⟨[(false, (.sl (.pair (.int .i64) (.pair (.int .i64) (.int .i64))))), (true, (.pair (.int .i64) (.pair (.int .i64) (.int .i64))))], [(false, (.sl (.pair (.int .i64) (.pair (.int .i64) (.int .i64))))), (false, (.sl (.pair (.int .i64) (.pair (.int .i64) (.int .i64))))), (false, (.int .i64))], false, m16⟩), (19, ⟨[(false, (.sl (.pair (.int .i64) (.pair (.int .i64) (.int .i64))))), (false, (.sl (.pair (.int .i64) (.pair (.int .i64) (.int .i64)))))], [(false, .bool)], false, m19⟩)] [(14, OM.hd ⟨[(false, (.sl (.pair (.int .i64) (.pair (.int .i64) (.int .i64))))), (false, (.int .i64)), (false, (.int .i64))], [(false, (.sl (.pair (.int .i64) (.pair (.int .i64) (.int .i64))))), (false, (.sl (.pair (.int .i64) (.pair (.int .i64) (.int .i64))))), (false, (.int .i64))], [(.s 24), .d, .d], false, m14⟩)] [] []) ⟨[], []⟩ Try.f8 [] [(false, .bool)] false x
theorem r8_eq : r8 = m8 := by kernel_rfl

theorem c8 : CS.Sound Try.prog 8 ⟨[], [(false, .bool)], false, m8⟩ := afun_sound' (envOf_sound (CSs.cons c16 (CSs.cons c19 (CSs.nil))) (HDs.cons (OM.Sound.hd c14) (HDs.nil)) (IDs.nil)) rfl Try.follows (f := 8) (fn := Try.f8) Try.func8 (by kernel_rfl) (by kernel_rfl) r8_eq
end Go.Proofs.Ytlkgkmalfdlbfaa
end

section
/- What function 9 (slipway/slipwaylaw13.few) computes, by the kernel. -/
open Go Go.Proofs.AM
namespace Go.Proofs.Ytlkgkmalfdlbfaa

noncomputable def m9 (x : (List (List (Int × (Int × Int)))) × Unit) : Option (Bool × Unit) :=
  gd ((0 : Int) ≤ (if (40 : Int) < (((List.length x.1) : Nat) : Int) then (40 : Int) else (((List.length x.1) : Nat) : Int))) (gd ((if (40 : Int) < (((List.length x.1) : Nat) : Int) then (40 : Int) else (((List.length x.1) : Nat) : Int)) ≤ (((List.length x.1) : Nat) : Int)) (Option.bind (loopM (X := (Int × Int)) (E := (Int ⊕ Bool)) (fun (x1 : (Int × Int)) =>
          bif (decide (x1.2 < (((List.length (List.take ((Int.toNat (if (40 : Int) < (((List.length x.1) : Nat) : Int) then (40 : Int) else (((List.length x.1) : Nat) : Int))) - (Int.toNat (0 : Int))) (List.drop (Int.toNat (0 : Int)) x.1))) : Nat) : Int))) then
            (gd ((0 : Int) ≤ x1.2) (gd (x1.2 < (((List.length (List.take ((Int.toNat (if (40 : Int) < (((List.length x.1) : Nat) : Int) then (40 : Int) else (((List.length x.1) : Nat) : Int))) - (Int.toNat (0 : Int))) (List.drop (Int.toNat (0 : Int)) x.1))) : Nat) : Int)) (bif (decide ((((List.length (List.getD (List.take ((Int.toNat (if (40 : Int) < (((List.length x.1) : Nat) : Int) then (40 : Int) else (((List.length x.1) : Nat) : Int))) - (Int.toNat (0 : Int))) (List.drop (Int.toNat (0 : Int)) x.1)) (Int.toNat x1.2) ([] : List (Int × (Int × Int))))) : Nat) : Int) > (200 : Int))) then
                  (some (Sum.inr (Sum.inr false)))
                else
                  (some (Sum.inl ((Go.IntKind.wrap .i64 (x1.1 + (((List.length (List.getD (List.take ((Int.toNat (if (40 : Int) < (((List.length x.1) : Nat) : Int) then (40 : Int) else (((List.length x.1) : Nat) : Int))) - (Int.toNat (0 : Int))) (List.drop (Int.toNat (0 : Int)) x.1)) (Int.toNat x1.2) ([] : List (Int × (Int × Int))))) : Nat) : Int))), (Go.IntKind.wrap .i64 (x1.2 + (1 : Int)))))))))
          else
            (some (Sum.inr (Sum.inl x1.1)))) ((0 : Int), (0 : Int))) fun (y1 : (Int ⊕ Bool)) =>
      Sum.elim (fun y2 =>
        bif (decide ((((List.length x.1) : Nat) : Int) ≤ (40 : Int))) then
          (some ((decide (y2 ≤ (400 : Int))), ()))
        else
          (some (false, ()))) (fun y2 =>
        some (y2, ())) y1))

noncomputable def r9 : PDen [(false, (.sl (.sl (.pair (.int .i64) (.pair (.int .i64) (.int .i64))))))] → Option (PDen [(false, .bool)]) := fun x => afun Try.prog (envOf [] [] [] []) ⟨[(0, ⟨[.slot 3 (.d false (.int .i64) true), .slot 12 (.d false (.int .i64) true)], [], [(some 0, [.slot 3 (.d false (.int .i64) true)]), (none, [.slot 2 (.d false .bool true)])], none⟩)], []⟩ Try.f9 [(false, (.sl (.sl (.pair (.int .i64) (.pair (.int .i64) (.int .i64))))))] [(false, .bool)] false x
theorem r9_eq : r9 = m9 := by kernel_rfl

theorem c9 : CS.Sound Try.prog 9 ⟨[(false, (.sl (.sl (.pair (.int .i64) (.pair (.int .i64) (.int .i64))))))], [(false, .bool)], false, m9⟩ := afun_sound' (envOf_sound (CSs.nil) (HDs.nil) (IDs.nil)) rfl Try.follows (f := 9) (fn := Try.f9) Try.func9 (by kernel_rfl) (by kernel_rfl) r9_eq
end Go.Proofs.Ytlkgkmalfdlbfaa
end

section
/- What function 12 (slipway/slipwayref13.One) computes, by the kernel. -/
open Go Go.Proofs.AM
namespace Go.Proofs.Ytlkgkmalfdlbfaa

noncomputable def m12 (x : (Int × (Int × Int)) × Unit) : Option (Int × Unit) :=
  bif (decide (x.1.1 < (0 : Int))) then
    (some ((130 : Int), ()))
  else
    (bif (decide (x.1.1 ≥ (65536 : Int))) then
      (some ((130 : Int), ()))
    else
      (bif (decide (x.1.2.1 < (1 : Int))) then
        (some ((130 : Int), ()))
      else
        (bif (decide (x.1.2.1 > (4096 : Int))) then
          (some ((130 : Int), ()))
        else
          (bif (decide (x.1.2.2 < (1 : Int))) then
            (some ((130 : Int), ()))
          else
            (bif (decide (x.1.2.2 ≥ (8192 : Int))) then
              (some ((130 : Int), ()))
            else
              (bif (decide ((Go.IntKind.wrap .i64 (x.1.1 + x.1.2.1)) > (65536 : Int))) then
                (some ((130 : Int), ()))
              else
                (bif (decide ((Go.IntKind.wrap .i64 (x.1.2.2 + x.1.2.1)) > (8192 : Int))) then
                  (some ((130 : Int), ()))
                else
                  (some ((0 : Int), ())))))))))

noncomputable def r12 : PDen [(true, (.pair (.int .i64) (.pair (.int .i64) (.int .i64))))] → Option (PDen [(false, (.int .i64))]) := fun x => afun Try.prog (envOf [] [] [] []) ⟨[], []⟩ Try.f12 [(true, (.pair (.int .i64) (.pair (.int .i64) (.int .i64))))] [(false, (.int .i64))] false x
theorem r12_eq : r12 = m12 := by kernel_rfl

theorem c12 : CS.Sound Try.prog 12 ⟨[(true, (.pair (.int .i64) (.pair (.int .i64) (.int .i64))))], [(false, (.int .i64))], false, m12⟩ := afun_sound' (envOf_sound (CSs.nil) (HDs.nil) (IDs.nil)) rfl Try.follows (f := 12) (fn := Try.f12) Try.func12 (by kernel_rfl) (by kernel_rfl) r12_eq
end Go.Proofs.Ytlkgkmalfdlbfaa
end

section
/- What function 36 (slipway/slipwayref13.goes) computes, by the kernel. -/
open Go Go.Proofs.AM
namespace Go.Proofs.Ytlkgkmalfdlbfaa

noncomputable def m36 (x : (Int × (Int × Int)) × (Int × (Int × Int)) × Unit) : Option (Bool × Unit) :=
  bif (decide ((Go.IntKind.wrap .i64 (x.1.1 + x.1.2.1)) = x.2.1.1)) then
    (bif (decide ((Go.IntKind.wrap .i64 (x.1.2.2 + x.1.2.1)) = x.2.1.2.2)) then
      (some ((decide ((Go.IntKind.wrap .i64 (x.1.2.1 + x.2.1.2.1)) ≤ (4096 : Int))), ()))
    else
      (some (false, ())))
  else
    (some (false, ()))

noncomputable def r36 : PDen [(true, (.pair (.int .i64) (.pair (.int .i64) (.int .i64)))), (true, (.pair (.int .i64) (.pair (.int .i64) (.int .i64))))] → Option (PDen [(false, .bool)]) := fun x => afun Try.prog (envOf [] [] [] []) ⟨[], []⟩ Try.f36 [(true, (.pair (.int .i64) (.pair (.int .i64) (.int .i64)))), (true, (.pair (.int .i64) (.pair (.int .i64) (.int .i64))))] [(false, .bool)] false x
theorem r36_eq : r36 = m36 := by kernel_rfl

theorem c36 : CS.Sound Try.prog 36 ⟨[(true, (.pair (.int .i64) (.pair (.int .i64) (.int .i64)))), (true, (.pair (.int .i64) (.pair (.int .i64) (.int .i64))))], [(false, .bool)], false, m36⟩ := afun_sound' (envOf_sound (CSs.nil) (HDs.nil) (IDs.nil)) rfl Try.follows (f := 36) (fn := Try.f36) Try.func36 (by kernel_rfl) (by kernel_rfl) r36_eq
end Go.Proofs.Ytlkgkmalfdlbfaa
end

section
/- What function 10 (slipway/slipwayref13.Check) computes, by the kernel. -/
open Go Go.Proofs.AM
namespace Go.Proofs.Ytlkgkmalfdlbfaa

noncomputable def m10 (x : (List (Int × (Int × Int))) × Unit) : Option (Int × Unit) :=
  Option.bind (loopM (X := Int) (E := (Unit ⊕ Int)) (fun (x1 : Int) =>
      bif (decide (x1 < (((List.length x.1) : Nat) : Int))) then
        (gd ((0 : Int) ≤ x1) (gd (x1 < (((List.length x.1) : Nat) : Int)) (Option.bind (m12 ((List.getD x.1 (Int.toNat x1) ((0 : Int), ((0 : Int), (0 : Int)))), ())) fun (y2 : (Int × Unit)) =>
            bif (!(decide (y2.1 = (0 : Int)))) then
              (some (Sum.inr (Sum.inr (130 : Int))))
            else
              (bif (decide (x1 > (0 : Int))) then
                (gd ((0 : Int) ≤ x1) (gd (x1 < (((List.length x.1) : Nat) : Int)) (gd ((0 : Int) ≤ (Go.IntKind.wrap .i64 (x1 - (1 : Int)))) (gd ((Go.IntKind.wrap .i64 (x1 - (1 : Int))) < (((List.length x.1) : Nat) : Int)) (gd ((0 : Int) ≤ (Go.IntKind.wrap .i64 (x1 - (1 : Int)))) (gd ((Go.IntKind.wrap .i64 (x1 - (1 : Int))) < (((List.length x.1) : Nat) : Int)) (bif (decide ((List.getD x.1 (Int.toNat x1) ((0 : Int), ((0 : Int), (0 : Int)))).1 < (Go.IntKind.wrap .i64 ((List.getD x.1 (Int.toNat (Go.IntKind.wrap .i64 (x1 - (1 : Int)))) ((0 : Int), ((0 : Int), (0 : Int)))).1 + (List.getD x.1 (Int.toNat (Go.IntKind.wrap .i64 (x1 - (1 : Int)))) ((0 : Int), ((0 : Int), (0 : Int)))).2.1)))) then
                              (some (Sum.inr (Sum.inr (130 : Int))))
                            else
                              (gd ((0 : Int) ≤ (Go.IntKind.wrap .i64 (x1 - (1 : Int)))) (gd ((Go.IntKind.wrap .i64 (x1 - (1 : Int))) < (((List.length x.1) : Nat) : Int)) (gd ((0 : Int) ≤ x1) (gd (x1 < (((List.length x.1) : Nat) : Int)) (Option.bind (m36 ((List.getD x.1 (Int.toNat (Go.IntKind.wrap .i64 (x1 - (1 : Int)))) ((0 : Int), ((0 : Int), (0 : Int)))), ((List.getD x.1 (Int.toNat x1) ((0 : Int), ((0 : Int), (0 : Int)))), ()))) fun (y3 : (Bool × Unit)) =>
                                      bif y3.1 then
                                        (some (Sum.inr (Sum.inr (130 : Int))))
                                      else
                                        (some (Sum.inl (Go.IntKind.wrap .i64 (x1 + (1 : Int)))))))))))))))))
              else
                (some (Sum.inl (Go.IntKind.wrap .i64 (x1 + (1 : Int)))))))))
      else
        (some (Sum.inr (Sum.inl ())))) (0 : Int)) fun (y1 : (Unit ⊕ Int)) =>
  Sum.elim (fun y2 =>
    some ((0 : Int), ())) (fun y2 =>
    some (y2, ())) y1

noncomputable def r10 : PDen [(false, (.sl (.pair (.int .i64) (.pair (.int .i64) (.int .i64)))))] → Option (PDen [(false, (.int .i64))]) := fun x => afun Try.prog (envOf [(12, ⟨[(true, (.pair (.int .i64) (.pair (.int .i64) (.int .i64))))], [(false, (.int .i64))], false, m12⟩), (36, ⟨[(true, (.pair (.int .i64) (.pair (.int .i64) (.int .i64)))), (true, (.pair (.int .i64) (.pair (.int .i64) (.int .i64))))], [(false, .bool)], false, m36⟩)] [] [] []) ⟨[(0, ⟨[.slot 3 (.d false (.int .i64) true)], [], [(some 0, []), (none, [.slot 2 (.d false (.int .i64) true)])], none⟩)], []⟩ Try.f10 [(false, (.sl (.pair (.int .i64) (.pair (.int .i64) (.int .i64)))))] [(false, (.int .i64))] false x
theorem r10_eq : r10 = m10 := by kernel_rfl

theorem c10 : CS.Sound Try.prog 10 ⟨[(false, (.sl (.pair (.int .i64) (.pair (.int .i64) (.int .i64)))))], [(false, (.int .i64))], false, m10⟩ := afun_sound' (envOf_sound (CSs.cons c12 (CSs.cons c36 (CSs.nil))) (HDs.nil) (IDs.nil)) rfl Try.follows (f := 10) (fn := Try.f10) Try.func10 (by kernel_rfl) (by kernel_rfl) r10_eq
end Go.Proofs.Ytlkgkmalfdlbfaa
end

section
/- What function 24 (slipway/slipwaylaw13.runs) computes, by the kernel. -/
open Go Go.Proofs.AM
namespace Go.Proofs.Ytlkgkmalfdlbfaa

noncomputable def m24 (x : (List (Int × (Int × Int))) × Int × Int × Unit) : Option ((List (Int × (Int × Int))) × Unit) :=
  Option.bind (m29 (x.1, ())) fun (y1 : (Int × Unit)) =>
  bif (!(decide (y1.1 = (0 : Int)))) then
    (Option.bind (m17 (([] : List (Int × (Int × Int))), ())) fun (y2 : (List (Int × (Int × Int)))) =>
    Option.bind (m40 (y2, (x.2.1, (x.2.2.1, ())))) fun (y3 : ((List (Int × (Int × Int))) × Unit)) =>
    Option.bind (loopM (X := (Int × (List (Int × (Int × Int))))) (E := (List (Int × (Int × Int)))) (fun (x4 : (Int × (List (Int × (Int × Int))))) =>
        bif (decide (x4.1 < (((List.length y3.1) : Nat) : Int))) then
          (gd ((0 : Int) ≤ x4.1) (gd (x4.1 < (((List.length y3.1) : Nat) : Int)) (gd ((((List.length x4.2) + (List.length ((List.getD y3.1 (Int.toNat x4.1) ((0 : Int), ((0 : Int), (0 : Int)))) :: ([] : List (Int × (Int × Int)))))) * 24) ≤ 140737488355328) (gd (((List.length x4.2) + (List.length ((List.getD y3.1 (Int.toNat x4.1) ((0 : Int), ((0 : Int), (0 : Int)))) :: ([] : List (Int × (Int × Int)))))) ≤ 140737488355328) (some (Sum.inl ((Go.IntKind.wrap .i64 (x4.1 + (1 : Int))), (x4.2 ++ ((List.getD y3.1 (Int.toNat x4.1) ((0 : Int), ((0 : Int), (0 : Int)))) :: ([] : List (Int × (Int × Int))))))))))))
        else
          (some (Sum.inr x4.2))) ((0 : Int), ([] : List (Int × (Int × Int))))) fun (y4 : (List (Int × (Int × Int)))) =>
    some (y4, ()))
  else
    (Option.bind (m17 (x.1, ())) fun (y2 : (List (Int × (Int × Int)))) =>
    Option.bind (m40 (y2, (x.2.1, (x.2.2.1, ())))) fun (y3 : ((List (Int × (Int × Int))) × Unit)) =>
    Option.bind (loopM (X := (Int × (List (Int × (Int × Int))))) (E := (List (Int × (Int × Int)))) (fun (x4 : (Int × (List (Int × (Int × Int))))) =>
        bif (decide (x4.1 < (((List.length y3.1) : Nat) : Int))) then
          (gd ((0 : Int) ≤ x4.1) (gd (x4.1 < (((List.length y3.1) : Nat) : Int)) (gd ((((List.length x4.2) + (List.length ((List.getD y3.1 (Int.toNat x4.1) ((0 : Int), ((0 : Int), (0 : Int)))) :: ([] : List (Int × (Int × Int)))))) * 24) ≤ 140737488355328) (gd (((List.length x4.2) + (List.length ((List.getD y3.1 (Int.toNat x4.1) ((0 : Int), ((0 : Int), (0 : Int)))) :: ([] : List (Int × (Int × Int)))))) ≤ 140737488355328) (some (Sum.inl ((Go.IntKind.wrap .i64 (x4.1 + (1 : Int))), (x4.2 ++ ((List.getD y3.1 (Int.toNat x4.1) ((0 : Int), ((0 : Int), (0 : Int)))) :: ([] : List (Int × (Int × Int))))))))))))
        else
          (some (Sum.inr x4.2))) ((0 : Int), ([] : List (Int × (Int × Int))))) fun (y4 : (List (Int × (Int × Int)))) =>
    some (y4, ()))

noncomputable def i24_49 : ID := aInl Try.prog (envOf [(29, ⟨[(false, (.sl (.pair (.int .i64) (.pair (.int .i64) (.int .i64)))))], [(false, (.int .i64))], false, m29⟩)] [] [] []) ⟨[], []⟩ Try.f49
noncomputable def i24_47 : ID := aInl Try.prog (envOf [] [(17, OS.hd ⟨[(false, (.sl (.pair (.int .i64) (.pair (.int .i64) (.int .i64)))))], 24, (.pair (.int .i64) (.pair (.int .i64) (.int .i64))), false, m17⟩)] [] [(49, i24_49)]) ⟨[], []⟩ Try.f47
noncomputable def i24_57 : ID := aInl Try.prog (envOf [(40, ⟨[(false, (.sl (.pair (.int .i64) (.pair (.int .i64) (.int .i64))))), (false, (.int .i64)), (false, (.int .i64))], [(false, (.sl (.pair (.int .i64) (.pair (.int .i64) (.int .i64)))))], false, m40⟩)] [] [] []) ⟨[(8000, ⟨[.slot 12 (.d false (.int .i64) true), .cell 4 0 (.v 24 (.pair (.int .i64) (.pair (.int .i64) (.int .i64))) true)], [], [(some 0, [.cell 4 0 (.v 24 (.pair (.int .i64) (.pair (.int .i64) (.int .i64))) true)])], none⟩)], []⟩ Try.f57
noncomputable def r24 : PDen [(false, (.sl (.pair (.int .i64) (.pair (.int .i64) (.int .i64))))), (false, (.int .i64)), (false, (.int .i64))] → Option (PDen [(false, (.sl (.pair (.int .i64) (.pair (.int .i64) (.int .i64)))))]) := fun x => afun Try.prog (envOf [] [] [] [(47, i24_47), (57, i24_57)]) ⟨[], []⟩ Try.f24 [(false, (.sl (.pair (.int .i64) (.pair (.int .i64) (.int .i64))))), (false, (.int .i64)), (false, (.int .i64))] [(false, (.sl (.pair (.int .i64) (.pair (.int .i64) (.int .i64)))))] false x
theorem r24_eq : r24 = m24 := by kernel_rfl

theorem i24_49_sound : i24_49.Sound Try.prog 49 := aInl_sound' (envOf_sound (CSs.cons c29 (CSs.nil)) (HDs.nil) (IDs.nil)) Try.follows (f := 49) (fn := Try.f49) Try.func49 (by kernel_rfl) (by kernel_rfl)
theorem i24_47_sound : i24_47.Sound Try.prog 47 := aInl_sound' (envOf_sound (CSs.nil) (HDs.cons (OS.Sound.hd c17) (HDs.nil)) (IDs.cons i24_49_sound (IDs.nil))) Try.follows (f := 47) (fn := Try.f47) Try.func47 (by kernel_rfl) (by kernel_rfl)
theorem i24_57_sound : i24_57.Sound Try.prog 57 := aInl_sound' (envOf_sound (CSs.cons c40 (CSs.nil)) (HDs.nil) (IDs.nil)) Try.follows (f := 57) (fn := Try.f57) Try.func57 (by kernel_rfl) (by kernel_rfl)
theorem c24 : CS.Sound Try.prog 24 ⟨[(false, (.sl (.pair (.int .i64) (.pair (.int .i64) (.int .i64))))), (false, (.int .i64)), (false, (.int .i64))], [(false, (.sl (.pair (.int .i64) (.pair (.int .i64) (.int .i64)))))], false, m24⟩ := afun_sound' (envOf_sound (CSs.nil) (HDs.nil) (IDs.cons i24_47_sound (IDs.cons i24_57_sound (IDs.nil)))) rfl Try.follows (f := 24) (fn := Try.f24) Try.func24 (by kernel_rfl) (by kernel_rfl) r24_eq
end Go.Proofs.Ytlkgkmalfdlbfaa
end

section
/- What function 25 (slipway/slipwaylaw13.holes) computes, by the kernel. -/
open Go Go.Proofs.AM
namespace Go.Proofs.Ytlkgkmalfdlbfaa

noncomputable def m25 (x : (List (Int × (Int × Int))) × Int × Int × Unit) : Option ((List (Int × Int)) × Unit) :=
  Option.bind (m29 (x.1, ())) fun (y1 : (Int × Unit)) =>
  bif (!(decide (y1.1 = (0 : Int)))) then
    (Option.bind (m17 (([] : List (Int × (Int × Int))), ())) fun (y2 : (List (Int × (Int × Int)))) =>
    Option.bind (m29 (y2, ())) fun (y3 : (Int × Unit)) =>
    bif (!(decide (y3.1 = (0 : Int)))) then
      (Option.bind (m17 (([] : List (Int × (Int × Int))), ())) fun (y4 : (List (Int × (Int × Int)))) =>
      Option.bind (m40 (y4, ((if (0 : Int) > x.2.1 then (0 : Int) else x.2.1), ((if (65536 : Int) < x.2.2.1 then (65536 : Int) else x.2.2.1), ())))) fun (y5 : ((List (Int × (Int × Int))) × Unit)) =>
      Option.bind (loopM (X := (Int × ((List (Int × Int)) × Int))) (E := ((List (Int × Int)) × Int)) (fun (x6 : (Int × ((List (Int × Int)) × Int))) =>
          bif (decide (x6.1 < (((List.length y5.1) : Nat) : Int))) then
            (gd ((0 : Int) ≤ x6.1) (gd (x6.1 < (((List.length y5.1) : Nat) : Int)) (bif (decide ((List.getD y5.1 (Int.toNat x6.1) ((0 : Int), ((0 : Int), (0 : Int)))).1 > x6.2.2)) then
                  (gd ((((List.length x6.2.1) + (List.length ((x6.2.2, (Go.IntKind.wrap .i64 ((List.getD y5.1 (Int.toNat x6.1) ((0 : Int), ((0 : Int), (0 : Int)))).1 - x6.2.2))) :: ([] : List (Int × Int))))) * 16) ≤ 140737488355328) (gd (((List.length x6.2.1) + (List.length ((x6.2.2, (Go.IntKind.wrap .i64 ((List.getD y5.1 (Int.toNat x6.1) ((0 : Int), ((0 : Int), (0 : Int)))).1 - x6.2.2))) :: ([] : List (Int × Int))))) ≤ 140737488355328) (Option.bind (m46 ((List.getD y5.1 (Int.toNat x6.1) ((0 : Int), ((0 : Int), (0 : Int)))), ())) fun (y7 : (Int × Unit)) =>
                      some (Sum.inl ((Go.IntKind.wrap .i64 (x6.1 + (1 : Int))), ((x6.2.1 ++ ((x6.2.2, (Go.IntKind.wrap .i64 ((List.getD y5.1 (Int.toNat x6.1) ((0 : Int), ((0 : Int), (0 : Int)))).1 - x6.2.2))) :: ([] : List (Int × Int)))), y7.1))))))
                else
                  (Option.bind (m46 ((List.getD y5.1 (Int.toNat x6.1) ((0 : Int), ((0 : Int), (0 : Int)))), ())) fun (y7 : (Int × Unit)) =>
                  some (Sum.inl ((Go.IntKind.wrap .i64 (x6.1 + (1 : Int))), (x6.2.1, y7.1)))))))
          else
            (some (Sum.inr (x6.2.1, x6.2.2)))) ((0 : Int), (([] : List (Int × Int)), (if (0 : Int) > x.2.1 then (0 : Int) else x.2.1)))) fun (y6 : ((List (Int × Int)) × Int)) =>
      bif (decide (y6.2 < (if (65536 : Int) < x.2.2.1 then (65536 : Int) else x.2.2.1))) then
        (gd ((((List.length y6.1) + (List.length ((y6.2, (Go.IntKind.wrap .i64 ((if (65536 : Int) < x.2.2.1 then (65536 : Int) else x.2.2.1) - y6.2))) :: ([] : List (Int × Int))))) * 16) ≤ 140737488355328) (gd (((List.length y6.1) + (List.length ((y6.2, (Go.IntKind.wrap .i64 ((if (65536 : Int) < x.2.2.1 then (65536 : Int) else x.2.2.1) - y6.2))) :: ([] : List (Int × Int))))) ≤ 140737488355328) (some ((y6.1 ++ ((y6.2, (Go.IntKind.wrap .i64 ((if (65536 : Int) < x.2.2.1 then (65536 : Int) else x.2.2.1) - y6.2))) :: ([] : List (Int × Int)))), ()))))
      else
        (some (y6.1, ())))
    else
      (Option.bind (m17 (y2, ())) fun (y4 : (List (Int × (Int × Int)))) =>
      Option.bind (m40 (y4, ((if (0 : Int) > x.2.1 then (0 : Int) else x.2.1), ((if (65536 : Int) < x.2.2.1 then (65536 : Int) else x.2.2.1), ())))) fun (y5 : ((List (Int × (Int × Int))) × Unit)) =>
      Option.bind (loopM (X := (Int × ((List (Int × Int)) × Int))) (E := ((List (Int × Int)) × Int)) (fun (x6 : (Int × ((List (Int × Int)) × Int))) =>
          bif (decide (x6.1 < (((List.length y5.1) : Nat) : Int))) then
            (gd ((0 : Int) ≤ x6.1) (gd (x6.1 < (((List.length y5.1) : Nat) : Int)) (bif (decide ((List.getD y5.1 (Int.toNat x6.1) ((0 : Int), ((0 : Int), (0 : Int)))).1 > x6.2.2)) then
                  (gd ((((List.length x6.2.1) + (List.length ((x6.2.2, (Go.IntKind.wrap .i64 ((List.getD y5.1 (Int.toNat x6.1) ((0 : Int), ((0 : Int), (0 : Int)))).1 - x6.2.2))) :: ([] : List (Int × Int))))) * 16) ≤ 140737488355328) (gd (((List.length x6.2.1) + (List.length ((x6.2.2, (Go.IntKind.wrap .i64 ((List.getD y5.1 (Int.toNat x6.1) ((0 : Int), ((0 : Int), (0 : Int)))).1 - x6.2.2))) :: ([] : List (Int × Int))))) ≤ 140737488355328) (Option.bind (m46 ((List.getD y5.1 (Int.toNat x6.1) ((0 : Int), ((0 : Int), (0 : Int)))), ())) fun (y7 : (Int × Unit)) =>
                      some (Sum.inl ((Go.IntKind.wrap .i64 (x6.1 + (1 : Int))), ((x6.2.1 ++ ((x6.2.2, (Go.IntKind.wrap .i64 ((List.getD y5.1 (Int.toNat x6.1) ((0 : Int), ((0 : Int), (0 : Int)))).1 - x6.2.2))) :: ([] : List (Int × Int)))), y7.1))))))
                else
                  (Option.bind (m46 ((List.getD y5.1 (Int.toNat x6.1) ((0 : Int), ((0 : Int), (0 : Int)))), ())) fun (y7 : (Int × Unit)) =>
                  some (Sum.inl ((Go.IntKind.wrap .i64 (x6.1 + (1 : Int))), (x6.2.1, y7.1)))))))
          else
            (some (Sum.inr (x6.2.1, x6.2.2)))) ((0 : Int), (([] : List (Int × Int)), (if (0 : Int) > x.2.1 then (0 : Int) else x.2.1)))) fun (y6 : ((List (Int × Int)) × Int)) =>
      bif (decide (y6.2 < (if (65536 : Int) < x.2.2.1 then (65536 : Int) else x.2.2.1))) then
        (gd ((((List.length y6.1) + (List.length ((y6.2, (Go.IntKind.wrap .i64 ((if (65536 : Int) < x.2.2.1 then (65536 : Int) else x.2.2.1) - y6.2))) :: ([] : List (Int × Int))))) * 16) ≤ 140737488355328) (gd (((List.length y6.1) + (List.length ((y6.2, (Go.IntKind.wrap .i64 ((if (65536 : Int) < x.2.2.1 then (65536 : Int) else x.2.2.1) - y6.2))) :: ([] : List (Int × Int))))) ≤ 140737488355328) (some ((y6.1 ++ ((y6.2, (Go.IntKind.wrap .i64 ((if (65536 : Int) < x.2.2.1 then (65536 : Int) else x.2.2.1) - y6.2))) :: ([] : List (Int × Int)))), ()))))
      else
        (some (y6.1, ()))))
  else
    (Option.bind (m17 (x.1, ())) fun (y2 : (List (Int × (Int × Int)))) =>
    Option.bind (m29 (y2, ())) fun (y3 : (Int × Unit)) =>
    bif (!(decide (y3.1 = (0 : Int)))) then
      (Option.bind (m17 (([] : List (Int × (Int × Int))), ())) fun (y4 : (List (Int × (Int × Int)))) =>
      Option.bind (m40 (y4, ((if (0 : Int) > x.2.1 then (0 : Int) else x.2.1), ((if (65536 : Int) < x.2.2.1 then (65536 : Int) else x.2.2.1), ())))) fun (y5 : ((List (Int × (Int × Int))) × Unit)) =>
      Option.bind (loopM (X := (Int × ((List (Int × Int)) × Int))) (E := ((List (Int × Int)) × Int)) (fun (x6 : (Int × ((List (Int × Int)) × Int))) =>
          bif (decide (x6.1 < (((List.length y5.1) : Nat) : Int))) then
            (gd ((0 : Int) ≤ x6.1) (gd (x6.1 < (((List.length y5.1) : Nat) : Int)) (bif (decide ((List.getD y5.1 (Int.toNat x6.1) ((0 : Int), ((0 : Int), (0 : Int)))).1 > x6.2.2)) then
                  (gd ((((List.length x6.2.1) + (List.length ((x6.2.2, (Go.IntKind.wrap .i64 ((List.getD y5.1 (Int.toNat x6.1) ((0 : Int), ((0 : Int), (0 : Int)))).1 - x6.2.2))) :: ([] : List (Int × Int))))) * 16) ≤ 140737488355328) (gd (((List.length x6.2.1) + (List.length ((x6.2.2, (Go.IntKind.wrap .i64 ((List.getD y5.1 (Int.toNat x6.1) ((0 : Int), ((0 : Int), (0 : Int)))).1 - x6.2.2))) :: ([] : List (Int × Int))))) ≤ 140737488355328) (Option.bind (m46 ((List.getD y5.1 (Int.toNat x6.1) ((0 : Int), ((0 : Int), (0 : Int)))), ())) fun (y7 : (Int × Unit)) =>
                      some (Sum.inl ((Go.IntKind.wrap .i64 (x6.1 + (1 : Int))), ((x6.2.1 ++ ((x6.2.2, (Go.IntKind.wrap .i64 ((List.getD y5.1 (Int.toNat x6.1) ((0 : Int), ((0 : Int), (0 : Int)))).1 - x6.2.2))) :: ([] : List (Int × Int)))), y7.1))))))
                else
                  (Option.bind (m46 ((List.getD y5.1 (Int.toNat x6.1) ((0 : Int), ((0 : Int), (0 : Int)))), ())) fun (y7 : (Int × Unit)) =>
                  some (Sum.inl ((Go.IntKind.wrap .i64 (x6.1 + (1 : Int))), (x6.2.1, y7.1)))))))
          else
            (some (Sum.inr (x6.2.1, x6.2.2)))) ((0 : Int), (([] : List (Int × Int)), (if (0 : Int) > x.2.1 then (0 : Int) else x.2.1)))) fun (y6 : ((List (Int × Int)) × Int)) =>
      bif (decide (y6.2 < (if (65536 : Int) < x.2.2.1 then (65536 : Int) else x.2.2.1))) then
        (gd ((((List.length y6.1) + (List.length ((y6.2, (Go.IntKind.wrap .i64 ((if (65536 : Int) < x.2.2.1 then (65536 : Int) else x.2.2.1) - y6.2))) :: ([] : List (Int × Int))))) * 16) ≤ 140737488355328) (gd (((List.length y6.1) + (List.length ((y6.2, (Go.IntKind.wrap .i64 ((if (65536 : Int) < x.2.2.1 then (65536 : Int) else x.2.2.1) - y6.2))) :: ([] : List (Int × Int))))) ≤ 140737488355328) (some ((y6.1 ++ ((y6.2, (Go.IntKind.wrap .i64 ((if (65536 : Int) < x.2.2.1 then (65536 : Int) else x.2.2.1) - y6.2))) :: ([] : List (Int × Int)))), ()))))
      else
        (some (y6.1, ())))
    else
      (Option.bind (m17 (y2, ())) fun (y4 : (List (Int × (Int × Int)))) =>
      Option.bind (m40 (y4, ((if (0 : Int) > x.2.1 then (0 : Int) else x.2.1), ((if (65536 : Int) < x.2.2.1 then (65536 : Int) else x.2.2.1), ())))) fun (y5 : ((List (Int × (Int × Int))) × Unit)) =>
      Option.bind (loopM (X := (Int × ((List (Int × Int)) × Int))) (E := ((List (Int × Int)) × Int)) (fun (x6 : (Int × ((List (Int × Int)) × Int))) =>
          bif (decide (x6.1 < (((List.length y5.1) : Nat) : Int))) then
            (gd ((0 : Int) ≤ x6.1) (gd (x6.1 < (((List.length y5.1) : Nat) : Int)) (bif (decide ((List.getD y5.1 (Int.toNat x6.1) ((0 : Int), ((0 : Int), (0 : Int)))).1 > x6.2.2)) then
                  (gd ((((List.length x6.2.1) + (List.length ((x6.2.2, (Go.IntKind.wrap .i64 ((List.getD y5.1 (Int.toNat x6.1) ((0 : Int), ((0 : Int), (0 : Int)))).1 - x6.2.2))) :: ([] : List (Int × Int))))) * 16) ≤ 140737488355328) (gd (((List.length x6.2.1) + (List.length ((x6.2.2, (Go.IntKind.wrap .i64 ((List.getD y5.1 (Int.toNat x6.1) ((0 : Int), ((0 : Int), (0 : Int)))).1 - x6.2.2))) :: ([] : List (Int × Int))))) ≤ 140737488355328) (Option.bind (m46 ((List.getD y5.1 (Int.toNat x6.1) ((0 : Int), ((0 : Int), (0 : Int)))), ())) fun (y7 : (Int × Unit)) =>
                      some (Sum.inl ((Go.IntKind.wrap .i64 (x6.1 + (1 : Int))), ((x6.2.1 ++ ((x6.2.2, (Go.IntKind.wrap .i64 ((List.getD y5.1 (Int.toNat x6.1) ((0 : Int), ((0 : Int), (0 : Int)))).1 - x6.2.2))) :: ([] : List (Int × Int)))), y7.1))))))
                else
                  (Option.bind (m46 ((List.getD y5.1 (Int.toNat x6.1) ((0 : Int), ((0 : Int), (0 : Int)))), ())) fun (y7 : (Int × Unit)) =>
                  some (Sum.inl ((Go.IntKind.wrap .i64 (x6.1 + (1 : Int))), (x6.2.1, y7.1)))))))
          else
            (some (Sum.inr (x6.2.1, x6.2.2)))) ((0 : Int), (([] : List (Int × Int)), (if (0 : Int) > x.2.1 then (0 : Int) else x.2.1)))) fun (y6 : ((List (Int × Int)) × Int)) =>
      bif (decide (y6.2 < (if (65536 : Int) < x.2.2.1 then (65536 : Int) else x.2.2.1))) then
        (gd ((((List.length y6.1) + (List.length ((y6.2, (Go.IntKind.wrap .i64 ((if (65536 : Int) < x.2.2.1 then (65536 : Int) else x.2.2.1) - y6.2))) :: ([] : List (Int × Int))))) * 16) ≤ 140737488355328) (gd (((List.length y6.1) + (List.length ((y6.2, (Go.IntKind.wrap .i64 ((if (65536 : Int) < x.2.2.1 then (65536 : Int) else x.2.2.1) - y6.2))) :: ([] : List (Int × Int))))) ≤ 140737488355328) (some ((y6.1 ++ ((y6.2, (Go.IntKind.wrap .i64 ((if (65536 : Int) < x.2.2.1 then (65536 : Int) else x.2.2.1) - y6.2))) :: ([] : List (Int × Int)))), ()))))
      else
        (some (y6.1, ()))))

noncomputable def i25_49 : ID := aInl Try.prog (envOf [(29, ⟨[(false, (.sl (.pair (.int .i64) (.pair (.int .i64) (.int .i64)))))], [(false, (.int .i64))], false, m29⟩)] [] [] []) ⟨[], []⟩ Try.f49
noncomputable def i25_48 : ID := aInl Try.prog (envOf [] [(17, OS.hd ⟨[(false, (.sl (.pair (.int .i64) (.pair (.int .i64) (.int .i64)))))], 24, (.pair (.int .i64) (.pair (.int .i64) (.int .i64))), false, m17⟩)] [] [(49, i25_49)]) ⟨[], []⟩ Try.f48
noncomputable def i25_47 : ID := aInl Try.prog (envOf [] [(17, OS.hd ⟨[(false, (.sl (.pair (.int .i64) (.pair (.int .i64) (.int .i64)))))], 24, (.pair (.int .i64) (.pair (.int .i64) (.int .i64))), false, m17⟩)] [] [(49, i25_49)]) ⟨[], []⟩ Try.f47
noncomputable def i25_57 : ID := aInl Try.prog (envOf [(40, ⟨[(false, (.sl (.pair (.int .i64) (.pair (.int .i64) (.int .i64))))), (false, (.int .i64)), (false, (.int .i64))], [(false, (.sl (.pair (.int .i64) (.pair (.int .i64) (.int .i64)))))], false, m40⟩)] [] [] []) ⟨[(16000, ⟨[.slot 12 (.d false (.int .i64) true), .cell 4 0 (.v 52 (.pair (.int .i64) (.int .i64)) true), .cell 8 0 (.d false (.int .i64) true)], [], [(some 0, [.cell 4 0 (.v 52 (.pair (.int .i64) (.int .i64)) true), .cell 8 0 (.d false (.int .i64) true)])], none⟩)], []⟩ Try.f57
noncomputable def i25_58 : ID := aInl Try.prog (envOf [(46, ⟨[(true, (.pair (.int .i64) (.pair (.int .i64) (.int .i64))))], [(false, (.int .i64))], false, m46⟩)] [] [] [(47, i25_47), (57, i25_57)]) ⟨[], []⟩ Try.f58
noncomputable def r25 : PDen [(false, (.sl (.pair (.int .i64) (.pair (.int .i64) (.int .i64))))), (false, (.int .i64)), (false, (.int .i64))] → Option (PDen [(false, (.sl (.pair (.int .i64) (.int .i64))))]) := fun x => afun Try.prog (envOf [] [] [] [(48, i25_48), (58, i25_58)]) ⟨[], []⟩ Try.f25 [(false, (.sl (.pair (.int .i64) (.pair (.int .i64) (.int .i64))))), (false, (.int .i64)), (false, (.int .i64))] [(false, (.sl (.pair (.int .i64) (.int .i64))))] false x
theorem r25_eq : r25 = m25 := by kernel_rfl

theorem i25_49_sound : i25_49.Sound Try.prog 49 := aInl_sound' (envOf_sound (CSs.cons c29 (CSs.nil)) (HDs.nil) (IDs.nil)) Try.follows (f := 49) (fn := Try.f49) Try.func49 (by kernel_rfl) (by kernel_rfl)
theorem i25_48_sound : i25_48.Sound Try.prog 48 := aInl_sound' (envOf_sound (CSs.nil) (HDs.cons (OS.Sound.hd c17) (HDs.nil)) (IDs.cons i25_49_sound (IDs.nil))) Try.follows (f := 48) (fn := Try.f48) Try.func48 (by kernel_rfl) (by kernel_rfl)
theorem i25_47_sound : i25_47.Sound Try.prog 47 := aInl_sound' (envOf_sound (CSs.nil) (HDs.cons (OS.Sound.hd c17) (HDs.nil)) (IDs.cons i25_49_sound (IDs.nil))) Try.follows (f := 47) (fn := Try.f47) Try.func47 (by kernel_rfl) (by kernel_rfl)
theorem i25_57_sound : i25_57.Sound Try.prog 57 := aInl_sound' (envOf_sound (CSs.cons c40 (CSs.nil)) (HDs.nil) (IDs.nil)) Try.follows (f := 57) (fn := Try.f57) Try.func57 (by kernel_rfl) (by kernel_rfl)
theorem i25_58_sound : i25_58.Sound Try.prog 58 := aInl_sound' (envOf_sound (CSs.cons c46 (CSs.nil)) (HDs.nil) (IDs.cons i25_47_sound (IDs.cons i25_57_sound (IDs.nil)))) Try.follows (f := 58) (fn := Try.f58) Try.func58 (by kernel_rfl) (by kernel_rfl)
theorem c25 : CS.Sound Try.prog 25 ⟨[(false, (.sl (.pair (.int .i64) (.pair (.int .i64) (.int .i64))))), (false, (.int .i64)), (false, (.int .i64))], [(false, (.sl (.pair (.int .i64) (.int .i64))))], false, m25⟩ := afun_sound' (envOf_sound (CSs.nil) (HDs.nil) (IDs.cons i25_48_sound (IDs.cons i25_58_sound (IDs.nil)))) rfl Try.follows (f := 25) (fn := Try.f25) Try.func25 (by kernel_rfl) (by kernel_rfl) r25_eq
end Go.Proofs.Ytlkgkmalfdlbfaa
end

section
/- What function 26 (slipway/extent.At) computes, by the kernel. -/
open Go Go.Proofs.AM
namespace Go.Proofs.Ytlkgkmalfdlbfaa

noncomputable def m26 (x : (List (Int × (Int × Int))) × Int × Unit) : Option (Int × (Int × (Bool × Unit))) :=
  bif (decide (x.2.1 < (0 : Int))) then
    (some ((0 : Int), ((0 : Int), (false, ()))))
  else
    (bif (decide (x.2.1 ≥ (65536 : Int))) then
      (some ((0 : Int), ((0 : Int), (false, ()))))
    else
      (Option.bind (m29 (x.1, ())) fun (y1 : (Int × Unit)) =>
      bif (!(decide (y1.1 = (0 : Int)))) then
        (Option.bind (loopM (X := Int) (E := (Unit ⊕ (Int × (Int × Bool)))) (fun (x2 : Int) =>
            bif (decide (x2 < (0 : Int))) then
              (none)
            else
              (some (Sum.inr (Sum.inl ())))) (0 : Int)) fun (y2 : (Unit ⊕ (Int × (Int × Bool)))) =>
        Sum.elim (fun y3 =>
          some ((0 : Int), ((Go.IntKind.wrap .i64 ((65536 : Int) - x.2.1)), (false, ())))) (fun y3 =>
          some (y3.1, (y3.2.1, (y3.2.2, ())))) y2)
      else
        (Option.bind (loopM (X := Int) (E := (Unit ⊕ (Int × (Int × Bool)))) (fun (x2 : Int) =>
            bif (decide (x2 < (((List.length x.1) : Nat) : Int))) then
              (gd ((0 : Int) ≤ x2) (gd (x2 < (((List.length x.1) : Nat) : Int)) (bif (decide (x.2.1 < (List.getD x.1 (Int.toNat x2) ((0 : Int), ((0 : Int), (0 : Int)))).1)) then
                    (some (Sum.inr (Sum.inr ((0 : Int), ((Go.IntKind.wrap .i64 ((List.getD x.1 (Int.toNat x2) ((0 : Int), ((0 : Int), (0 : Int)))).1 - x.2.1)), false)))))
                  else
                    (Option.bind (m46 ((List.getD x.1 (Int.toNat x2) ((0 : Int), ((0 : Int), (0 : Int)))), ())) fun (y3 : (Int × Unit)) =>
                    bif (decide (x.2.1 < y3.1)) then
                      (Option.bind (m46 ((List.getD x.1 (Int.toNat x2) ((0 : Int), ((0 : Int), (0 : Int)))), ())) fun (y4 : (Int × Unit)) =>
                      some (Sum.inr (Sum.inr ((Go.IntKind.wrap .i64 ((Go.IntKind.wrap .i64 ((List.getD x.1 (Int.toNat x2) ((0 : Int), ((0 : Int), (0 : Int)))).2.2 + x.2.1)) - (List.getD x.1 (Int.toNat x2) ((0 : Int), ((0 : Int), (0 : Int)))).1)), ((Go.IntKind.wrap .i64 (y4.1 - x.2.1)), true)))))
                    else
                      (some (Sum.inl (Go.IntKind.wrap .i64 (x2 + (1 : Int)))))))))
            else
              (some (Sum.inr (Sum.inl ())))) (0 : Int)) fun (y2 : (Unit ⊕ (Int × (Int × Bool)))) =>
        Sum.elim (fun y3 =>
          some ((0 : Int), ((Go.IntKind.wrap .i64 ((65536 : Int) - x.2.1)), (false, ())))) (fun y3 =>
          some (y3.1, (y3.2.1, (y3.2.2, ())))) y2)))

noncomputable def i26_49 : ID := aInl Try.prog (envOf [(29, ⟨[(false, (.sl (.pair (.int .i64) (.pair (.int .i64) (.int .i64)))))], [(false, (.int .i64))], false, m29⟩)] [] [] []) ⟨[], []⟩ Try.f49
noncomputable def r26 : PDen [(false, (.sl (.pair (.int .i64) (.pair (.int .i64) (.int .i64))))), (false, (.int .i64))] → Option (PDen [(false, (.int .i64)), (false, (.int .i64)), (false, .bool)]) := fun x => afun Try.prog (envOf [(46, ⟨[(true, (.pair (.int .i64) (.pair (.int .i64) (.int .i64))))], [(false, (.int .i64))], false, m46⟩)] [] [] [(49, i26_49)]) ⟨[(0, ⟨[.slot 18 (.d false (.int .i64) true)], [], [(some 0, []), (none, [.slot 4 (.d false (.int .i64) true), .slot 5 (.d false (.int .i64) true), .slot 6 (.d false .bool true)])], none⟩)], []⟩ Try.f26 [(false, (.sl (.pair (.int .i64) (.pair (.int .i64) (.int .i64))))), (false, (.int .i64))] [(false, (.int .i64)), (false, (.int .i64)), (false, .bool)] false x
theorem r26_eq : r26 = m26 := by kernel_rfl

theorem i26_49_sound : i26_49.Sound Try.prog 49 := aInl_sound' (envOf_sound (CSs.cons c29 (CSs.nil)) (HDs.nil) (IDs.nil)) Try.follows (f := 49) (fn := Try.f49) Try.func49 (by kernel_rfl) (by kernel_rfl)
theorem c26 : CS.Sound Try.prog 26 ⟨[(false, (.sl (.pair (.int .i64) (.pair (.int .i64) (.int .i64))))), (false, (.int .i64))], [(false, (.int .i64)), (false, (.int .i64)), (false, .bool)], false, m26⟩ := afun_sound' (envOf_sound (CSs.cons c46 (CSs.nil)) (HDs.nil) (IDs.cons i26_49_sound (IDs.nil))) rfl Try.follows (f := 26) (fn := Try.f26) Try.func26 (by kernel_rfl) (by kernel_rfl) r26_eq
end Go.Proofs.Ytlkgkmalfdlbfaa
end

section
/- What function 27 (slipway/extent.Blocks) computes, by the kernel. -/
open Go Go.Proofs.AM
namespace Go.Proofs.Ytlkgkmalfdlbfaa

noncomputable def m27 (x : (List (Int × (Int × Int))) × Unit) : Option (Int × Unit) :=
  Option.bind (m29 (x.1, ())) fun (y1 : (Int × Unit)) =>
  bif (!(decide (y1.1 = (0 : Int)))) then
    (Option.bind (loopM (X := (Int × Int)) (E := Int) (fun (x2 : (Int × Int)) =>
        bif (decide (x2.2 < (0 : Int))) then
          (none)
        else
          (some (Sum.inr x2.1))) ((0 : Int), (0 : Int))) fun (y2 : Int) =>
    some (y2, ()))
  else
    (Option.bind (loopM (X := (Int × Int)) (E := Int) (fun (x2 : (Int × Int)) =>
        bif (decide (x2.2 < (((List.length x.1) : Nat) : Int))) then
          (gd ((0 : Int) ≤ x2.2) (gd (x2.2 < (((List.length x.1) : Nat) : Int)) (some (Sum.inl ((Go.IntKind.wrap .i64 (x2.1 + (List.getD x.1 (Int.toNat x2.2) ((0 : Int), ((0 : Int), (0 : Int)))).2.1)), (Go.IntKind.wrap .i64 (x2.2 + (1 : Int))))))))
        else
          (some (Sum.inr x2.1))) ((0 : Int), (0 : Int))) fun (y2 : Int) =>
    some (y2, ()))

noncomputable def i27_49 : ID := aInl Try.prog (envOf [(29, ⟨[(false, (.sl (.pair (.int .i64) (.pair (.int .i64) (.int .i64)))))], [(false, (.int .i64))], false, m29⟩)] [] [] []) ⟨[], []⟩ Try.f49
noncomputable def r27 : PDen [(false, (.sl (.pair (.int .i64) (.pair (.int .i64) (.int .i64)))))] → Option (PDen [(false, (.int .i64))]) := fun x => afun Try.prog (envOf [] [] [] [(49, i27_49)]) ⟨[(0, ⟨[.slot 3 (.d false (.int .i64) true), .slot 9 (.d false (.int .i64) true)], [], [(some 0, [.slot 3 (.d false (.int .i64) true)])], none⟩)], []⟩ Try.f27 [(false, (.sl (.pair (.int .i64) (.pair (.int .i64) (.int .i64)))))] [(false, (.int .i64))] false x
theorem r27_eq : r27 = m27 := by kernel_rfl

theorem i27_49_sound : i27_49.Sound Try.prog 49 := aInl_sound' (envOf_sound (CSs.cons c29 (CSs.nil)) (HDs.nil) (IDs.nil)) Try.follows (f := 49) (fn := Try.f49) Try.func49 (by kernel_rfl) (by kernel_rfl)
theorem c27 : CS.Sound Try.prog 27 ⟨[(false, (.sl (.pair (.int .i64) (.pair (.int .i64) (.int .i64)))))], [(false, (.int .i64))], false, m27⟩ := afun_sound' (envOf_sound (CSs.nil) (HDs.nil) (IDs.cons i27_49_sound (IDs.nil))) rfl Try.follows (f := 27) (fn := Try.f27) Try.func27 (by kernel_rfl) (by kernel_rfl) r27_eq
end Go.Proofs.Ytlkgkmalfdlbfaa
end

section
/- What function 6 (slipway/slipwaylaw13.ExtentRanges) computes, by the kernel. -/
open Go Go.Proofs.AM
namespace Go.Proofs.Ytlkgkmalfdlbfaa

noncomputable def m6 (x : (List (Int × (Int × Int))) × Int × Int × Unit) : Option (Bool × Unit) :=
  Option.bind (m8 ()) fun (y1 : (Bool × Unit)) =>
  bif (!y1.1) then
    (some (false, ()))
  else
    (Option.bind (m9 ((x.1 :: ([] : List (List (Int × (Int × Int))))), ())) fun (y2 : (Bool × Unit)) =>
    bif (!y2.1) then
      (some (true, ()))
    else
      (Option.bind (m10 (x.1, ())) fun (y3 : (Int × Unit)) =>
      bif (!(decide (y3.1 = (0 : Int)))) then
        (some (true, ()))
      else
        (Option.bind (m24 (x.1, ((Go.IntKind.wrap .i64 x.2.1), ((if (65536 : Int) < (Go.IntKind.wrap .i64 ((Go.IntKind.wrap .i64 x.2.1) + (Go.IntKind.wrap .i64 x.2.2.1))) then (65536 : Int) else (Go.IntKind.wrap .i64 ((Go.IntKind.wrap .i64 x.2.1) + (Go.IntKind.wrap .i64 x.2.2.1)))), ())))) fun (y4 : ((List (Int × (Int × Int))) × Unit)) =>
        Option.bind (loopM (X := (Int × Int)) (E := Int) (fun (x5 : (Int × Int)) =>
            bif (decide (x5.2 < (((List.length y4.1) : Nat) : Int))) then
              (gd ((0 : Int) ≤ x5.2) (gd (x5.2 < (((List.length y4.1) : Nat) : Int)) (some (Sum.inl ((Go.IntKind.wrap .i64 (x5.1 + (List.getD y4.1 (Int.toNat x5.2) ((0 : Int), ((0 : Int), (0 : Int)))).2.1)), (Go.IntKind.wrap .i64 (x5.2 + (1 : Int))))))))
            else
              (some (Sum.inr x5.1))) ((0 : Int), (0 : Int))) fun (y5 : Int) =>
        Option.bind (m25 (x.1, ((Go.IntKind.wrap .i64 x.2.1), ((if (65536 : Int) < (Go.IntKind.wrap .i64 ((Go.IntKind.wrap .i64 x.2.1) + (Go.IntKind.wrap .i64 x.2.2.1))) then (65536 : Int) else (Go.IntKind.wrap .i64 ((Go.IntKind.wrap .i64 x.2.1) + (Go.IntKind.wrap .i64 x.2.2.1)))), ())))) fun (y6 : ((List (Int × Int)) × Unit)) =>
        Option.bind (loopM (X := (Int × Int)) (E := (Int ⊕ Bool)) (fun (x7 : (Int × Int)) =>
            bif (decide (x7.2 < (((List.length y6.1) : Nat) : Int))) then
              (gd ((0 : Int) ≤ x7.2) (gd (x7.2 < (((List.length y6.1) : Nat) : Int)) (Option.bind (m26 (x.1, ((List.getD y6.1 (Int.toNat x7.2) ((0 : Int), (0 : Int))).1, ()))) fun (y8 : (Int × (Int × (Bool × Unit)))) =>
                  bif y8.2.2.1 then
                    (some (Sum.inr (Sum.inr false)))
                  else
                    (bif (decide (y8.2.1 < (List.getD y6.1 (Int.toNat x7.2) ((0 : Int), (0 : Int))).2)) then
                      (some (Sum.inr (Sum.inr false)))
                    else
                      (some (Sum.inl ((Go.IntKind.wrap .i64 (x7.1 + (List.getD y6.1 (Int.toNat x7.2) ((0 : Int), (0 : Int))).2)), (Go.IntKind.wrap .i64 (x7.2 + (1 : Int))))))))))
            else
              (some (Sum.inr (Sum.inl x7.1)))) (y5, (0 : Int))) fun (y7 : (Int ⊕ Bool)) =>
        Sum.elim (fun y8 =>
          Option.bind (m24 (x.1, ((0 : Int), ((65536 : Int), ())))) fun (y9 : ((List (Int × (Int × Int))) × Unit)) =>
          Option.bind (loopM (X := (Int × Int)) (E := Int) (fun (x10 : (Int × Int)) =>
              bif (decide (x10.2 < (((List.length y9.1) : Nat) : Int))) then
                (gd ((0 : Int) ≤ x10.2) (gd (x10.2 < (((List.length y9.1) : Nat) : Int)) (some (Sum.inl ((Go.IntKind.wrap .i64 (x10.1 + (List.getD y9.1 (Int.toNat x10.2) ((0 : Int), ((0 : Int), (0 : Int)))).2.1)), (Go.IntKind.wrap .i64 (x10.2 + (1 : Int))))))))
              else
                (some (Sum.inr x10.1))) ((0 : Int), (0 : Int))) fun (y10 : Int) =>
          bif (decide (y8 = (if (Go.IntKind.wrap .i64 ((if (65536 : Int) < (Go.IntKind.wrap .i64 ((Go.IntKind.wrap .i64 x.2.1) + (Go.IntKind.wrap .i64 x.2.2.1))) then (65536 : Int) else (Go.IntKind.wrap .i64 ((Go.IntKind.wrap .i64 x.2.1) + (Go.IntKind.wrap .i64 x.2.2.1)))) - (Go.IntKind.wrap .i64 x.2.1))) > (0 : Int) then (Go.IntKind.wrap .i64 ((if (65536 : Int) < (Go.IntKind.wrap .i64 ((Go.IntKind.wrap .i64 x.2.1) + (Go.IntKind.wrap .i64 x.2.2.1))) then (65536 : Int) else (Go.IntKind.wrap .i64 ((Go.IntKind.wrap .i64 x.2.1) + (Go.IntKind.wrap .i64 x.2.2.1)))) - (Go.IntKind.wrap .i64 x.2.1))) else (0 : Int)))) then
            (Option.bind (m27 (x.1, ())) fun (y11 : (Int × Unit)) =>
            some ((decide (y10 = y11.1)), ()))
          else
            (some (false, ()))) (fun y8 =>
          some (y8, ())) y7)))

noncomputable def r6 : PDen [(false, (.sl (.pair (.int .i64) (.pair (.int .i64) (.int .i64))))), (false, (.int .u16)), (false, (.int .u16))] → Option (PDen [(false, .bool)]) := fun x => afun Try.prog (envOf [(8, ⟨[], [(false, .bool)], false, m8⟩), (9, ⟨[(false, (.sl (.sl (.pair (.int .i64) (.pair (.int .i64) (.int .i64))))))], [(false, .bool)], false, m9⟩), (10, ⟨[(false, (.sl (.pair (.int .i64) (.pair (.int .i64) (.int .i64)))))], [(false, (.int .i64))], false, m10⟩), (24, ⟨[(false, (.sl (.pair (.int .i64) (.pair (.int .i64) (.int .i64))))), (false, (.int .i64)), (false, (.int .i64))], [(false, (.sl (.pair (.int .i64) (.pair (.int .i64) (.int .i64)))))], false, m24⟩), (25, ⟨[(false, (.sl (.pair (.int .i64) (.pair (.int .i64) (.int .i64))))), (false, (.int .i64)), (false, (.int .i64))], [(false, (.sl (.pair (.int .i64) (.int .i64))))], false, m25⟩), (26, ⟨[(false, (.sl (.pair (.int .i64) (.pair (.int .i64) (.int .i64))))), (false, (.int .i64))], [(false, (.int .i64)), (false, (.int .i64)), (false, .bool)], false, m26⟩), (27, ⟨[(false, (.sl (.pair (.int .i64) (.pair (.int .i64) (.int .i64)))))], [(false, (.int .i64))], false, m27⟩)] [] [] []) ⟨[(0, ⟨[.slot 9 (.d false (.int .i64) true), .slot 44 (.d false (.int .i64) true)], [], [(some 0, [.slot 9 (.d false (.int .i64) true)])], none⟩), (2, ⟨[.slot 9 (.d false (.int .i64) true), .slot 58 (.d false (.int .i64) true)], [], [(some 2, [.slot 9 (.d false (.int .i64) true)]), (none, [.slot 6 (.d false .bool true)])], none⟩), (4, ⟨[.slot 10 (.d false (.int .i64) true), .slot 85 (.d false (.int .i64) true)], [], [(some 4, [.slot 10 (.d false (.int .i64) true)])], none⟩)], []⟩ Try.f6 [(false, (.sl (.pair (.int .i64) (.pair (.int .i64) (.int .i64))))), (false, (.int .u16)), (false, (.int .u16))] [(false, .bool)] false x
theorem r6_eq : r6 = m6 := by kernel_rfl

theorem c6 : CS.Sound Try.prog 6 ⟨[(false, (.sl (.pair (.int .i64) (.pair (.int .i64) (.int .i64))))), (false, (.int .u16)), (false, (.int .u16))], [(false, .bool)], false, m6⟩ := afun_sound' (envOf_sound (CSs.cons c8 (CSs.cons c9 (CSs.cons c10 (CSs.cons c24 (CSs.cons c25 (CSs.cons c26 (CSs.cons c27 (CSs.nil)))))))) (HDs.nil) (IDs.nil)) rfl Try.follows (f := 6) (fn := Try.f6) Try.func6 (by kernel_rfl) (by kernel_rfl) r6_eq
end Go.Proofs.Ytlkgkmalfdlbfaa
end

section
/- What function 41 (slipway/slipwayref13.part) computes, by the kernel. -/
open Go Go.Proofs.AM
namespace Go.Proofs.Ytlkgkmalfdlbfaa

noncomputable def m41 (x : (Int × (Int × Int)) × Int × Int × Unit) : Option ((Int × (Int × Int)) × (Bool × Unit)) :=
  bif (decide ((if x.1.1 > x.2.1 then x.1.1 else x.2.1) ≥ (if (Go.IntKind.wrap .i64 (x.1.1 + x.1.2.1)) < x.2.2.1 then (Go.IntKind.wrap .i64 (x.1.1 + x.1.2.1)) else x.2.2.1))) then
    (some (((0 : Int), ((0 : Int), (0 : Int))), (false, ())))
  else
    (some (((if x.1.1 > x.2.1 then x.1.1 else x.2.1), ((Go.IntKind.wrap .i64 ((if (Go.IntKind.wrap .i64 (x.1.1 + x.1.2.1)) < x.2.2.1 then (Go.IntKind.wrap .i64 (x.1.1 + x.1.2.1)) else x.2.2.1) - (if x.1.1 > x.2.1 then x.1.1 else x.2.1))), (Go.IntKind.wrap .i64 ((Go.IntKind.wrap .i64 (x.1.2.2 + (if x.1.1 > x.2.1 then x.1.1 else x.2.1))) - x.1.1)))), (true, ())))

noncomputable def r41 : PDen [(true, (.pair (.int .i64) (.pair (.int .i64) (.int .i64)))), (false, (.int .i64)), (false, (.int .i64))] → Option (PDen [(true, (.pair (.int .i64) (.pair (.int .i64) (.int .i64)))), (false, .bool)]) := fun x => afun Try.prog (envOf [] [] [] []) ⟨[], []⟩ Try.f41 [(true, (.pair (.int .i64) (.pair (.int .i64) (.int .i64)))), (false, (.int .i64)), (false, (.int .i64))] [(true, (.pair (.int .i64) (.pair (.int .i64) (.int .i64)))), (false, .bool)] false x
theorem r41_eq : r41 = m41 := by kernel_rfl

theorem c41 : CS.Sound Try.prog 41 ⟨[(true, (.pair (.int .i64) (.pair (.int .i64) (.int .i64)))), (false, (.int .i64)), (false, (.int .i64))], [(true, (.pair (.int .i64) (.pair (.int .i64) (.int .i64)))), (false, .bool)], false, m41⟩ := afun_sound' (envOf_sound (CSs.nil) (HDs.nil) (IDs.nil)) rfl Try.follows (f := 41) (fn := Try.f41) Try.func41 (by kernel_rfl) (by kernel_rfl) r41_eq
end Go.Proofs.Ytlkgkmalfdlbfaa
end

section
/- What function 42 (slipway/slipwayref13.norm) computes, by the kernel. -/
open Go Go.Proofs.AM
namespace Go.Proofs.Ytlkgkmalfdlbfaa

noncomputable def m42 (x : (List (Int × (Int × Int))) × Unit) : Option (List (Int × (Int × Int))) :=
  Option.bind (loopM (X := ((List (Int × (Int × Int))) × Int)) (E := (List (Int × (Int × Int)))) (fun (x1 : ((List (Int × (Int × Int))) × Int)) =>
      bif (decide (x1.2 < (((List.length x.1) : Nat) : Int))) then
        (gd ((0 : Int) ≤ x1.2) (gd (x1.2 < (((List.length x.1) : Nat) : Int)) (gd ((((List.length x1.1) + (List.length ((List.getD x.1 (Int.toNat x1.2) ((0 : Int), ((0 : Int), (0 : Int)))) :: ([] : List (Int × (Int × Int)))))) * 24) ≤ 140737488355328) (gd (((List.length x1.1) + (List.length ((List.getD x.1 (Int.toNat x1.2) ((0 : Int), ((0 : Int), (0 : Int)))) :: ([] : List (Int × (Int × Int)))))) ≤ 140737488355328) (Option.bind (loopM (X := (Int × ((List (Int × (Int × Int))) × (List (Int × (Int × Int)))))) (E := ((List (Int × (Int × Int))) × (List (Int × (Int × Int))))) (fun (x2 : (Int × ((List (Int × (Int × Int))) × (List (Int × (Int × Int)))))) =>
                    bif (decide (x2.1 > (0 : Int))) then
                      (gd ((0 : Int) ≤ x2.1) (gd (x2.1 < (((List.length x2.2.2) : Nat) : Int)) (gd ((Int.toNat x2.1) < (List.length x2.2.2)) (gd ((0 : Int) ≤ (Go.IntKind.wrap .i64 (x2.1 - (1 : Int)))) (gd ((Go.IntKind.wrap .i64 (x2.1 - (1 : Int))) < (((List.length x2.2.2) : Nat) : Int)) (gd ((Int.toNat (Go.IntKind.wrap .i64 (x2.1 - (1 : Int)))) < (List.length x2.2.2)) (bif (decide ((List.getD x2.2.2 (Int.toNat x2.1) ((0 : Int), ((0 : Int), (0 : Int)))).1 < (List.getD x2.2.2 (Int.toNat (Go.IntKind.wrap .i64 (x2.1 - (1 : Int)))) ((0 : Int), ((0 : Int), (0 : Int)))).1)) then
                                    (gd ((0 : Int) ≤ (Go.IntKind.wrap .i64 (x2.1 - (1 : Int)))) (gd ((Go.IntKind.wrap .i64 (x2.1 - (1 : Int))) < (((List.length x2.2.2) : Nat) : Int)) (gd ((Int.toNat (Go.IntKind.wrap .i64 (x2.1 - (1 : Int)))) < (List.length x2.2.2)) (gd ((0 : Int) ≤ x2.1) (gd (x2.1 < (((List.length x2.2.2) : Nat) : Int)) (gd ((Int.toNat x2.1) < (List.length x2.2.2)) (gd ((0 : Int) ≤ x2.1) (gd (x2.1 < (((List.length x2.2.2) : Nat) : Int)) (gd ((Int.toNat x2.1) < (List.length x2.2.2)) (gd ((0 : Int) ≤ (Go.IntKind.wrap .i64 (x2.1 - (1 : Int)))) (gd ((Go.IntKind.wrap .i64 (x2.1 - (1 : Int))) < (((List.length (List.set x2.2.2 (Int.toNat x2.1) (List.getD x2.2.2 (Int.toNat (Go.IntKind.wrap .i64 (x2.1 - (1 : Int)))) ((0 : Int), ((0 : Int), (0 : Int)))))) : Nat) : Int)) (gd ((Int.toNat (Go.IntKind.wrap .i64 (x2.1 - (1 : Int)))) < (List.length (List.set x2.2.2 (Int.toNat x2.1) (List.getD x2.2.2 (Int.toNat (Go.IntKind.wrap .i64 (x2.1 - (1 : Int)))) ((0 : Int), ((0 : Int), (0 : Int))))))) (some (Sum.inl ((Go.IntKind.wrap .i64 (x2.1 - (1 : Int))), (x2.2.1, (List.set (List.set x2.2.2 (Int.toNat x2.1) (List.getD x2.2.2 (Int.toNat (Go.IntKind.wrap .i64 (x2.1 - (1 : Int)))) ((0 : Int), ((0 : Int), (0 : Int))))) (Int.toNat (Go.IntKind.wrap .i64 (x2.1 - (1 : Int)))) (List.getD x2.2.2 (Int.toNat x2.1) ((0 : Int), ((0 : Int), (0 : Int)))))))))))))))))))))
                                  else
                                    (some (Sum.inr (x2.2.1, x2.2.2))))))))))
                    else
                      (some (Sum.inr (x2.2.1, x2.2.2)))) ((Go.IntKind.wrap .i64 ((((List.length (x1.1 ++ ((List.getD x.1 (Int.toNat x1.2) ((0 : Int), ((0 : Int), (0 : Int)))) :: ([] : List (Int × (Int × Int)))))) : Nat) : Int) - (1 : Int))), (((List.getD x.1 (Int.toNat x1.2) ((0 : Int), ((0 : Int), (0 : Int)))) :: ([] : List (Int × (Int × Int)))), (x1.1 ++ ((List.getD x.1 (Int.toNat x1.2) ((0 : Int), ((0 : Int), (0 : Int)))) :: ([] : List (Int × (Int × Int)))))))) fun (y2 : ((List (Int × (Int × Int))) × (List (Int × (Int × Int))))) =>
                some (Sum.inl (y2.2, (Go.IntKind.wrap .i64 (x1.2 + (1 : Int))))))))))
      else
        (some (Sum.inr x1.1))) (([] : List (Int × (Int × Int))), (0 : Int))) fun (y1 : (List (Int × (Int × Int)))) =>
  Option.bind (loopM (X := ((List (Int × (Int × Int))) × Int)) (E := (List (Int × (Int × Int)))) (fun (x2 : ((List (Int × (Int × Int))) × Int)) =>
      bif (decide (x2.2 < (((List.length y1) : Nat) : Int))) then
        (bif (decide ((Go.IntKind.wrap .i64 ((((List.length x2.1) : Nat) : Int) - (1 : Int))) ≥ (0 : Int))) then
          (gd ((0 : Int) ≤ (Go.IntKind.wrap .i64 ((((List.length x2.1) : Nat) : Int) - (1 : Int)))) (gd ((Go.IntKind.wrap .i64 ((((List.length x2.1) : Nat) : Int) - (1 : Int))) < (((List.length x2.1) : Nat) : Int)) (gd ((Int.toNat (Go.IntKind.wrap .i64 ((((List.length x2.1) : Nat) : Int) - (1 : Int)))) < (List.length x2.1)) (gd ((0 : Int) ≤ x2.2) (gd (x2.2 < (((List.length y1) : Nat) : Int)) (gd ((Int.toNat x2.2) < (List.length y1)) (Option.bind (m36 ((List.getD x2.1 (Int.toNat (Go.IntKind.wrap .i64 ((((List.length x2.1) : Nat) : Int) - (1 : Int)))) ((0 : Int), ((0 : Int), (0 : Int)))), ((List.getD y1 (Int.toNat x2.2) ((0 : Int), ((0 : Int), (0 : Int)))), ()))) fun (y3 : (Bool × Unit)) =>
                      bif y3.1 then
                        (gd ((0 : Int) ≤ (Go.IntKind.wrap .i64 ((((List.length x2.1) : Nat) : Int) - (1 : Int)))) (gd ((Go.IntKind.wrap .i64 ((((List.length x2.1) : Nat) : Int) - (1 : Int))) < (((List.length x2.1) : Nat) : Int)) (gd ((Int.toNat (Go.IntKind.wrap .i64 ((((List.length x2.1) : Nat) : Int) - (1 : Int)))) < (List.length x2.1)) (gd ((0 : Int) ≤ x2.2) (gd (x2.2 < (((List.length y1) : Nat) : Int)) (gd ((Int.toNat x2.2) < (List.length y1)) (gd ((0 : Int) ≤ (Go.IntKind.wrap .i64 ((((List.length x2.1) : Nat) : Int) - (1 : Int)))) (gd ((Go.IntKind.wrap .i64 ((((List.length x2.1) : Nat) : Int) - (1 : Int))) < (((List.length x2.1) : Nat) : Int)) (gd ((Int.toNat (Go.IntKind.wrap .i64 ((((List.length x2.1) : Nat) : Int) - (1 : Int)))) < (List.length x2.1)) (some (Sum.inl ((List.set x2.1 (Int.toNat (Go.IntKind.wrap .i64 ((((List.length x2.1) : Nat) : Int) - (1 : Int)))) ((List.getD x2.1 (Int.toNat (Go.IntKind.wrap .i64 ((((List.length x2.1) : Nat) : Int) - (1 : Int)))) ((0 : Int), ((0 : Int), (0 : Int)))).1, ((Go.IntKind.wrap .i64 ((List.getD x2.1 (Int.toNat (Go.IntKind.wrap .i64 ((((List.length x2.1) : Nat) : Int) - (1 : Int)))) ((0 : Int), ((0 : Int), (0 : Int)))).2.1 + (List.getD y1 (Int.toNat x2.2) ((0 : Int), ((0 : Int), (0 : Int)))).2.1)), (List.getD x2.1 (Int.toNat (Go.IntKind.wrap .i64 ((((List.length x2.1) : Nat) : Int) - (1 : Int)))) ((0 : Int), ((0 : Int), (0 : Int)))).2.2))), (Go.IntKind.wrap .i64 (x2.2 + (1 : Int)))))))))))))))
                      else
                        (gd ((0 : Int) ≤ x2.2) (gd (x2.2 < (((List.length y1) : Nat) : Int)) (gd ((Int.toNat x2.2) < (List.length y1)) (gd ((((List.length x2.1) + (List.length ((List.getD y1 (Int.toNat x2.2) ((0 : Int), ((0 : Int), (0 : Int)))) :: ([] : List (Int × (Int × Int)))))) * 24) ≤ 140737488355328) (gd (((List.length x2.1) + (List.length ((List.getD y1 (Int.toNat x2.2) ((0 : Int), ((0 : Int), (0 : Int)))) :: ([] : List (Int × (Int × Int)))))) ≤ 140737488355328) (some (Sum.inl ((x2.1 ++ ((List.getD y1 (Int.toNat x2.2) ((0 : Int), ((0 : Int), (0 : Int)))) :: ([] : List (Int × (Int × Int))))), (Go.IntKind.wrap .i64 (x2.2 + (1 : Int))))))))))))))))))
        else
          (gd ((0 : Int) ≤ x2.2) (gd (x2.2 < (((List.length y1) : Nat) : Int)) (gd ((Int.toNat x2.2) < (List.length y1)) (gd ((((List.length x2.1) + (List.length ((List.getD y1 (Int.toNat x2.2) ((0 : Int), ((0 : Int), (0 : Int)))) :: ([] : List (Int × (Int × Int)))))) * 24) ≤ 140737488355328) (gd (((List.length x2.1) + (List.length ((List.getD y1 (Int.toNat x2.2) ((0 : Int), ((0 : Int), (0 : Int)))) :: ([] : List (Int × (Int × Int)))))) ≤ 140737488355328) (some (Sum.inl ((x2.1 ++ ((List.getD y1 (Int.toNat x2.2) ((0 : Int), ((0 : Int), (0 : Int)))) :: ([] : List (Int × (Int × Int))))), (Go.IntKind.wrap .i64 (x2.2 + (1 : Int))))))))))))
      else
        (some (Sum.inr x2.1))) (([] : List (Int × (Int × Int))), (0 : Int))) fun (y2 : (List (Int × (Int × Int)))) =>
  some y2

noncomputable def r42 : PDen [(false, (.sl (.pair (.int .i64) (.pair (.int .i64) (.int .i64)))))] → Option (List (K.den (.pair (.int .i64) (.pair (.int .i64) (.int .i64))))) := fun x => afunO Try.prog (envOf [(36, ⟨[(true, (.pair (.int .i64) (.pair (.int .i64) (.int .i64)))), (true, (.pair (.int .i64) (.pair (.int .i64) (.int .i64))))], [(false, .bool)], false, m36⟩)] [] [] []) ⟨[(0, ⟨[.slot 3 (.v 24 (.pair (.int .i64) (.pair (.int .i64) (.int .i64))) true), .slot 4 (.d false (.int .i64) true)], [], [(some 0, [.slot 3 (.v 24 (.pair (.int .i64) (.pair (.int .i64) (.int .i64))) true)])], none⟩), (2, ⟨[.slot 5 (.d false (.int .i64) true), .vec 1 24 (.pair (.int .i64) (.pair (.int .i64) (.int .i64))) true, .vec 2 24 (.pair (.int .i64) (.pair (.int .i64) (.int .i64))) true], [], [(some 2, [.vec 1 24 (.pair (.int .i64) (.pair (.int .i64) (.int .i64))) true, .vec 2 24 (.pair (.int .i64) (.pair (.int .i64) (.int .i64))) true])], none⟩), (4, ⟨[.slot 6 (.v 24 (.pair (.int .i64) (.pair (.int .i64) (.int .i64))) true), .slot 7 (.d false (.int .i64) true)], [], [(some 4, [.slot 6 (.v 24 (.pair (.int .i64) (.pair (.int .i64) (.int .i64))) true)])], none⟩)], []⟩ Try.f42 [(false, (.sl (.pair (.int .i64) (.pair (.int .i64) (.int .i64)))))] 24 (.pair (.int .i64) (.pair (.int .i64) (.int .i64))) false x
theorem r42_eq : r42 = m42 := by kernel_rfl

theorem c42 : OS.Sound Try.prog 42 ⟨[(false, (.sl (.pair (.int .i64) (.pair (.int .i64) (.int .i64)))))], 24, (.pair (.int .i64) (.pair (.int .i64) (.int .i64))), false, m42⟩ := afunO_sound' (envOf_sound (CSs.cons c36 (CSs.nil)) (HDs.nil) (IDs.nil)) rfl Try.follows (f := 42) (fn := Try.f42) Try.func42 (by kernel_rfl) (by kernel_rfl) r42_eq
end Go.Proofs.Ytlkgkmalfdlbfaa
end

section
/- What function 18 (slipway/slipwayref13.Punch) computes, by the kernel. -/
open Go Go.Proofs.AM
namespace Go.Proofs.Ytlkgkmalfdlbfaa

noncomputable def m18 (x : (List (Int × (Int × Int))) × Int × Int × Unit) : Option ((List (Int × (Int × Int))) × ((List (Int × (Int × Int))) × (Int × Unit))) :=
  Option.bind (m10 (x.1, ())) fun (y1 : (Int × Unit)) =>
  bif (!(decide (y1.1 = (0 : Int)))) then
    (some (([] : List (Int × (Int × Int))), (([] : List (Int × (Int × Int))), (y1.1, ()))))
  else
    (bif (decide (x.2.1 < (0 : Int))) then
      (some (([] : List (Int × (Int × Int))), (([] : List (Int × (Int × Int))), ((1 : Int), ()))))
    else
      (bif (decide (x.2.1 > (65536 : Int))) then
        (some (([] : List (Int × (Int × Int))), (([] : List (Int × (Int × Int))), ((1 : Int), ()))))
      else
        (bif (decide (x.2.2.1 < (0 : Int))) then
          (some (([] : List (Int × (Int × Int))), (([] : List (Int × (Int × Int))), ((1 : Int), ()))))
        else
          (Option.bind (loopM (X := ((List (Int × (Int × Int))) × ((List (Int × (Int × Int))) × Int))) (E := ((List (Int × (Int × Int))) × (List (Int × (Int × Int))))) (fun (x2 : ((List (Int × (Int × Int))) × ((List (Int × (Int × Int))) × Int))) =>
              bif (decide (x2.2.2 < (((List.length x.1) : Nat) : Int))) then
                (gd ((0 : Int) ≤ x2.2.2) (gd (x2.2.2 < (((List.length x.1) : Nat) : Int)) (Option.bind (m41 ((List.getD x.1 (Int.toNat x2.2.2) ((0 : Int), ((0 : Int), (0 : Int)))), ((0 : Int), (x.2.1, ())))) fun (y3 : ((Int × (Int × Int)) × (Bool × Unit))) =>
                    bif y3.2.1 then
                      (gd ((((List.length x2.1) + (List.length (y3.1 :: ([] : List (Int × (Int × Int)))))) * 24) ≤ 140737488355328) (gd (((List.length x2.1) + (List.length (y3.1 :: ([] : List (Int × (Int × Int)))))) ≤ 140737488355328) (gd ((0 : Int) ≤ x2.2.2) (gd (x2.2.2 < (((List.length x.1) : Nat) : Int)) (Option.bind (m41 ((List.getD x.1 (Int.toNat x2.2.2) ((0 : Int), ((0 : Int), (0 : Int)))), (x.2.1, ((Go.IntKind.wrap .i64 (x.2.1 + (if (Go.IntKind.wrap .i64 ((65536 : Int) - x.2.1)) < x.2.2.1 then (Go.IntKind.wrap .i64 ((65536 : Int) - x.2.1)) else x.2.2.1))), ())))) fun (y4 : ((Int × (Int × Int)) × (Bool × Unit))) =>
                              bif y4.2.1 then
                                (gd ((((List.length x2.2.1) + (List.length (y4.1 :: ([] : List (Int × (Int × Int)))))) * 24) ≤ 140737488355328) (gd (((List.length x2.2.1) + (List.length (y4.1 :: ([] : List (Int × (Int × Int)))))) ≤ 140737488355328) (gd ((0 : Int) ≤ x2.2.2) (gd (x2.2.2 < (((List.length x.1) : Nat) : Int)) (Option.bind (m41 ((List.getD x.1 (Int.toNat x2.2.2) ((0 : Int), ((0 : Int), (0 : Int)))), ((Go.IntKind.wrap .i64 (x.2.1 + (if (Go.IntKind.wrap .i64 ((65536 : Int) - x.2.1)) < x.2.2.1 then (Go.IntKind.wrap .i64 ((65536 : Int) - x.2.1)) else x.2.2.1))), ((65536 : Int), ())))) fun (y5 : ((Int × (Int × Int)) × (Bool × Unit))) =>
                                        bif y5.2.1 then
                                          (gd ((((List.length (x2.1 ++ (y3.1 :: ([] : List (Int × (Int × Int)))))) + (List.length (y5.1 :: ([] : List (Int × (Int × Int)))))) * 24) ≤ 140737488355328) (gd (((List.length (x2.1 ++ (y3.1 :: ([] : List (Int × (Int × Int)))))) + (List.length (y5.1 :: ([] : List (Int × (Int × Int)))))) ≤ 140737488355328) (some (Sum.inl (((x2.1 ++ (y3.1 :: ([] : List (Int × (Int × Int))))) ++ (y5.1 :: ([] : List (Int × (Int × Int))))), ((x2.2.1 ++ (y4.1 :: ([] : List (Int × (Int × Int))))), (Go.IntKind.wrap .i64 (x2.2.2 + (1 : Int)))))))))
                                        else
                                          (some (Sum.inl ((x2.1 ++ (y3.1 :: ([] : List (Int × (Int × Int))))), ((x2.2.1 ++ (y4.1 :: ([] : List (Int × (Int × Int))))), (Go.IntKind.wrap .i64 (x2.2.2 + (1 : Int))))))))))))
                              else
                                (gd ((0 : Int) ≤ x2.2.2) (gd (x2.2.2 < (((List.length x.1) : Nat) : Int)) (Option.bind (m41 ((List.getD x.1 (Int.toNat x2.2.2) ((0 : Int), ((0 : Int), (0 : Int)))), ((Go.IntKind.wrap .i64 (x.2.1 + (if (Go.IntKind.wrap .i64 ((65536 : Int) - x.2.1)) < x.2.2.1 then (Go.IntKind.wrap .i64 ((65536 : Int) - x.2.1)) else x.2.2.1))), ((65536 : Int), ())))) fun (y5 : ((Int × (Int × Int)) × (Bool × Unit))) =>
                                    bif y5.2.1 then
                                      (gd ((((List.length (x2.1 ++ (y3.1 :: ([] : List (Int × (Int × Int)))))) + (List.length (y5.1 :: ([] : List (Int × (Int × Int)))))) * 24) ≤ 140737488355328) (gd (((List.length (x2.1 ++ (y3.1 :: ([] : List (Int × (Int × Int)))))) + (List.length (y5.1 :: ([] : List (Int × (Int × Int)))))) ≤ 140737488355328) (some (Sum.inl (((x2.1 ++ (y3.1 :: ([] : List (Int × (Int × Int))))) ++ (y5.1 :: ([] : List (Int × (Int × Int))))), (x2.2.1, (Go.IntKind.wrap .i64 (x2.2.2 + (1 : Int)))))))))
                                    else
                                      (some (Sum.inl ((x2.1 ++ (y3.1 :: ([] : List (Int × (Int × Int))))), (x2.2.1, (Go.IntKind.wrap .i64 (x2.2.2 + (1 : Int)))))))))))))))
                    else
                      (gd ((0 : Int) ≤ x2.2.2) (gd (x2.2.2 < (((List.length x.1) : Nat) : Int)) (Option.bind (m41 ((List.getD x.1 (Int.toNat x2.2.2) ((0 : Int), ((0 : Int), (0 : Int)))), (x.2.1, ((Go.IntKind.wrap .i64 (x.2.1 + (if (Go.IntKind.wrap .i64 ((65536 : Int) - x.2.1)) < x.2.2.1 then (Go.IntKind.wrap .i64 ((65536 : Int) - x.2.1)) else x.2.2.1))), ())))) fun (y4 : ((Int × (Int × Int)) × (Bool × Unit))) =>
                          bif y4.2.1 then
                            (gd ((((List.length x2.2.1) + (List.length (y4.1 :: ([] : List (Int × (Int × Int)))))) * 24) ≤ 140737488355328) (gd (((List.length x2.2.1) + (List.length (y4.1 :: ([] : List (Int × (Int × Int)))))) ≤ 140737488355328) (gd ((0 : Int) ≤ x2.2.2) (gd (x2.2.2 < (((List.length x.1) : Nat) : Int)) (Option.bind (m41 ((List.getD x.1 (Int.toNat x2.2.2) ((0 : Int), ((0 : Int), (0 : Int)))), ((Go.IntKind.wrap .i64 (x.2.1 + (if (Go.IntKind.wrap .i64 ((65536 : Int) - x.2.1)) < x.2.2.1 then (Go.IntKind.wrap .i64 ((65536 : Int) - x.2.1)) else x.2.2.1))), ((65536 : Int), ())))) fun (y5 : ((Int × (Int × Int)) × (Bool × Unit))) =>
                                    bif y5.2.1 then
                                      (gd ((((List.length x2.1) + (List.length (y5.1 :: ([] : List (Int × (Int × Int)))))) * 24) ≤ 140737488355328) (gd (((List.length x2.1) + (List.length (y5.1 :: ([] : List (Int × (Int × Int)))))) ≤ 140737488355328) (some (Sum.inl ((x2.1 ++ (y5.1 :: ([] : List (Int × (Int × Int))))), ((x2.2.1 ++ (y4.1 :: ([] : List (Int × (Int × Int))))), (Go.IntKind.wrap .i64 (x2.2.2 + (1 : Int)))))))))
                                    else
                                      (some (Sum.inl (x2.1, ((x2.2.1 ++ (y4.1 :: ([] : List (Int × (Int × Int))))), (Go.IntKind.wrap .i64 (x2.2.2 + (1 : Int))))))))))))
                          else
                            (gd ((0 : Int) ≤ x2.2.2) (gd (x2.2.2 < (((List.length x.1) : Nat) : Int)) (Option.bind (m41 ((List.getD x.1 (Int.toNat x2.2.2) ((0 : Int), ((0 : Int), (0 : Int)))), ((Go.IntKind.wrap .i64 (x.2.1 + (if (Go.IntKind.wrap .i64 ((65536 : Int) - x.2.1)) < x.2.2.1 then (Go.IntKind.wrap .i64 ((65536 : Int) - x.2.1)) else x.2.2.1))), ((65536 : Int), ())))) fun (y5 : ((Int × (Int × Int)) × (Bool × Unit))) =>
                                bif y5.2.1 then
                                  (gd ((((List.length x2.1) + (List.length (y5.1 :: ([] : List (Int × (Int × Int)))))) * 24) ≤ 140737488355328) (gd (((List.length x2.1) + (List.length (y5.1 :: ([] : List (Int × (Int × Int)))))) ≤ 140737488355328) (some (Sum.inl ((x2.1 ++ (y5.1 :: ([] : List (Int × (Int × Int))))), (x2.2.1, (Go.IntKind.wrap .i64 (x2.2.2 + (1 : Int)))))))))
                                else
                                  (some (Sum.inl (x2.1, (x2.2.1, (Go.IntKind.wrap .i64 (x2.2.2 + (1 : Int))))))))))))))))
              else
                (some (Sum.inr (x2.1, x2.2.1)))) (([] : List (Int × (Int × Int))), (([] : List (Int × (Int × Int))), (0 : Int)))) fun (y2 : ((List (Int × (Int × Int))) × (List (Int × (Int × Int))))) =>
          Option.bind (m42 (y2.1, ())) fun (y3 : (List (Int × (Int × Int)))) =>
          some (y3, (y2.2, ((0 : Int), ())))))))

noncomputable def r18 : PDen [(false, (.sl (.pair (.int .i64) (.pair (.int .i64) (.int .i64))))), (false, (.int .i64)), (false, (.int .i64))] → Option (PDen [(false, (.sl (.pair (.int .i64) (.pair (.int .i64) (.int .i64))))), (false, (.sl (.pair (.int .i64) (.pair (.int .i64) (.int .i64))))), (false, (.int .i64))]) := fun x => afunM Try.prog (envOf [(10, ⟨[(false, (.sl (.pair (.int .i64) (.pair (.int .i64) (.int .i64)))))], [(false, (.int .i64))], false, m10⟩), (41, ⟨[(true, (.pair (.int .i64) (.pair (.int .i64) (.int .i64)))), (false, (.int .i64)), (false, (.int .i64))], [(true, (.pair (.int .i64) (.pair (.int .i64) (.int .i64)))), (false, .bool)], false, m41⟩)] [(42, OS.hd ⟨[(false, (.sl (.pair (.int .i64) (.pair (.int .i64) (.int .i64)))))], 24, (.pair (.int .i64) (.pair (.int .i64) (.int .i64))), false, m42⟩)] [] []) ⟨[(0, ⟨[.slot 11 (.v 24 (.pair (.int .i64) (.pair (.int .i64) (.int .i64))) true), .slot 12 (.v 24 (.pair (.int .i64) (.pair (.int .i64) (.int .i64))) true), .slot 13 (.d false (.int .i64) true)], [], [(some 0, [.slot 11 (.v 24 (.pair (.int .i64) (.pair (.int .i64) (.int .i64))) true), .slot 12 (.v 24 (.pair (.int .i64) (.pair (.int .i64) (.int .i64))) true)])], none⟩)], []⟩ Try.f18 [(false, (.sl (.pair (.int .i64) (.pair (.int .i64) (.int .i64))))), (false, (.int .i64)), (false, (.int .i64))] [(false, (.sl (.pair (.int .i64) (.pair (.int .i64) (.int .i64))))), (false, (.sl (.pair (.int .i64) (.pair (.int .i64) (.int .i64))))), (false, (.int .i64))] [(.s 24), (.s 24), .d] false x
theorem r18_eq : r18 = m18 := by kernel_rfl

theorem c18 : OM.Sound Try.prog 18 ⟨[(false, (.sl (.pair (.int .i64) (.pair (.int .i64) (.int .i64))))), (false, (.int .i64)), (false, (.int .i64))], [(false, (.sl (.pair (.int .i64) (.pair (.int .i64) (.int .i64))))), (false, (.sl (.pair (.int .i64) (.pair (.int .i64) (.int .i64))))), (false, (.int .i64))], [(.s 24), (.s 24), .d], false, m18⟩ := afunM_sound' (envOf_sound (CSs.cons c10 (CSs.cons c41 (CSs.nil))) (HDs.cons (OS.Sound.hd c42) (HDs.nil)) (IDs.nil)) rfl Try.follows (f := 18) (fn := Try.f18) Try.func18 (by kernel_rfl) (by kernel_rfl) r18_eq
end Go.Proofs.Ytlkgkmalfdlbfaa
end

section
/- What function 20 (slipway/slipwayref13.Put) computes, by the kernel. -/
open Go Go.Proofs.AM
namespace Go.Proofs.Ytlkgkmalfdlbfaa

noncomputable def m20 (x : (List (Int × (Int × Int))) × (Int × (Int × Int)) × Unit) : Option ((List (Int × (Int × Int))) × ((List (Int × (Int × Int))) × (Int × Unit))) :=
  Option.bind (m10 (x.1, ())) fun (y1 : (Int × Unit)) =>
  bif (!(decide (y1.1 = (0 : Int)))) then
    (some (([] : List (Int × (Int × Int))), (([] : List (Int × (Int × Int))), (y1.1, ()))))
  else
    (Option.bind (m12 (x.2.1, ())) fun (y2 : (Int × Unit)) =>
    bif (!(decide (y2.1 = (0 : Int)))) then
      (some (([] : List (Int × (Int × Int))), (([] : List (Int × (Int × Int))), (y2.1, ()))))
    else
      (Option.bind (m18 (x.1, (x.2.1.1, (x.2.1.2.1, ())))) fun (y3 : ((List (Int × (Int × Int))) × ((List (Int × (Int × Int))) × (Int × Unit)))) =>
      gd ((((List.length y3.1) + (List.length (x.2.1 :: ([] : List (Int × (Int × Int)))))) * 24) ≤ 140737488355328) (gd (((List.length y3.1) + (List.length (x.2.1 :: ([] : List (Int × (Int × Int)))))) ≤ 140737488355328) (Option.bind (m42 ((y3.1 ++ (x.2.1 :: ([] : List (Int × (Int × Int))))), ())) fun (y4 : (List (Int × (Int × Int)))) =>
          some (y4, (y3.2.1, ((0 : Int), ())))))))

noncomputable def r20 : PDen [(false, (.sl (.pair (.int .i64) (.pair (.int .i64) (.int .i64))))), (true, (.pair (.int .i64) (.pair (.int .i64) (.int .i64))))] → Option (PDen [(false, (.sl (.pair (.int .i64) (.pair (.int .i64) (.int .i64))))), (false, (.sl (.pair (.int .i64) (.pair (.int .i64) (.int .i64))))), (false, (.int .i64))]) := fun x => afun Try.prog (envOf [(10, ⟨[(false, (.sl (.pair (.int .i64) (.pair (.int .i64) (.int .i64)))))], [(false, (.int .i64))], false, m10⟩), (12, ⟨[(true, (.pair (.int .i64) (.pair (.int .i64) (.int .i64))))], [(false, (.int .i64))], false, m12⟩)] [(42, OS.hd ⟨[(false, (.sl (.pair (.int .i64) (.pair (.int .i64) (.int .i64)))))], 24, (.pair (.int .i64) (.pair (.int .i64) (.int .i64))), false, m42⟩), (18, OM.hd ⟨[(false, (.sl (.pair (.int .i64) (.pair (.int .i64) (.int .i64))))), (false, (.int .i64)), (false, (.int .i64))], [(false, (.sl (.pair (.int .i64) (.pair (.int .i64) (.int .i64))))), (false, (.sl (.pair (.int .i64) (.pair (.int .i64) (.int .i64))))), (false, (.int .i64))], [(.s 24), (.s 24), .d], false, m18⟩)] [] []) ⟨[], []⟩ Try.f20 [(false, (.sl (.pair (.int .i64) (.pair (.int .i64) (.int .i64))))), (true, (.pair (.int .i64) (.pair (.int .i64) (.int .i64))))] [(false, (.sl (.pair (.int .i64) (.pair (.int .i64) (.int .i64))))), (false, (.sl (.pair (.int .i64) (.pair (.int .i64) (.int .i64))))), (false, (.int .i64))] false x
theorem r20_eq : r20 = m20 := by kernel_rfl

theorem c20 : CS.Sound Try.prog 20 ⟨[(false, (.sl (.pair (.int .i64) (.pair (.int .i64) (.int .i64))))), (true, (.pair (.int .i64) (.pair (.int .i64) (.int .i64))))], [(false, (.sl (.pair (.int .i64) (.pair (.int .i64) (.int .i64))))), (false, (.sl (.pair (.int .i64) (.pair (.int .i64) (.int .i64))))), (false, (.int .i64))], false, m20⟩ := afun_sound' (envOf_sound (CSs.cons c10 (CSs.cons c12 (CSs.nil))) (HDs.cons (OS.Sound.hd c42) (HDs.cons (OM.Sound.hd c18) (HDs.nil))) (IDs.nil)) rfl Try.follows (f := 20) (fn := Try.f20) Try.func20 (by kernel_rfl) (by kernel_rfl) r20_eq
end Go.Proofs.Ytlkgkmalfdlbfaa
end

section
/- What function 21 (slipway/extent.Norm) computes, by the kernel. -/
open Go Go.Proofs.AM
namespace Go.Proofs.Ytlkgkmalfdlbfaa

noncomputable def m21 (x : (List (Int × (Int × Int))) × Unit) : Option ((List (Int × (Int × Int))) × (Int × Unit)) :=
  Option.bind (loopM (X := Int) (E := (Unit ⊕ ((List (Int × (Int × Int))) × Int))) (fun (x1 : Int) =>
      bif (decide (x1 < (((List.length x.1) : Nat) : Int))) then
        (gd ((0 : Int) ≤ x1) (gd (x1 < (((List.length x.1) : Nat) : Int)) (Option.bind (m32 ((List.getD x.1 (Int.toNat x1) ((0 : Int), ((0 : Int), (0 : Int)))), ())) fun (y2 : (Int × Unit)) =>
            bif (!(decide (y2.1 = (0 : Int)))) then
              (some (Sum.inr (Sum.inr (([] : List (Int × (Int × Int))), (130 : Int)))))
            else
              (some (Sum.inl (Go.IntKind.wrap .i64 (x1 + (1 : Int))))))))
      else
        (some (Sum.inr (Sum.inl ())))) (0 : Int)) fun (y1 : (Unit ⊕ ((List (Int × (Int × Int))) × Int))) =>
  Sum.elim (fun y2 =>
    Option.bind (m17 (x.1, ())) fun (y3 : (List (Int × (Int × Int)))) =>
    Option.bind (m43_44 (y3, ())) fun (y4 : (List (Int × (Int × Int)))) =>
    Option.bind (loopM (X := Int) (E := (Unit ⊕ ((List (Int × (Int × Int))) × Int))) (fun (x5 : Int) =>
        bif (decide (x5 < (((List.length y4) : Nat) : Int))) then
          (gd ((0 : Int) ≤ x5) (gd (x5 < (((List.length y4) : Nat) : Int)) (gd ((Int.toNat x5) < (List.length y4)) (gd ((0 : Int) ≤ (Go.IntKind.wrap .i64 (x5 - (1 : Int)))) (gd ((Go.IntKind.wrap .i64 (x5 - (1 : Int))) < (((List.length y4) : Nat) : Int)) (gd ((Int.toNat (Go.IntKind.wrap .i64 (x5 - (1 : Int)))) < (List.length y4)) (Option.bind (m46 ((List.getD y4 (Int.toNat (Go.IntKind.wrap .i64 (x5 - (1 : Int)))) ((0 : Int), ((0 : Int), (0 : Int)))), ())) fun (y6 : (Int × Unit)) =>
                      bif (decide ((List.getD y4 (Int.toNat x5) ((0 : Int), ((0 : Int), (0 : Int)))).1 < y6.1)) then
                        (some (Sum.inr (Sum.inr (([] : List (Int × (Int × Int))), (130 : Int)))))
                      else
                        (some (Sum.inl (Go.IntKind.wrap .i64 (x5 + (1 : Int))))))))))))
        else
          (some (Sum.inr (Sum.inl ())))) (1 : Int)) fun (y5 : (Unit ⊕ ((List (Int × (Int × Int))) × Int))) =>
    Sum.elim (fun y6 =>
      Option.bind (m38 (y4, ())) fun (y7 : (List (Int × (Int × Int)))) =>
      some (y7, ((0 : Int), ()))) (fun y6 =>
      some (y6.1, (y6.2, ()))) y5) (fun y2 =>
    some (y2.1, (y2.2, ()))) y1

noncomputable def r21 : PDen [(false, (.sl (.pair (.int .i64) (.pair (.int .i64) (.int .i64)))))] → Option (PDen [(false, (.sl (.pair (.int .i64) (.pair (.int .i64) (.int .i64))))), (false, (.int .i64))]) := fun x => afun Try.prog (envOf [(32, ⟨[(true, (.pair (.int .i64) (.pair (.int .i64) (.int .i64))))], [(false, (.int .i64))], false, m32⟩), (46, ⟨[(true, (.pair (.int .i64) (.pair (.int .i64) (.int .i64))))], [(false, (.int .i64))], false, m46⟩)] [(43, sortHD 44 24 (.pair (.int .i64) (.pair (.int .i64) (.int .i64))) m43_44), (17, OS.hd ⟨[(false, (.sl (.pair (.int .i64) (.pair (.int .i64) (.int .i64)))))], 24, (.pair (.int .i64) (.pair (.int .i64) (.int .i64))), false, m17⟩), (38, OS.hd ⟨[(false, (.sl (.pair (.int .i64) (.pair (.int .i64) (.int .i64)))))], 24, (.pair (.int .i64) (.pair (.int .i64) (.int .i64))), false, m38⟩)] [] []) ⟨[(0, ⟨[.slot 10 (.d false (.int .i64) true)], [], [(some 0, []), (none, [.slot 2 (.d false (.sl (.pair (.int .i64) (.pair (.int .i64) (.int .i64)))) true), .slot 3 (.d false (.int .i64) true)])], none⟩), (2, ⟨[.slot 7 (.d false (.int .i64) true)], [], [(some 2, []), (none, [.slot 2 (.d false (.sl (.pair (.int .i64) (.pair (.int .i64) (.int .i64)))) true), .slot 3 (.d false (.int .i64) true)])], none⟩)], []⟩ Try.f21 [(false, (.sl (.pair (.int .i64) (.pair (.int .i64) (.int .i64)))))] [(false, (.sl (.pair (.int .i64) (.pair (.int .i64) (.int .i64))))), (false, (.int .i64))] false x
theorem r21_eq : r21 = m21 := by kernel_rfl

theorem c21 : CS.Sound Try.prog 21 ⟨[(false, (.sl (.pair (.int .i64) (.pair (.int .i64) (.int .i64)))))], [(false, (.sl (.pair (.int .i64) (.pair (.int .i64) (.int .i64))))), (false, (.int .i64))], false, m21⟩ := afun_sound' (envOf_sound (CSs.cons c32 (CSs.cons c46 (CSs.nil))) (HDs.cons c43_44 (HDs.cons (OS.Sound.hd c17) (HDs.cons (OS.Sound.hd c38) (HDs.nil)))) (IDs.nil)) rfl Try.follows (f := 21) (fn := Try.f21) Try.func21 (by kernel_rfl) (by kernel_rfl) r21_eq
end Go.Proofs.Ytlkgkmalfdlbfaa
end

section
/- What function 22 (slipway/slipwayref13.Norm) computes, by the kernel. -/
open Go Go.Proofs.AM
namespace Go.Proofs.Ytlkgkmalfdlbfaa

noncomputable def m22 (x : (List (Int × (Int × Int))) × Unit) : Option ((List (Int × (Int × Int))) × (Int × Unit)) :=
  Option.bind (loopM (X := Int) (E := (Unit ⊕ ((List (Int × (Int × Int))) × Int))) (fun (x1 : Int) =>
      bif (decide (x1 < (((List.length x.1) : Nat) : Int))) then
        (gd ((0 : Int) ≤ x1) (gd (x1 < (((List.length x.1) : Nat) : Int)) (Option.bind (m12 ((List.getD x.1 (Int.toNat x1) ((0 : Int), ((0 : Int), (0 : Int)))), ())) fun (y2 : (Int × Unit)) =>
            bif (!(decide (y2.1 = (0 : Int)))) then
              (some (Sum.inr (Sum.inr (([] : List (Int × (Int × Int))), (130 : Int)))))
            else
              (Option.bind (loopM (X := Int) (E := (Unit ⊕ ((List (Int × (Int × Int))) × Int))) (fun (x3 : Int) =>
                  bif (decide (x3 < x1)) then
                    (gd ((0 : Int) ≤ x1) (gd (x1 < (((List.length x.1) : Nat) : Int)) (gd ((0 : Int) ≤ x3) (gd (x3 < (((List.length x.1) : Nat) : Int)) (gd ((0 : Int) ≤ x3) (gd (x3 < (((List.length x.1) : Nat) : Int)) (bif (decide ((List.getD x.1 (Int.toNat x1) ((0 : Int), ((0 : Int), (0 : Int)))).1 < (Go.IntKind.wrap .i64 ((List.getD x.1 (Int.toNat x3) ((0 : Int), ((0 : Int), (0 : Int)))).1 + (List.getD x.1 (Int.toNat x3) ((0 : Int), ((0 : Int), (0 : Int)))).2.1)))) then
                                  (gd ((0 : Int) ≤ x3) (gd (x3 < (((List.length x.1) : Nat) : Int)) (gd ((0 : Int) ≤ x1) (gd (x1 < (((List.length x.1) : Nat) : Int)) (gd ((0 : Int) ≤ x1) (gd (x1 < (((List.length x.1) : Nat) : Int)) (bif (decide ((List.getD x.1 (Int.toNat x3) ((0 : Int), ((0 : Int), (0 : Int)))).1 < (Go.IntKind.wrap .i64 ((List.getD x.1 (Int.toNat x1) ((0 : Int), ((0 : Int), (0 : Int)))).1 + (List.getD x.1 (Int.toNat x1) ((0 : Int), ((0 : Int), (0 : Int)))).2.1)))) then
                                                (some (Sum.inr (Sum.inr (([] : List (Int × (Int × Int))), (130 : Int)))))
                                              else
                                                (some (Sum.inl (Go.IntKind.wrap .i64 (x3 + (1 : Int))))))))))))
                                else
                                  (some (Sum.inl (Go.IntKind.wrap .i64 (x3 + (1 : Int))))))))))))
                  else
                    (some (Sum.inr (Sum.inl ())))) (0 : Int)) fun (y3 : (Unit ⊕ ((List (Int × (Int × Int))) × Int))) =>
              Sum.elim (fun y4 =>
                some (Sum.inl (Go.IntKind.wrap .i64 (x1 + (1 : Int))))) (fun y4 =>
                some (Sum.inr (Sum.inr (y4.1, y4.2)))) y3))))
      else
        (some (Sum.inr (Sum.inl ())))) (0 : Int)) fun (y1 : (Unit ⊕ ((List (Int × (Int × Int))) × Int))) =>
  Sum.elim (fun y2 =>
    Option.bind (m42 (x.1, ())) fun (y3 : (List (Int × (Int × Int)))) =>
    some (y3, ((0 : Int), ()))) (fun y2 =>
    some (y2.1, (y2.2, ()))) y1

noncomputable def r22 : PDen [(false, (.sl (.pair (.int .i64) (.pair (.int .i64) (.int .i64)))))] → Option (PDen [(false, (.sl (.pair (.int .i64) (.pair (.int .i64) (.int .i64))))), (false, (.int .i64))]) := fun x => afun Try.prog (envOf [(12, ⟨[(true, (.pair (.int .i64) (.pair (.int .i64) (.int .i64))))], [(false, (.int .i64))], false, m12⟩)] [(42, OS.hd ⟨[(false, (.sl (.pair (.int .i64) (.pair (.int .i64) (.int .i64)))))], 24, (.pair (.int .i64) (.pair (.int .i64) (.int .i64))), false, m42⟩)] [] []) ⟨[(0, ⟨[.slot 4 (.d false (.int .i64) true)], [], [(some 0, []), (none, [.slot 2 (.d false (.sl (.pair (.int .i64) (.pair (.int .i64) (.int .i64)))) true), .slot 3 (.d false (.int .i64) true)])], none⟩), (2, ⟨[.slot 5 (.d false (.int .i64) true)], [], [(some 2, []), (none, [.slot 2 (.d false (.sl (.pair (.int .i64) (.pair (.int .i64) (.int .i64)))) true), .slot 3 (.d false (.int .i64) true)])], none⟩)], []⟩ Try.f22 [(false, (.sl (.pair (.int .i64) (.pair (.int .i64) (.int .i64)))))] [(false, (.sl (.pair (.int .i64) (.pair (.int .i64) (.int .i64))))), (false, (.int .i64))] false x
theorem r22_eq : r22 = m22 := by kernel_rfl

theorem c22 : CS.Sound Try.prog 22 ⟨[(false, (.sl (.pair (.int .i64) (.pair (.int .i64) (.int .i64)))))], [(false, (.sl (.pair (.int .i64) (.pair (.int .i64) (.int .i64))))), (false, (.int .i64))], false, m22⟩ := afun_sound' (envOf_sound (CSs.cons c12 (CSs.nil)) (HDs.cons (OS.Sound.hd c42) (HDs.nil)) (IDs.nil)) rfl Try.follows (f := 22) (fn := Try.f22) Try.func22 (by kernel_rfl) (by kernel_rfl) r22_eq
end Go.Proofs.Ytlkgkmalfdlbfaa
end

section
/- Lists of extents, with no program in sight: what the functions of both texts come to. -/
namespace Go.Proofs.Ytlkgkmalfdlbfaa
open Go Go.Proofs.AM

abbrev Ex := Int × (Int × Int)

/-! ### an extent that may be -/
def one (e : Ex) : Bool := decide (0 ≤ e.1 ∧ e.1 < 65536 ∧ 1 ≤ e.2.1 ∧ e.2.1 ≤ 4096 ∧ 1 ≤ e.2.2 ∧ e.2.2 < 8192 ∧ e.1 + e.2.1 ≤ 65536 ∧ e.2.2 + e.2.1 ≤ 8192)

theorem one_iff (e : Ex) : one e = true ↔ (0 ≤ e.1 ∧ e.1 < 65536 ∧ 1 ≤ e.2.1 ∧ e.2.1 ≤ 4096 ∧ 1 ≤ e.2.2 ∧ e.2.2 < 8192 ∧ e.1 + e.2.1 ≤ 65536 ∧ e.2.2 + e.2.1 ≤ 8192) := by simp [one]

theorem m12_eq (e : Ex) : m12 (e, ()) = some (if one e = true then 0 else 130, ()) := by
  obtain ⟨a, b, c⟩ := e
  unfold m12
  simp only [Bool.cond_eq_ite, decide_eq_true_eq, one_iff]
  by_cases h : 0 ≤ a ∧ a < 65536 ∧ 1 ≤ b ∧ b ≤ 4096 ∧ 1 ≤ c ∧ c < 8192
  · rw [wrap64 (n := a + b) (by omega) (by omega), wrap64 (n := c + b) (by omega) (by omega)]
    repeat' split
    all_goals first | rfl | (exfalso; omega)
  · rw [if_neg (show ¬ (0 ≤ a ∧ a < 65536 ∧ 1 ≤ b ∧ b ≤ 4096 ∧ 1 ≤ c ∧ c < 8192 ∧ a + b ≤ 65536 ∧ c + b ≤ 8192) by omega)]
    repeat' split
    all_goals first | rfl | (exfalso; omega)

theorem m32_eq (e : Ex) : m32 (e, ()) = some (if one e = true then 0 else 130, ()) := m12_eq e

/-- Two that could be one. -/
def goes (a b : Ex) : Bool := decide (a.1 + a.2.1 = b.1 ∧ a.2.2 + a.2.1 = b.2.2 ∧ a.2.1 + b.2.1 ≤ 4096)

theorem goes_iff (a b : Ex) : goes a b = true ↔ (a.1 + a.2.1 = b.1 ∧ a.2.2 + a.2.1 = b.2.2 ∧ a.2.1 + b.2.1 ≤ 4096) := by simp [goes]

theorem m36_eq {a b : Ex} (ha : one a = true) (hb : one b = true) : m36 (a, (b, ())) = some (goes a b, ()) := by
  rw [one_iff] at ha hb
  unfold m36 goes
  simp only [Bool.cond_eq_ite, decide_eq_true_eq]
  rw [wrap64 (n := a.1 + a.2.1) (by omega) (by omega), wrap64 (n := a.2.2 + a.2.1) (by omega) (by omega), wrap64 (n := a.2.1 + b.2.1) (by omega) (by omega)]
  repeat' split
  all_goals (congr 2; rw [Bool.eq_iff_iff]; simp only [decide_eq_true_eq, Bool.false_eq_true, false_iff]; omega)

theorem m46_eq {a : Ex} (ha : one a = true) : m46 (a, ()) = some (a.1 + a.2.1, ()) := by
  rw [one_iff] at ha
  unfold m46
  dsimp only
  rw [wrap64 (by omega) (by omega)]

theorem m50_eq {a b : Ex} (ha : one a = true) (hb : one b = true) : m50 (a, (b, ())) = some (goes a b, ()) := by
  unfold m50
  rw [m46_eq ha]
  rw [one_iff] at ha hb
  unfold goes
  simp only [Bool.cond_eq_ite, decide_eq_true_eq, Option.bind_some]
  rw [wrap64 (n := a.2.2 + a.2.1) (by omega) (by omega), wrap64 (n := a.2.1 + b.2.1) (by omega) (by omega)]
  repeat' split
  all_goals (congr 2; rw [Bool.eq_iff_iff]; simp only [decide_eq_true_eq, Bool.false_eq_true, false_iff]; omega)

/-! ### a list that may be -/
def okAt (l : List Ex) (i : Nat) : Prop := one (l.getD i ((0 : Int), ((0 : Int), (0 : Int)))) = true ∧ (0 < i → (l.getD (i - 1) ((0 : Int), ((0 : Int), (0 : Int)))).1 + (l.getD (i - 1) ((0 : Int), ((0 : Int), (0 : Int)))).2.1 ≤ (l.getD i ((0 : Int), ((0 : Int), (0 : Int)))).1 ∧ goes (l.getD (i - 1) ((0 : Int), ((0 : Int), (0 : Int)))) (l.getD i ((0 : Int), ((0 : Int), (0 : Int)))) = false)
instance (l : List Ex) (i : Nat) : Decidable (okAt l i) := by unfold okAt; infer_instance
def chk (l : List Ex) : Prop := ∀ i, i < l.length → okAt l i
instance (l : List Ex) : Decidable (chk l) := by unfold chk; infer_instance

theorem okAt_one {l : List Ex} {i : Nat} (h : okAt l i) : one (l.getD i ((0 : Int), ((0 : Int), (0 : Int)))) = true := h.1

theorem m10_eq (l : List Ex) (hl : l.length ≤ 1000000) : m10 (l, ()) = some (if chk l then 0 else 130, ()) := by
  have h : Ok (m10 (l, ())) (fun r => r = (if chk l then 0 else 130, ())) := by
    unfold m10
    dsimp only
    refine Ok.bind (S := fun r : Unit ⊕ Int => r = if chk l then .inl () else .inr 130) (Ok.loop l.length (fun i x => x = i ∧ ∀ j, j < i → okAt l j) ⟨rfl, fun j hj => by omega⟩ ?_) ?_
    · rintro i x hi ⟨rfl, hq⟩
      refine Ok.cond (fun hc => ?_) (fun hc => ?_)
      · have hil : i < l.length := by omega
        refine Ok.gd (by omega) (Ok.gd (by omega) ?_)
        rw [m12_eq]
        simp only [Option.bind_some, Int.toNat_natCast]
        have bad : ¬ okAt l i → Ok (some (Sum.inr (Sum.inr 130))) (fun s : Int ⊕ (Unit ⊕ Int) => s.elim (fun y => i < l.length ∧ (y = ((i + 1 : Nat) : Int) ∧ ∀ j, j < i + 1 → okAt l j)) (fun r => r = if chk l then .inl () else .inr 130)) := fun hb =>
          Ok.inr (by rw [if_neg (fun hc => hb (hc i hil))])
        have good : okAt l i → Ok (some (Sum.inl (IntKind.wrap .i64 ((i : Int) + 1)))) (fun s : Int ⊕ (Unit ⊕ Int) => s.elim (fun y => i < l.length ∧ (y = ((i + 1 : Nat) : Int) ∧ ∀ j, j < i + 1 → okAt l j)) (fun r => r = if chk l then .inl () else .inr 130)) := fun hg =>
          Ok.inl ⟨hil, by rw [wrap64 (by omega) (by omega)]; rfl, fun j hj => by
            by_cases e : j = i
            · subst e; exact hg
            · exact hq j (by omega)⟩
        refine Ok.ncond (fun h1 => ?_) (fun h1 => ?_)
        · exact bad fun h => h1 (by rw [if_pos h.1])
        · have h1 : one (l.getD i ((0 : Int), ((0 : Int), (0 : Int)))) = true := by
            by_cases h : one (l.getD i ((0 : Int), ((0 : Int), (0 : Int)))) = true
            · exact h
            · rw [if_neg h] at h1; simp at h1
          refine Ok.cond (fun h2 => ?_) (fun h2 => ?_)
          · have e1 : IntKind.wrap .i64 ((i : Int) - 1) = ((i - 1 : Nat) : Int) := by rw [wrap64 (by omega) (by omega)]; omega
            rw [e1]
            have hp := (hq (i - 1) (by omega)).1
            have hp' := hp
            rw [one_iff] at hp'
            refine Ok.gd (by omega) (Ok.gd (by omega) (Ok.gd (by omega) (Ok.gd (by omega) (Ok.gd (by omega) (Ok.gd (by omega) ?_)))))
            simp only [Int.toNat_natCast]
            simp only [wrap64 (n := (l.getD (i - 1) ((0 : Int), ((0 : Int), (0 : Int)))).1 + (l.getD (i - 1) ((0 : Int), ((0 : Int), (0 : Int)))).2.1) (by omega) (by omega)]
            refine Ok.cond (fun h3 => ?_) (fun h3 => ?_)
            · exact bad fun h => by have := (h.2 (by omega)).1; omega
            · refine Ok.gd (by omega) (Ok.gd (by omega) (Ok.gd (by omega) (Ok.gd (by omega) ?_)))
              rw [m36_eq hp h1]
              refine Ok.condb (fun h4 => ?_) (fun h4 => ?_)
              · exact bad fun h => by rw [(h.2 (by omega)).2] at h4; simp at h4
              · exact good ⟨h1, fun _ => ⟨by omega, h4⟩⟩
          · exact good ⟨h1, fun h => by omega⟩
      · have hil : i = l.length := by omega
        exact Ok.inr (by rw [if_pos (show chk l from fun j hj => hq j (by omega))])
    · rintro r rfl
      by_cases h : chk l
      · simp only [if_pos h, Sum.elim_inl]; exact Ok.some rfl
      · simp only [if_neg h, Sum.elim_inr]; exact Ok.some rfl
  obtain ⟨r, e, rfl⟩ := h
  exact e

theorem m29_eq (l : List Ex) (hl : l.length ≤ 1000000) : m29 (l, ()) = some (if chk l then 0 else 130, ()) := by
  have h : Ok (m29 (l, ())) (fun r => r = (if chk l then 0 else 130, ())) := by
    unfold m29
    dsimp only
    refine Ok.bind (S := fun r : Unit ⊕ Int => r = if chk l then .inl () else .inr 130) (Ok.loop l.length (fun i x => x = i ∧ ∀ j, j < i → okAt l j) ⟨rfl, fun j hj => by omega⟩ ?_) ?_
    · rintro i x hi ⟨rfl, hq⟩
      refine Ok.cond (fun hc => ?_) (fun hc => ?_)
      · have hil : i < l.length := by omega
        refine Ok.gd (by omega) (Ok.gd (by omega) ?_)
        rw [m32_eq]
        simp only [Option.bind_some, Int.toNat_natCast]
        have bad : ¬ okAt l i → Ok (some (Sum.inr (Sum.inr 130))) (fun s : Int ⊕ (Unit ⊕ Int) => s.elim (fun y => i < l.length ∧ (y = ((i + 1 : Nat) : Int) ∧ ∀ j, j < i + 1 → okAt l j)) (fun r => r = if chk l then .inl () else .inr 130)) := fun hb =>
          Ok.inr (by rw [if_neg (fun hc => hb (hc i hil))])
        have good : okAt l i → Ok (some (Sum.inl (IntKind.wrap .i64 ((i : Int) + 1)))) (fun s : Int ⊕ (Unit ⊕ Int) => s.elim (fun y => i < l.length ∧ (y = ((i + 1 : Nat) : Int) ∧ ∀ j, j < i + 1 → okAt l j)) (fun r => r = if chk l then .inl () else .inr 130)) := fun hg =>
          Ok.inl ⟨hil, by rw [wrap64 (by omega) (by omega)]; rfl, fun j hj => by
            by_cases e : j = i
            · subst e; exact hg
            · exact hq j (by omega)⟩
        refine Ok.ncond (fun h1 => ?_) (fun h1 => ?_)
        · exact bad fun h => h1 (by rw [if_pos h.1])
        · have h1 : one (l.getD i ((0 : Int), ((0 : Int), (0 : Int)))) = true := by
            by_cases h : one (l.getD i ((0 : Int), ((0 : Int), (0 : Int)))) = true
            · exact h
            · rw [if_neg h] at h1; simp at h1
          refine Ok.cond (fun h2 => ?_) (fun h2 => ?_)
          · have e1 : IntKind.wrap .i64 ((i : Int) - 1) = ((i - 1 : Nat) : Int) := by rw [wrap64 (by omega) (by omega)]; omega
            rw [e1]
            have hp := (hq (i - 1) (by omega)).1
            refine Ok.gd (by omega) (Ok.gd (by omega) ?_)
            simp only [Int.toNat_natCast]
            rw [m46_eq hp]
            refine Ok.cond (fun h3 => ?_) (fun h3 => ?_)
            · exact bad fun h => by have := (h.2 (by omega)).1; omega
            · refine Ok.gd (by omega) (Ok.gd (by omega) ?_)
              rw [m50_eq hp h1]
              refine Ok.condb (fun h4 => ?_) (fun h4 => ?_)
              · exact bad fun h => by rw [(h.2 (by omega)).2] at h4; simp at h4
              · exact good ⟨h1, fun _ => ⟨by omega, h4⟩⟩
          · exact good ⟨h1, fun h => by omega⟩
      · have hil : i = l.length := by omega
        exact Ok.inr (by rw [if_pos (show chk l from fun j hj => hq j (by omega))])
    · rintro r rfl
      by_cases h : chk l
      · simp only [if_pos h, Sum.elim_inl]; exact Ok.some rfl
      · simp only [if_neg h, Sum.elim_inr]; exact Ok.some rfl
  obtain ⟨r, e, rfl⟩ := h
  exact e
end Go.Proofs.Ytlkgkmalfdlbfaa
end

section
/- Lists of extents: parts of them, one form, with no program in sight. -/
namespace Go.Proofs.Ytlkgkmalfdlbfaa
open Go Go.Proofs.AM

theorem take_snoc {A : Type} (l : List A) (i : Nat) (h : i < l.length) (z : A) : l.take (i + 1) = l.take i ++ [l.getD i z] := by
  rw [List.take_add_one, List.getD_eq_getElem?_getD, List.getElem?_eq_getElem h]; rfl

theorem getD_mem {A : Type} {l : List A} {i : Nat} (h : i < l.length) (z : A) : l.getD i z ∈ l := by
  rw [List.getD_eq_getElem?_getD, List.getElem?_eq_getElem h]; simp

/-! ### parts -/
def lo (e : Ex) (f : Int) : Int := if e.1 > f then e.1 else f
def hi (e : Ex) (t : Int) : Int := if e.1 + e.2.1 < t then e.1 + e.2.1 else t
def part (f t : Int) (e : Ex) : Option Ex := if lo e f < hi e t then some (lo e f, (hi e t - lo e f, e.2.2 + lo e f - e.1)) else none
def partT (f t : Int) (e : Ex) : Ex × (Bool × Unit) := match part f t e with
  | some x => (x, (true, ()))
  | none => (((0 : Int), ((0 : Int), (0 : Int))), (false, ()))

theorem part_some {f t : Int} {e x : Ex} (h : part f t e = some x) : lo e f < hi e t ∧ x = (lo e f, (hi e t - lo e f, e.2.2 + lo e f - e.1)) := by
  unfold part at h
  split at h
  · rename_i h1
    exact ⟨h1, (Option.some.inj h).symm⟩
  · simp at h

theorem lo_ge (e : Ex) (f : Int) : e.1 ≤ lo e f ∧ f ≤ lo e f := by unfold lo; split <;> omega
theorem lo_eq (e : Ex) (f : Int) : lo e f = e.1 ∨ lo e f = f := by unfold lo; split <;> simp
theorem hi_le (e : Ex) (t : Int) : hi e t ≤ e.1 + e.2.1 ∧ hi e t ≤ t := by unfold hi; split <;> omega
theorem hi_eq (e : Ex) (t : Int) : hi e t = e.1 + e.2.1 ∨ hi e t = t := by unfold hi; split <;> simp

theorem part_one {f t : Int} {e x : Ex} (h : part f t e = some x) (ho : one e = true) : one x = true := by
  obtain ⟨h1, rfl⟩ := part_some h
  rw [one_iff] at ho ⊢
  have := lo_ge e f; have := hi_le e t
  simp only
  omega

theorem m53_eq {e : Ex} (h : one e = true) (f t : Int) : m53 (e, (f, (t, ()))) = some (partT f t e) := by
  unfold m53
  dsimp only
  rw [m46_eq h]
  simp only [Option.bind_some]
  have h1 : (if e.1 > f then e.1 else f) = lo e f := rfl
  have h2 : (if e.1 + e.2.1 < t then e.1 + e.2.1 else t) = hi e t := rfl
  rw [h1, h2]
  rw [one_iff] at h
  have l1 := lo_ge e f; have l2 := hi_le e t
  simp only [Bool.cond_eq_ite, decide_eq_true_eq]
  unfold partT part
  by_cases hc : lo e f < hi e t
  · rw [if_neg (by omega), if_pos hc]
    rw [wrap64 (n := hi e t - lo e f) (by omega) (by omega), wrap64 (n := e.2.2 + lo e f) (by omega) (by omega), wrap64 (n := e.2.2 + lo e f - e.1) (by omega) (by omega)]
  · rw [if_pos (by omega), if_neg hc]

theorem m41_eq {e : Ex} (h : one e = true) (f t : Int) : m41 (e, (f, (t, ()))) = some (partT f t e) := by
  rw [← m53_eq h]
  unfold m41 m53
  dsimp only
  rw [m46_eq h]
  rw [one_iff] at h
  simp only [Option.bind_some, wrap64 (n := e.1 + e.2.1) (by omega) (by omega)]

theorem partT_eq (f t : Int) (e : Ex) : (∃ x, part f t e = some x ∧ partT f t e = (x, (true, ()))) ∨ (part f t e = none ∧ partT f t e = (((0 : Int), ((0 : Int), (0 : Int))), (false, ()))) := by
  unfold partT
  cases h : part f t e with
  | some x => exact .inl ⟨x, rfl, rfl⟩
  | none => exact .inr ⟨rfl, rfl⟩

theorem fm_len {A B : Type} (g : A → Option B) (l : List A) : (l.filterMap g).length ≤ l.length := List.length_filterMap_le ..

theorem m40_eq (l : List Ex) (f t : Int) (h : ∀ e ∈ l, one e = true) (hl : l.length ≤ 1000000) : m40 (l, (f, (t, ()))) = some (l.filterMap (part f t), ()) := by
  unfold m40
  dsimp only
  rw [loop_idx' l.length (fun i => ((l.take i).filterMap (part f t), (i : Int))) ?_ ?_ (e := l.filterMap (part f t)) ?_]
  · rfl
  · rfl
  · intro i hi
    have hlen := fm_len (part f t) (l.take i)
    rw [List.length_take] at hlen
    simp only [Bool.cond_eq_ite, decide_eq_true_eq]
    rw [if_pos (by omega), gd_pos (by omega), gd_pos (by omega)]
    simp only [Int.toNat_natCast]
    rw [m53_eq (h _ (getD_mem hi _)), wrap64 (n := (i : Int) + 1) (by omega) (by omega), take_snoc l i hi ((0 : Int), ((0 : Int), (0 : Int))), List.filterMap_append]
    have hpt := partT_eq f t (l.getD i ((0 : Int), ((0 : Int), (0 : Int))))
    generalize l.getD i ((0 : Int), ((0 : Int), (0 : Int))) = e at hpt ⊢
    rcases hpt with ⟨x, h1, h2⟩ | ⟨h1, h2⟩
    · rw [h2]
      simp only [Option.bind_some, if_true]
      rw [gd_pos (by simp; omega), gd_pos (by simp; omega)]
      simp [h1]
    · rw [h2]
      simp [h1]
  · simp only [List.take_length, Bool.cond_eq_ite, decide_eq_true_eq]
    rw [if_neg (by omega)]

theorem m39_eq (a b : List Ex) (ha : a.length ≤ 1000000) (hb : b.length ≤ 1000000) : m39 ([a, b], ()) = some (a ++ b, ()) := by
  unfold m39
  dsimp only
  rw [loop_idx' 2 (fun i => ((((((([a, b] : List (List Ex)).take i).map List.length).sum : Nat) : Int)), (i : Int))) ?_ ?_ (e := ((a.length + b.length : Nat) : Int)) ?_]
  · simp only [Option.bind_some]
    rw [gd_pos (by omega), gd_pos (by omega), gd_pos (by omega)]
    simp only [Option.bind_some]
    rw [loop_idx' 2 (fun i => ((([a, b] : List (List Ex)).take i).flatten, (i : Int))) ?_ ?_ (e := a ++ b) ?_]
    · rfl
    · rfl
    · intro i hi
      simp only [Bool.cond_eq_ite, decide_eq_true_eq, List.length_cons, List.length_nil]
      rw [if_pos (by omega), gd_pos (by omega), gd_pos (by omega)]
      obtain rfl | rfl : i = 0 ∨ i = 1 := by omega
      · simp only [Int.toNat_natCast, List.getD_cons_zero, List.take_zero, List.flatten_nil, List.length_nil, Nat.zero_add, List.take_succ_cons, List.flatten_cons, List.append_nil, List.nil_append]
        rw [gd_pos (by omega), gd_pos (by omega), wrap64 (by omega) (by omega)]
        rfl
      · simp only [Int.toNat_natCast, List.getD_cons_succ, List.getD_cons_zero, List.take_zero, List.flatten_nil, List.take_succ_cons, List.flatten_cons, List.append_nil]
        rw [gd_pos (by omega), gd_pos (by omega), wrap64 (by omega) (by omega)]
        rfl
    · simp [Bool.cond_eq_ite]
  · rfl
  · intro i hi
    simp only [Bool.cond_eq_ite, decide_eq_true_eq, List.length_cons, List.length_nil]
    rw [if_pos (by omega), gd_pos (by omega), gd_pos (by omega)]
    obtain rfl | rfl : i = 0 ∨ i = 1 := by omega
    · simp only [Int.toNat_natCast, List.getD_cons_zero, List.take_zero, List.map_nil, List.sum_nil, List.take_succ_cons, List.map_cons, List.sum_cons, Nat.add_zero]
      rw [wrap64 (n := ((0 : Nat) : Int) + ((a.length : Nat) : Int)) (by omega) (by omega), if_neg (by omega), wrap64 (by omega) (by omega)]
      congr 3; omega
    · simp only [Int.toNat_natCast, List.getD_cons_succ, List.getD_cons_zero, List.take_zero, List.map_nil, List.sum_nil, List.take_succ_cons, List.map_cons, List.sum_cons, Nat.add_zero]
      rw [wrap64 (n := ((a.length : Nat) : Int) + ((b.length : Nat) : Int)) (by omega) (by omega), if_neg (by omega), wrap64 (by omega) (by omega)]
      congr 3
  · simp [Bool.cond_eq_ite]

theorem m17_eq (l : List Ex) (h : l.length ≤ 1000000) : m17 (l, ()) = some l := by
  unfold m17
  simp only [Bool.cond_eq_ite, decide_eq_true_eq]
  rw [gd_pos (by simp; omega), gd_pos (by simp; omega)]
  by_cases h0 : ((l.length : Nat) : Int) = 0
  · rw [if_pos h0]
    obtain rfl : l = [] := List.length_eq_zero_iff.1 (by omega)
    simp [both]
  · rw [if_neg h0]
    simp [both]
end Go.Proofs.Ytlkgkmalfdlbfaa
end

section
/- Lists of extents in one form, with no program in sight. -/
namespace Go.Proofs.Ytlkgkmalfdlbfaa
open Go Go.Proofs.AM

def join (a e : Ex) : Ex := (a.1, (a.2.1 + e.2.1, a.2.2))
def mstep (out : List Ex) (e : Ex) : List Ex :=
  if 0 < out.length ∧ goes (out.getD (out.length - 1) ((0 : Int), ((0 : Int), (0 : Int)))) e = true then out.set (out.length - 1) (join (out.getD (out.length - 1) ((0 : Int), ((0 : Int), (0 : Int)))) e) else out ++ [e]
def mg : Ex → List Ex → List Ex
  | a, [] => [a]
  | a, e :: l => if goes a e = true then mg (join a e) l else a :: mg e l
def merge : List Ex → List Ex
  | [] => []
  | e :: l => mg e l

theorem mstep_snoc (p : List Ex) (a e : Ex) : mstep (p ++ [a]) e = if goes a e = true then p ++ [join a e] else p ++ [a] ++ [e] := by
  have h1 : (p ++ [a]).getD ((p ++ [a]).length - 1) ((0 : Int), ((0 : Int), (0 : Int))) = a := by simp
  have h2 : (p ++ [a]).set ((p ++ [a]).length - 1) (join a e) = p ++ [join a e] := by simp
  unfold mstep
  rw [h1]
  by_cases h : goes a e = true
  · rw [if_pos ⟨by simp, h⟩, if_pos h, h2]
  · rw [if_neg (fun x => h x.2), if_neg h]

theorem foldl_mstep : ∀ (l p : List Ex) (a : Ex), l.foldl mstep (p ++ [a]) = p ++ mg a l
  | [], p, a => rfl
  | e :: l, p, a => by
    rw [List.foldl_cons, mstep_snoc]
    unfold mg
    by_cases h : goes a e = true
    · rw [if_pos h, if_pos h]; exact foldl_mstep l p (join a e)
    · rw [if_neg h, if_neg h, foldl_mstep l (p ++ [a]) e]; simp

theorem merge_eq : ∀ l : List Ex, l.foldl mstep [] = merge l
  | [] => rfl
  | e :: l => by
    have : mstep [] e = [] ++ [e] := by simp [mstep]
    rw [List.foldl_cons, this, foldl_mstep]; rfl

theorem join_one {a e : Ex} (ha : one a = true) (he : one e = true) (h : goes a e = true) : one (join a e) = true := by
  rw [one_iff] at *
  rw [goes_iff] at h
  simp only [join]
  omega

theorem mstep_one {out : List Ex} {e : Ex} (ho : ∀ x ∈ out, one x = true) (he : one e = true) : ∀ x ∈ mstep out e, one x = true := by
  unfold mstep
  split
  · rename_i h
    intro x hx
    rcases List.mem_or_eq_of_mem_set hx with hx | rfl
    · exact ho x hx
    · exact join_one (ho _ (getD_mem (by omega) _)) he h.2
  · intro x hx
    rcases List.mem_append.1 hx with hx | hx
    · exact ho x hx
    · simp at hx; subst hx; exact he

theorem mstep_len (out : List Ex) (e : Ex) : (mstep out e).length ≤ out.length + 1 := by
  unfold mstep; split <;> simp

theorem foldl_one : ∀ (l : List Ex), (∀ x ∈ l, one x = true) → ∀ out : List Ex, (∀ x ∈ out, one x = true) → ∀ x ∈ l.foldl mstep out, one x = true
  | [], _, _, ho => ho
  | e :: l, h, out, ho => foldl_one l (fun x hx => h x (by simp [hx])) _ (mstep_one ho (h e (by simp)))

theorem foldl_len : ∀ (l out : List Ex), (l.foldl mstep out).length ≤ out.length + l.length
  | [], _ => by simp
  | e :: l, out => by
    have := foldl_len l (mstep out e)
    have := mstep_len out e
    simp only [List.foldl_cons, List.length_cons]; omega

def Srt (l : List Ex) : Prop := l.Pairwise (fun a b => a.1 ≤ b.1)

theorem sortS_srt (l : List Ex) : (sortS (k := kX) cfX l).Perm l ∧ Srt (sortS (k := kX) cfX l) := by
  have h := sortS_perm (k := kX) swoX l
  refine ⟨h.2.1, ?_⟩
  unfold Srt
  rw [List.pairwise_iff_getElem]
  intro i j hi hj hij
  have := h.2.2 i j hij (by rw [← h.1]; exact hj)
  rw [ltX] at this
  have e : ∀ (L : List kX.den) (z : kX.den) (q : Nat) (h : q < L.length), L.getD q z = L[q] := fun L z q h => by simp [List.getD_eq_getElem?_getD, List.getElem?_eq_getElem h]
  rw [e _ _ _ hj, e _ _ _ hi] at this
  have h3 : ¬ (((sortS (k := kX) cfX l)[j]).1 : Int) < ((sortS (k := kX) cfX l)[i]).1 := by simpa using this
  exact Int.not_lt.1 h3

theorem m43_51_eq (l : List Ex) (hl : l.length ≤ 1000000) : m43_51 (l, ()) = some (sortS (k := kX) cfX l) := by
  unfold m43_51
  exact gd_pos (by simp only; omega)
theorem m43_44_eq (l : List Ex) (hl : l.length ≤ 1000000) : m43_44 (l, ()) = some (sortS (k := kX) cfX l) := by
  unfold m43_44
  exact gd_pos (by simp only; omega)

theorem snoc_eq {A : Type} {l : List A} {i : Nat} (h : i < l.length) (z : A) : l.take (i + 1) = l.take i ++ [l.getD i z] := take_snoc l i h z

theorem foldl_take {s : List Ex} {i : Nat} (hi : i < s.length) : (s.take (i + 1)).foldl mstep [] = mstep ((s.take i).foldl mstep []) (s.getD i ((0 : Int), ((0 : Int), (0 : Int)))) := by
  rw [take_snoc s i hi ((0 : Int), ((0 : Int), (0 : Int))), List.foldl_append]; rfl

theorem m38_eq (l : List Ex) (h : ∀ e ∈ l, one e = true) (hl : l.length ≤ 1000000) : m38 (l, ()) = some (merge (sortS (k := kX) cfX l)) := by
  unfold m38
  dsimp only
  rw [m17_eq l hl]
  simp only [Option.bind_some]
  rw [m43_51_eq l hl]
  simp only [Option.bind_some]
  obtain ⟨hp, hs⟩ := sortS_srt l
  generalize sortS (k := kX) cfX l = s at hp hs ⊢
  have hsl : s.length = l.length := hp.length_eq
  have hone : ∀ e ∈ s, one e = true := fun e he => h e (hp.mem_iff.1 he)
  rw [loop_idx' s.length (fun i => ((s.take i).foldl mstep [], (i : Int))) ?_ ?_ (e := merge s) ?_]
  · rfl
  · rfl
  · intro i hi
    rw [foldl_take hi]
    have hlen := foldl_len (s.take i) []
    have h1 := foldl_one (s.take i) (fun x hx => hone x (List.mem_of_mem_take hx)) [] (by simp)
    have he := hone _ (getD_mem hi ((0 : Int), ((0 : Int), (0 : Int))))
    simp only [List.length_take, List.length_nil] at hlen
    generalize (s.take i).foldl mstep [] = out at hlen h1 ⊢
    simp only [Bool.cond_eq_ite, decide_eq_true_eq]
    rw [if_pos (by omega), gd_pos (by omega), gd_pos (by omega)]
    simp only [Int.toNat_natCast]
    generalize s.getD i ((0 : Int), ((0 : Int), (0 : Int))) = e at he ⊢
    rw [gd_pos (by omega), wrap64 (n := (i : Int) + 1) (by omega) (by omega)]
    by_cases hc : 0 < out.length
    · rw [if_pos (by omega)]
      have ew : IntKind.wrap .i64 (((out.length : Nat) : Int) - 1) = ((out.length - 1 : Nat) : Int) := by rw [wrap64 (by omega) (by omega)]; omega
      rw [ew]
      simp only [Int.toNat_natCast]
      have hl1 := h1 _ (getD_mem (l := out) (i := out.length - 1) (by omega) ((0 : Int), ((0 : Int), (0 : Int))))
      rw [gd_pos (by omega), gd_pos (by omega), gd_pos (by omega), m50_eq hl1 he]
      simp only [Option.bind_some]
      by_cases hg : goes (out.getD (out.length - 1) ((0 : Int), ((0 : Int), (0 : Int)))) e = true
      · rw [if_pos hg, gd_pos (by omega), gd_pos (by omega), gd_pos (by omega), gd_pos (by omega), gd_pos (by omega), gd_pos (by omega)]
        unfold mstep
        rw [if_pos ⟨hc, hg⟩]
        have := join_one hl1 he hg
        rw [one_iff] at this
        simp only [join] at this
        rw [wrap64 (n := (out.getD (out.length - 1) ((0 : Int), ((0 : Int), (0 : Int)))).2.1 + e.2.1) (by omega) (by omega)]
        rfl
      · rw [if_neg hg, gd_pos (by simp; omega), gd_pos (by simp; omega)]
        unfold mstep
        rw [if_neg (fun x => hg x.2)]
        rfl
    · rw [if_neg (by omega), gd_pos (by simp; omega), gd_pos (by simp; omega)]
      unfold mstep
      rw [if_neg (fun x => hc x.1)]
      rfl
  · simp only [List.take_length, Bool.cond_eq_ite, decide_eq_true_eq]
    rw [if_neg (by omega), merge_eq]

/-- One element is brought to its place. -/
theorem ins_ok (s0 : List Ex) (e : Ex) (d : List Ex) (hs : Srt s0) (hl : s0.length ≤ 1000000) :
    Ok (loopM (X := (Int × ((List (Int × (Int × Int))) × (List (Int × (Int × Int)))))) (E := ((List (Int × (Int × Int))) × (List (Int × (Int × Int))))) (fun (x2 : (Int × ((List (Int × (Int × Int))) × (List (Int × (Int × Int)))))) =>
                    bif (decide (x2.1 > (0 : Int))) then
                      (gd ((0 : Int) ≤ x2.1) (gd (x2.1 < (((List.length x2.2.2) : Nat) : Int)) (gd ((Int.toNat x2.1) < (List.length x2.2.2)) (gd ((0 : Int) ≤ (Go.IntKind.wrap .i64 (x2.1 - (1 : Int)))) (gd ((Go.IntKind.wrap .i64 (x2.1 - (1 : Int))) < (((List.length x2.2.2) : Nat) : Int)) (gd ((Int.toNat (Go.IntKind.wrap .i64 (x2.1 - (1 : Int)))) < (List.length x2.2.2)) (bif (decide ((List.getD x2.2.2 (Int.toNat x2.1) ((0 : Int), ((0 : Int), (0 : Int)))).1 < (List.getD x2.2.2 (Int.toNat (Go.IntKind.wrap .i64 (x2.1 - (1 : Int)))) ((0 : Int), ((0 : Int), (0 : Int)))).1)) then
                                    (gd ((0 : Int) ≤ (Go.IntKind.wrap .i64 (x2.1 - (1 : Int)))) (gd ((Go.IntKind.wrap .i64 (x2.1 - (1 : Int))) < (((List.length x2.2.2) : Nat) : Int)) (gd ((Int.toNat (Go.IntKind.wrap .i64 (x2.1 - (1 : Int)))) < (List.length x2.2.2)) (gd ((0 : Int) ≤ x2.1) (gd (x2.1 < (((List.length x2.2.2) : Nat) : Int)) (gd ((Int.toNat x2.1) < (List.length x2.2.2)) (gd ((0 : Int) ≤ x2.1) (gd (x2.1 < (((List.length x2.2.2) : Nat) : Int)) (gd ((Int.toNat x2.1) < (List.length x2.2.2)) (gd ((0 : Int) ≤ (Go.IntKind.wrap .i64 (x2.1 - (1 : Int)))) (gd ((Go.IntKind.wrap .i64 (x2.1 - (1 : Int))) < (((List.length (List.set x2.2.2 (Int.toNat x2.1) (List.getD x2.2.2 (Int.toNat (Go.IntKind.wrap .i64 (x2.1 - (1 : Int)))) ((0 : Int), ((0 : Int), (0 : Int)))))) : Nat) : Int)) (gd ((Int.toNat (Go.IntKind.wrap .i64 (x2.1 - (1 : Int)))) < (List.length (List.set x2.2.2 (Int.toNat x2.1) (List.getD x2.2.2 (Int.toNat (Go.IntKind.wrap .i64 (x2.1 - (1 : Int)))) ((0 : Int), ((0 : Int), (0 : Int))))))) (some (Sum.inl ((Go.IntKind.wrap .i64 (x2.1 - (1 : Int))), (x2.2.1, (List.set (List.set x2.2.2 (Int.toNat x2.1) (List.getD x2.2.2 (Int.toNat (Go.IntKind.wrap .i64 (x2.1 - (1 : Int)))) ((0 : Int), ((0 : Int), (0 : Int))))) (Int.toNat (Go.IntKind.wrap .i64 (x2.1 - (1 : Int)))) (List.getD x2.2.2 (Int.toNat x2.1) ((0 : Int), ((0 : Int), (0 : Int)))))))))))))))))))))
                                  else
                                    (some (Sum.inr (x2.2.1, x2.2.2))))))))))
                    else
                      (some (Sum.inr (x2.2.1, x2.2.2)))) ((s0.length : Int), (d, s0 ++ [e]))) (fun r => r.2.Perm (s0 ++ [e]) ∧ Srt r.2) := by
  refine Ok.loop s0.length (fun i x => ∃ p q, s0 = p ++ q ∧ p.length + i = s0.length ∧ x = ((p.length : Int), (d, p ++ (e :: q))) ∧ ∀ y ∈ q, e.1 < y.1) ⟨s0, [], by simp, by omega, rfl, by simp⟩ ?_
  rintro i x hi ⟨p, q, rfl, hpi, rfl, hq⟩
  have done : (p = [] ∨ ∃ b p', p = p' ++ [b] ∧ b.1 ≤ e.1) → (p ++ e :: q).Perm (p ++ q ++ [e]) ∧ Srt (p ++ e :: q) := by
    intro hc
    refine ⟨by rw [List.append_assoc]; exact List.Perm.append_left p (List.perm_append_singleton e q).symm, ?_⟩
    unfold Srt at hs ⊢
    rw [List.pairwise_append] at hs ⊢
    obtain ⟨h1, h2, h3⟩ := hs
    refine ⟨h1, List.pairwise_cons.2 ⟨fun y hy => Int.le_of_lt (hq y hy), h2⟩, fun a ha b hb => ?_⟩
    rcases List.mem_cons.1 hb with rfl | hb
    · rcases hc with rfl | ⟨c, p', rfl, hc⟩
      · simp at ha
      · rcases List.mem_append.1 ha with ha' | ha'
        · have := (List.pairwise_append.1 h1).2.2 a ha' c (by simp)
          omega
        · simp at ha'; subst ha'; exact hc
    · exact h3 a ha b hb
  dsimp only
  have hl' : p.length + q.length ≤ 1000000 := by simpa using hl
  have hpi' : i = q.length := by rw [List.length_append] at hpi; omega
  refine Ok.cond (fun hc => ?_) (fun hc => ?_)
  · obtain ⟨p', b, rfl⟩ : ∃ p' b, p = p' ++ [b] := by
      refine ⟨p.dropLast, p.getLast (by intro e; subst e; simp at hc), (List.dropLast_concat_getLast _).symm⟩
    have hlen : (p' ++ [b] ++ e :: q).length = p'.length + q.length + 2 := by simp; omega
    have hl3 : p'.length + 1 + q.length ≤ 1000000 := by simpa using hl'
    have ew : IntKind.wrap .i64 ((((p' ++ [b]).length : Nat) : Int) - 1) = ((p'.length : Nat) : Int) := by
      rw [List.length_append, List.length_singleton, wrap64 (by omega) (by omega)]; omega
    rw [ew]
    have hl2 : (((p' ++ [b]).length : Nat) : Int) = ((p'.length + 1 : Nat) : Int) := by simp
    rw [hl2]
    simp only [Int.toNat_natCast]
    have g1 : (p' ++ [b] ++ e :: q).getD (p'.length + 1) ((0 : Int), ((0 : Int), (0 : Int))) = e := by simp [List.getD_eq_getElem?_getD, List.getElem?_append_right]
    have g2 : (p' ++ [b] ++ e :: q).getD p'.length ((0 : Int), ((0 : Int), (0 : Int))) = b := by simp [List.getD_eq_getElem?_getD, List.getElem?_append_right]
    have g3 : ((p' ++ [b] ++ e :: q).set (p'.length + 1) b).set p'.length e = p' ++ e :: (b :: q) := by
      simp [List.set_append]
    simp only [g1, g2, g3]
    refine Ok.gd (by omega) (Ok.gd (by omega) (Ok.gd (by omega) (Ok.gd (by omega) (Ok.gd (by omega) (Ok.gd (by omega) ?_)))))
    refine Ok.cond (fun h => ?_) (fun h => ?_)
    · refine Ok.gd (by omega) (Ok.gd (by omega) (Ok.gd (by omega) (Ok.gd (by omega) (Ok.gd (by omega) (Ok.gd (by omega) (Ok.gd (by omega) (Ok.gd (by omega) (Ok.gd (by omega) (Ok.gd (by omega) (Ok.gd (by rw [List.length_set]; omega) (Ok.gd (by rw [List.length_set]; omega) ?_)))))))))))
      refine Ok.inl ⟨?_, p', b :: q, by simp, ?_, rfl, fun y hy => ?_⟩
      · simp; omega
      · simp; omega
      · rcases List.mem_cons.1 hy with rfl | hy
        · exact h
        · exact hq y hy
    · exact Ok.inr (done (.inr ⟨b, p', rfl, by omega⟩))
  · have : p = [] := List.eq_nil_of_length_eq_zero (by omega)
    exact Ok.inr (done (.inl this))

theorem m42_ok (l : List Ex) (h : ∀ e ∈ l, one e = true) (hl : l.length ≤ 1000000) : Ok (m42 (l, ())) (fun r => ∃ s, s.Perm l ∧ Srt s ∧ r = merge s) := by
  unfold m42
  dsimp only
  refine Ok.bind (S := fun s => s.Perm l ∧ Srt s) (Ok.loop l.length (fun i x => x.2 = i ∧ x.1.Perm (l.take i) ∧ Srt x.1) ⟨rfl, by simp, by simp [Srt]⟩ ?_) ?_
  · rintro i ⟨s, k⟩ hi ⟨rfl, hp, hs⟩
    have hsl := hp.length_eq
    simp only [List.length_take] at hsl
    dsimp only
    refine Ok.cond (fun hc => ?_) (fun hc => ?_)
    · refine Ok.gd (by omega) (Ok.gd (by omega) ?_)
      simp only [Int.toNat_natCast]
      refine Ok.gd (by simp; omega) (Ok.gd (by simp; omega) ?_)
      have ew : IntKind.wrap .i64 (((s ++ [l.getD i ((0 : Int), ((0 : Int), (0 : Int)))]).length : Nat) - 1 : Int) = (s.length : Int) := by
        rw [List.length_append, List.length_singleton, wrap64 (by omega) (by omega)]; omega
      rw [ew]
      refine Ok.bind (ins_ok s (l.getD i ((0 : Int), ((0 : Int), (0 : Int)))) [l.getD i ((0 : Int), ((0 : Int), (0 : Int)))] hs (by omega)) ?_
      rintro ⟨d, r⟩ ⟨h1, h2⟩
      refine Ok.inl ⟨by omega, by rw [wrap64 (by omega) (by omega)]; rfl, ?_, h2⟩
      rw [take_snoc l i (by omega) ((0 : Int), ((0 : Int), (0 : Int)))]
      exact h1.trans (hp.append_right _)
    · have : i = l.length := by omega
      refine Ok.inr ⟨by rw [this, List.take_length] at hp; exact hp, hs⟩
  · rintro s ⟨hp, hs⟩
    have hsl : s.length = l.length := hp.length_eq
    have hone : ∀ e ∈ s, one e = true := fun e he => h e (hp.mem_iff.1 he)
    rw [loop_idx' s.length (fun i => ((s.take i).foldl mstep [], (i : Int))) ?_ ?_ (e := merge s) ?_]
    · exact Ok.some ⟨s, hp, hs, rfl⟩
    · rfl
    · intro i hi
      rw [foldl_take hi]
      have hlen := foldl_len (s.take i) []
      have h1 := foldl_one (s.take i) (fun x hx => hone x (List.mem_of_mem_take hx)) [] (by simp)
      have he := hone _ (getD_mem hi ((0 : Int), ((0 : Int), (0 : Int))))
      simp only [List.length_take, List.length_nil] at hlen
      generalize (s.take i).foldl mstep [] = out at hlen h1 ⊢
      simp only [Bool.cond_eq_ite, decide_eq_true_eq]
      rw [if_pos (by omega)]
      simp only [Int.toNat_natCast]
      generalize s.getD i ((0 : Int), ((0 : Int), (0 : Int))) = e at he ⊢
      rw [wrap64 (n := (i : Int) + 1) (by omega) (by omega)]
      by_cases hc : 0 < out.length
      · have ew : IntKind.wrap .i64 (((out.length : Nat) : Int) - 1) = ((out.length - 1 : Nat) : Int) := by rw [wrap64 (by omega) (by omega)]; omega
        rw [ew]
        rw [if_pos (by omega)]
        simp only [Int.toNat_natCast]
        have hl1 := h1 _ (getD_mem (l := out) (i := out.length - 1) (by omega) ((0 : Int), ((0 : Int), (0 : Int))))
        rw [gd_pos (by omega), gd_pos (by omega), gd_pos (by omega), gd_pos (by omega), gd_pos (by omega), gd_pos (by omega), m36_eq hl1 he]
        simp only [Option.bind_some]
        by_cases hg : goes (out.getD (out.length - 1) ((0 : Int), ((0 : Int), (0 : Int)))) e = true
        · rw [if_pos hg, gd_pos (by omega), gd_pos (by omega), gd_pos (by omega), gd_pos (by omega), gd_pos (by omega), gd_pos (by omega), gd_pos (by omega), gd_pos (by omega), gd_pos (by omega)]
          unfold mstep
          rw [if_pos ⟨hc, hg⟩]
          have := join_one hl1 he hg
          rw [one_iff] at this
          simp only [join] at this
          rw [wrap64 (n := (out.getD (out.length - 1) ((0 : Int), ((0 : Int), (0 : Int)))).2.1 + e.2.1) (by omega) (by omega)]
          rfl
        · rw [if_neg hg, gd_pos (by omega), gd_pos (by omega), gd_pos (by omega), gd_pos (by simp; omega), gd_pos (by simp; omega)]
          unfold mstep
          rw [if_neg (fun x => hg x.2)]
          rfl
      · have h0 : out.length = 0 := by omega
        rw [h0, if_neg (by rw [wrap64 (by omega) (by omega)]; omega), gd_pos (by omega), gd_pos (by omega), gd_pos (by omega), gd_pos (by simp), gd_pos (by simp)]
        unfold mstep
        rw [if_neg (fun x => hc x.1)]
        rfl
    · simp only [List.take_length, Bool.cond_eq_ite, decide_eq_true_eq]
      rw [if_neg (by omega), merge_eq]
end Go.Proofs.Ytlkgkmalfdlbfaa
end

section
/- Lists of extents: what may be, apart, punched and put, with no program in sight. -/
namespace Go.Proofs.Ytlkgkmalfdlbfaa
open Go Go.Proofs.AM

/-! ### lists in order, lists apart -/
def Dj (l : List Ex) : Prop := l.Pairwise (fun a b => a.1 + a.2.1 ≤ b.1)
def Sep (a b : Ex) : Prop := a.1 + a.2.1 ≤ b.1 ∨ b.1 + b.2.1 ≤ a.1
def Ap (l : List Ex) : Prop := l.Pairwise Sep

theorem Sep.symm {a b : Ex} (h : Sep a b) : Sep b a := Or.symm h
theorem Ap.perm {l m : List Ex} (h : Ap l) (p : l.Perm m) : Ap m := List.Pairwise.perm h p (fun h => h.symm)
theorem Dj.ap {l : List Ex} (h : Dj l) : Ap l := h.imp fun h => .inl h

theorem one_len {e : Ex} (h : one e = true) : 1 ≤ e.2.1 := by rw [one_iff] at h; omega

theorem Srt.dj {l : List Ex} (h : Srt l) (ho : ∀ e ∈ l, one e = true) (ha : Ap l) : Dj l := by
  unfold Srt at h; unfold Ap at ha; unfold Dj
  induction l with
  | nil => exact List.Pairwise.nil
  | cons a l ih =>
    rw [List.pairwise_cons] at h ha ⊢
    refine ⟨fun b hb => ?_, ih h.2 (fun e he => ho e (by simp [he])) ha.2⟩
    have h1 := h.1 b hb
    have h3 := one_len (ho b (by simp [hb]))
    rcases ha.1 b hb with h2 | h2
    · exact h2
    · omega

theorem Dj.srt {l : List Ex} (h : Dj l) (ho : ∀ e ∈ l, one e = true) : Srt l := by
  unfold Srt; unfold Dj at h
  induction l with
  | nil => exact List.Pairwise.nil
  | cons a l ih =>
    rw [List.pairwise_cons] at h ⊢
    refine ⟨fun b hb => ?_, ih h.2 (fun e he => ho e (by simp [he]))⟩
    have h1 := h.1 b hb
    have h3 := one_len (ho a (by simp))
    omega

theorem srt_uniq {s t : List Ex} (hp : s.Perm t) (hs : Srt s) (ht : Srt t) (ho : ∀ e ∈ s, one e = true) (ha : Ap s) : s = t := by
  refine List.Perm.eq_of_pairwise (le := fun a b : Ex => a.1 ≤ b.1) (fun a b h1 h2 h3 h4 => ?_) hs ht hp
  have h2 := hp.mem_iff.2 h2
  obtain ⟨i, hi, rfl⟩ := List.mem_iff_getElem.1 h1
  obtain ⟨j, hj, rfl⟩ := List.mem_iff_getElem.1 h2
  unfold Ap at ha
  rw [List.pairwise_iff_getElem] at ha
  have o1 := one_len (ho _ h1)
  have o2 := one_len (ho _ h2)
  rcases Nat.lt_trichotomy i j with h | h | h
  · have := ha i j hi hj h; unfold Sep at this; omega
  · subst h; rfl
  · have := ha j i hj hi h; unfold Sep at this; omega

/-! ### what may be, told another way -/
def Ch : List Ex → Prop
  | [] => True
  | [a] => one a = true
  | a :: b :: l => one a = true ∧ a.1 + a.2.1 ≤ b.1 ∧ goes a b = false ∧ Ch (b :: l)

theorem ch_chk : ∀ l : List Ex, Ch l ↔ chk l
  | [] => ⟨fun _ i hi => by simp at hi, fun _ => trivial⟩
  | [a] => by
    constructor
    · intro h i hi
      obtain rfl : i = 0 := by simp at hi; omega
      exact ⟨h, fun h => by omega⟩
    · intro h; exact (h 0 (by simp)).1
  | a :: b :: l => by
    have ih := ch_chk (b :: l)
    constructor
    · rintro ⟨h1, h2, h3, h4⟩ i hi
      have h4 := ih.1 h4
      rcases i with _ | _ | i
      · exact ⟨h1, fun h => by omega⟩
      · exact ⟨(h4 0 (by simp)).1, fun _ => ⟨h2, h3⟩⟩
      · have := h4 (i + 1) (by simp at hi ⊢; omega)
        exact ⟨this.1, fun _ => this.2 (by omega)⟩
    · intro h
      refine ⟨(h 0 (by simp)).1, ((h 1 (by simp)).2 (by omega)).1, ((h 1 (by simp)).2 (by omega)).2, ih.2 fun i hi => ?_⟩
      have := h (i + 1) (by simp at hi ⊢; omega)
      refine ⟨this.1, fun hi0 => ?_⟩
      have h2 := this.2 (by omega)
      obtain ⟨k, rfl⟩ : ∃ k, i = k + 1 := ⟨i - 1, by omega⟩
      exact h2

theorem Ch.one : ∀ {l : List Ex}, Ch l → ∀ e ∈ l, one e = true
  | [], _, e, he => by simp at he
  | [a], h, e, he => by simp at he; subst he; exact h
  | a :: b :: l, h, e, he => by
    rcases List.mem_cons.1 he with rfl | he
    · exact h.1
    · exact Ch.one h.2.2.2 e he

theorem Ch.dj : ∀ {l : List Ex}, Ch l → Dj l
  | [], _ => List.Pairwise.nil
  | [a], _ => List.pairwise_singleton _ _
  | a :: b :: l, h => by
    have ih := Ch.dj h.2.2.2
    refine List.pairwise_cons.2 ⟨fun c hc => ?_, ih⟩
    rcases List.mem_cons.1 hc with rfl | hc
    · exact h.2.1
    · have h1 := (List.pairwise_cons.1 ih).1 c hc
      have := one_len (Ch.one h.2.2.2 b (by simp))
      have := h.2.1
      omega

theorem chk_one {l : List Ex} (h : chk l) : ∀ e ∈ l, one e = true := ((ch_chk l).2 h).one
theorem chk_dj {l : List Ex} (h : chk l) : Dj l := ((ch_chk l).2 h).dj

/-! ### one form -/
theorem mg_head : ∀ (l : List Ex) (a : Ex), one a = true → (∀ e ∈ l, one e = true) → ∃ x r, mg a l = x :: r ∧ x.1 = a.1 ∧ x.2.2 = a.2.2 ∧ a.2.1 ≤ x.2.1
  | [], a, _, _ => ⟨a, [], rfl, rfl, rfl, Int.le_refl _⟩
  | e :: l, a, ha, ho => by
    unfold mg
    by_cases h : goes a e = true
    · rw [if_pos h]
      have he := ho e (by simp)
      obtain ⟨x, r, e1, e2, e3, e4⟩ := mg_head l (join a e) (join_one ha he h) (fun x hx => ho x (by simp [hx]))
      refine ⟨x, r, e1, e2, e3, ?_⟩
      simp only [join] at e4
      have := one_len he
      omega
    · rw [if_neg h]; exact ⟨a, _, rfl, rfl, rfl, Int.le_refl _⟩

theorem mg_ch : ∀ (l : List Ex) (a : Ex), one a = true → (∀ e ∈ l, one e = true) → Dj (a :: l) → Ch (mg a l)
  | [], a, ha, _, _ => ha
  | e :: l, a, ha, ho, hd => by
    have he := ho e (by simp)
    have hol : ∀ x ∈ l, one x = true := fun x hx => ho x (by simp [hx])
    rw [Dj, List.pairwise_cons] at hd
    unfold mg
    by_cases h : goes a e = true
    · rw [if_pos h]
      refine mg_ch l (join a e) (join_one ha he h) hol ?_
      rw [Dj, List.pairwise_cons]
      have h2 := List.pairwise_cons.1 hd.2
      refine ⟨fun b hb => ?_, h2.2⟩
      have := h2.1 b hb
      rw [goes_iff] at h
      simp only [join]; omega
    · rw [if_neg h]
      have ih := mg_ch l e he hol hd.2
      obtain ⟨x, r, e1, e2, e3, e4⟩ := mg_head l e he hol
      rw [e1] at ih ⊢
      refine ⟨ha, by rw [e2]; exact hd.1 e (by simp), ?_, ih⟩
      cases hg : goes a x with
      | false => rfl
      | true =>
        exfalso; apply h
        rw [goes_iff] at hg ⊢
        rw [e2, e3] at hg
        omega

theorem merge_ch {l : List Ex} (ho : ∀ e ∈ l, one e = true) (hd : Dj l) : Ch (merge l) := by
  cases l with
  | nil => trivial
  | cons a l => exact mg_ch l a (ho a (by simp)) (fun e he => ho e (by simp [he])) hd

theorem mg_same : ∀ (l : List Ex) (a : Ex), Ch (a :: l) → mg a l = a :: l
  | [], _, _ => rfl
  | e :: l, a, h => by
    unfold mg
    rw [if_neg (by rw [h.2.2.1]; simp), mg_same l e h.2.2.2]

theorem merge_same {l : List Ex} (h : Ch l) : merge l = l := by
  cases l with
  | nil => rfl
  | cons a l => exact mg_same l a h

theorem mg_len : ∀ (l : List Ex) (a : Ex), (mg a l).length ≤ l.length + 1
  | [], a => by simp [mg]
  | e :: l, a => by
    unfold mg
    split
    · have := mg_len l (join a e); simp; omega
    · have := mg_len l e; simp; omega

theorem merge_len (l : List Ex) : (merge l).length ≤ l.length := by
  cases l with
  | nil => simp [merge]
  | cons a l => exact mg_len l a

/-- Outside of some blocks. -/
def Out (f t : Int) (e : Ex) : Prop := e.1 + e.2.1 ≤ f ∨ t ≤ e.1

theorem mg_out {f t : Int} (hft : f < t) : ∀ (l : List Ex) (a : Ex), Out f t a → (∀ e ∈ l, Out f t e) → ∀ x ∈ mg a l, Out f t x
  | [], a, ha, _, x, hx => by simp [mg] at hx; subst hx; exact ha
  | e :: l, a, ha, ho, x, hx => by
    unfold mg at hx
    have he := ho e (by simp)
    split at hx
    · rename_i h
      refine mg_out hft l (join a e) ?_ (fun y hy => ho y (by simp [hy])) x hx
      rw [goes_iff] at h
      unfold Out at ha he ⊢
      simp only [join]; omega
    · rcases List.mem_cons.1 hx with rfl | hx
      · exact ha
      · exact mg_out hft l e he (fun y hy => ho y (by simp [hy])) x hx

theorem merge_out {f t : Int} (hft : f < t) {l : List Ex} (h : ∀ e ∈ l, Out f t e) : ∀ x ∈ merge l, Out f t x := by
  cases l with
  | nil => simp [merge]
  | cons a l => exact mg_out hft l a (h a (by simp)) (fun e he => h e (by simp [he]))

/-! ### parts of a list -/
theorem part_in {f t : Int} {e x : Ex} (h : part f t e = some x) : e.1 ≤ x.1 ∧ f ≤ x.1 ∧ x.1 < x.1 + x.2.1 ∧ x.1 + x.2.1 ≤ e.1 + e.2.1 ∧ x.1 + x.2.1 ≤ t := by
  obtain ⟨h1, rfl⟩ := part_some h
  have := lo_ge e f; have := hi_le e t
  simp only; omega

theorem parts_dj {l : List Ex} (h : Dj l) (f t : Int) : Dj (l.filterMap (part f t)) := by
  unfold Dj at h ⊢
  rw [List.pairwise_filterMap]
  refine h.imp ?_
  intro a b hab x hx y hy
  have := part_in hx; have := part_in hy; omega

theorem parts_one {l : List Ex} (h : ∀ e ∈ l, one e = true) (f t : Int) : ∀ x ∈ l.filterMap (part f t), one x = true := by
  intro x hx
  obtain ⟨e, he, hx⟩ := List.mem_filterMap.1 hx
  exact part_one hx (h e he)

theorem two_dj {l : List Ex} (h : Dj l) {a f t b : Int} (hft : f ≤ t) : Dj (l.filterMap (part a f) ++ l.filterMap (part t b)) := by
  have h1 := parts_dj h a f
  have h2 := parts_dj h t b
  unfold Dj at h1 h2 ⊢
  rw [List.pairwise_append]
  refine ⟨h1, h2, fun x hx y hy => ?_⟩
  obtain ⟨e, he, hx⟩ := List.mem_filterMap.1 hx
  obtain ⟨g, hg, hy⟩ := List.mem_filterMap.1 hy
  have := part_in hx; have := part_in hy; omega

theorem fm_perm {A B : Type} (g h : A → Option B) : ∀ l : List A, (l.flatMap fun e => (g e).toList ++ (h e).toList).Perm (l.filterMap g ++ l.filterMap h)
  | [] => by simp
  | a :: l => by
    have ih := fm_perm g h l
    simp only [List.flatMap_cons, List.filterMap_cons]
    refine (ih.append_left _).trans ?_
    cases g a with
    | none =>
      cases h a with
      | none => simp
      | some y => simpa using (List.perm_middle (a := y) (l₁ := l.filterMap g) (l₂ := l.filterMap h)).symm
    | some x =>
      cases h a with
      | none => simp
      | some y => simpa using (List.perm_middle (a := y) (l₁ := l.filterMap g) (l₂ := l.filterMap h)).symm

/-! ### punched, put -/
def toB (f n : Int) : Int := f + (if 65536 - f < n then 65536 - f else n)
def badP (f n : Int) : Prop := f < 0 ∨ f > 65536 ∨ n < 0
instance (f n : Int) : Decidable (badP f n) := by unfold badP; infer_instance
def left (l : List Ex) (f n : Int) : List Ex := merge (l.filterMap (part 0 f) ++ l.filterMap (part (toB f n) 65536))
def goneP (l : List Ex) (f n : Int) : List Ex := l.filterMap (part f (toB f n))
def punch (l : List Ex) (f n : Int) : List Ex × (List Ex × (Int × Unit)) :=
  if chk l then (if badP f n then ([], ([], (1, ()))) else (left l f n, (goneP l f n, (0, ())))) else ([], ([], (130, ())))

theorem toB_ge {f n : Int} (h : ¬ badP f n) : f ≤ toB f n ∧ toB f n ≤ 65536 := by unfold badP at h; unfold toB; split <;> omega

theorem toB_wrap {f n : Int} (h : ¬ badP f n) : IntKind.wrap .i64 (f + (if (IntKind.wrap .i64 ((65536 : Int) - f)) < n then (IntKind.wrap .i64 ((65536 : Int) - f)) else n)) = toB f n := by
  have := toB_ge h
  unfold badP at h
  rw [wrap64 (n := (65536 : Int) - f) (by omega) (by omega)]
  exact wrap64 (by unfold toB at this; omega) (by unfold toB at this; omega)

theorem m14_eq (l : List Ex) (f n : Int) (hl : l.length ≤ 400000) : m14 (l, (f, (n, ()))) = some (punch l f n) := by
  unfold m14 punch
  dsimp only
  rw [m29_eq l (by omega)]
  simp only [Option.bind_some, Bool.cond_eq_ite, Bool.not_eq_true', decide_eq_true_eq, decide_eq_false_iff_not]
  by_cases hc : chk l
  · simp only [if_pos hc, not_true_eq_false, if_false]
    by_cases hb : badP f n
    · rw [if_pos hb]
      unfold badP at hb
      repeat' split
      all_goals first | rfl | (exfalso; omega)
    · rw [if_neg hb]
      rw [toB_wrap hb]
      have hb' := hb
      unfold badP at hb'
      have ho := chk_one hc
      have hd := chk_dj hc
      have l1 := fm_len (part 0 f) l
      have l2 := fm_len (part (toB f n) 65536) l
      rw [if_neg (by omega), if_neg (by omega), if_neg (by omega), m40_eq l 0 f ho (by omega), m40_eq l _ _ ho (by omega)]
      simp only [Option.bind_some]
      rw [m39_eq _ _ (by omega) (by omega)]
      simp only [Option.bind_some]
      have ho2 : ∀ e ∈ l.filterMap (part 0 f) ++ l.filterMap (part (toB f n) 65536), one e = true := fun e he => by
        rcases List.mem_append.1 he with he | he
        · exact parts_one ho _ _ e he
        · exact parts_one ho _ _ e he
      rw [m38_eq _ ho2 (by rw [List.length_append]; omega)]
      simp only [Option.bind_some]
      rw [m40_eq l _ _ ho (by omega)]
      obtain ⟨p1, p2⟩ := sortS_srt (l.filterMap (part 0 f) ++ l.filterMap (part (toB f n) 65536))
      have hdj := two_dj hd (a := 0) (b := 65536) (toB_ge hb).1
      rw [srt_uniq p1 p2 (hdj.srt ho2) (fun e he => ho2 e (p1.mem_iff.1 he)) (hdj.ap.perm p1.symm)]
      rfl
  · simp only [if_neg hc]
    rfl

theorem m18_eq (l : List Ex) (f n : Int) (hl : l.length ≤ 400000) : m18 (l, (f, (n, ()))) = some (punch l f n) := by
  unfold m18 punch
  dsimp only
  rw [m10_eq l (by omega)]
  simp only [Option.bind_some, Bool.cond_eq_ite, Bool.not_eq_true', decide_eq_true_eq, decide_eq_false_iff_not]
  by_cases hc : chk l
  · simp only [if_pos hc, not_true_eq_false, if_false]
    by_cases hb : badP f n
    · rw [if_pos hb]
      unfold badP at hb
      by_cases h1 : f < 0
      · rw [if_pos h1]
      rw [if_neg h1]
      by_cases h2 : f > 65536
      · rw [if_pos h2]
      rw [if_neg h2, if_pos (by omega)]
    · rw [if_neg hb]
      simp only [toB_wrap hb]
      have hb' := hb
      unfold badP at hb'
      have ho := chk_one hc
      have hd := chk_dj hc
      rw [if_neg (by omega), if_neg (by omega), if_neg (by omega)]
      have hfl : ∀ i, i ≤ l.length → ((l.take i).flatMap fun e => (part 0 f e).toList ++ (part (toB f n) 65536 e).toList).length ≤ 2 * i := fun i hi => by
        have := (fm_perm (part 0 f) (part (toB f n) 65536) (l.take i)).length_eq
        have h1 := fm_len (part 0 f) (l.take i)
        have h2 := fm_len (part (toB f n) 65536) (l.take i)
        rw [List.length_append] at this
        rw [List.length_take] at h1 h2
        omega
      rw [loop_idx' l.length (fun i => ((l.take i).flatMap (fun e => (part 0 f e).toList ++ (part (toB f n) 65536 e).toList), ((l.take i).filterMap (part f (toB f n)), (i : Int)))) ?_ ?_
        (e := (l.flatMap (fun e => (part 0 f e).toList ++ (part (toB f n) 65536 e).toList), l.filterMap (part f (toB f n)))) ?_]
      · simp only [Option.bind_some]
        have hp := fm_perm (part 0 f) (part (toB f n) 65536) l
        have ho2 : ∀ e ∈ l.filterMap (part 0 f) ++ l.filterMap (part (toB f n) 65536), one e = true := fun e he => by
          rcases List.mem_append.1 he with he | he
          · exact parts_one ho _ _ e he
          · exact parts_one ho _ _ e he
        have hlen := hfl l.length (Nat.le_refl _)
        rw [List.take_length] at hlen
        obtain ⟨r, e1, s, s1, s2, rfl⟩ := m42_ok _ (fun e he => ho2 e (hp.mem_iff.1 he)) (by omega)
        rw [e1]
        have hdj := two_dj hd (a := 0) (b := 65536) (toB_ge hb).1
        rw [srt_uniq (s1.trans hp) s2 (hdj.srt ho2) (fun e he => ho2 e ((s1.trans hp).mem_iff.1 he)) (hdj.ap.perm (s1.trans hp).symm)]
        rfl
      · rfl
      · intro i hi
        have h1 := hfl i (by omega)
        have h2 := fm_len (part f (toB f n)) (l.take i)
        rw [List.length_take] at h2
        have he := ho _ (getD_mem hi ((0 : Int), ((0 : Int), (0 : Int))))
        dsimp only
        rw [if_pos (by omega), gd_pos (by omega), gd_pos (by omega)]
        simp only [Int.toNat_natCast]
        rw [m41_eq he, m41_eq he, m41_eq he, wrap64 (n := (i : Int) + 1) (by omega) (by omega), take_snoc l i hi ((0 : Int), ((0 : Int), (0 : Int))), List.filterMap_append, List.flatMap_append]
        generalize (List.flatMap (fun e => (part 0 f e).toList ++ (part (toB f n) 65536 e).toList) (l.take i)) = u at h1 ⊢
        generalize List.filterMap (part f (toB f n)) (l.take i) = v at h2 ⊢
        generalize l.getD i ((0 : Int), ((0 : Int), (0 : Int))) = e at he ⊢
        have q1 := partT_eq 0 f e
        have q2 := partT_eq f (toB f n) e
        have q3 := partT_eq (toB f n) 65536 e
        rcases q1 with ⟨x1, a1, b1⟩ | ⟨a1, b1⟩ <;> rcases q2 with ⟨x2, a2, b2⟩ | ⟨a2, b2⟩ <;> rcases q3 with ⟨x3, a3, b3⟩ | ⟨a3, b3⟩ <;>
          (simp only [b1, b2, b3, Option.bind_some, if_true, Bool.false_eq_true, if_false]
           repeat rw [gd_pos (by first | omega | (simp only [List.length_append, List.length_cons, List.length_nil]; omega))]
           simp [a1, a2, a3])
      · simp only [List.take_length]
        rw [if_neg (by omega)]
  · simp only [if_neg hc]
    rfl
end Go.Proofs.Ytlkgkmalfdlbfaa
end

section
/- Lists of extents: put, and any extents in one form, with no program in sight. -/
namespace Go.Proofs.Ytlkgkmalfdlbfaa
open Go Go.Proofs.AM

theorem left_len (l : List Ex) (f n : Int) : (left l f n).length ≤ 2 * l.length := by
  unfold left
  refine Nat.le_trans (merge_len _) ?_
  have h1 := fm_len (part 0 f) l
  have h2 := fm_len (part (toB f n) 65536) l
  rw [List.length_append]; omega

theorem left_one {l : List Ex} (h : ∀ e ∈ l, one e = true) (f n : Int) : ∀ e ∈ l.filterMap (part 0 f) ++ l.filterMap (part (toB f n) 65536), one e = true := fun e he => by
  rcases List.mem_append.1 he with he | he
  · exact parts_one h _ _ e he
  · exact parts_one h _ _ e he

theorem left_ch {l : List Ex} (hc : chk l) {f n : Int} (hb : ¬ badP f n) : Ch (left l f n) := merge_ch (left_one (chk_one hc) f n) (two_dj (chk_dj hc) (toB_ge hb).1)

theorem left_out {l : List Ex} {f n : Int} (hft : f < toB f n) : ∀ x ∈ left l f n, Out f (toB f n) x := by
  unfold left
  refine merge_out hft fun e he => ?_
  rcases List.mem_append.1 he with he | he
  · obtain ⟨g, _, he⟩ := List.mem_filterMap.1 he
    have := part_in he
    exact .inl this.2.2.2.2
  · obtain ⟨g, _, he⟩ := List.mem_filterMap.1 he
    have := part_in he
    exact .inr this.2.1

theorem one_toB {e : Ex} (h : one e = true) : ¬ badP e.1 e.2.1 ∧ toB e.1 e.2.1 = e.1 + e.2.1 := by
  rw [one_iff] at h
  unfold badP toB
  refine ⟨by omega, ?_⟩
  split <;> omega

/-- What is put among them lies apart. -/
theorem put_ap {l : List Ex} (hc : chk l) {e : Ex} (he : one e = true) : (∀ x ∈ left l e.1 e.2.1 ++ [e], one x = true) ∧ Ap (left l e.1 e.2.1 ++ [e]) := by
  obtain ⟨hb, ht⟩ := one_toB he
  have h1 := left_ch hc hb
  refine ⟨fun x hx => ?_, ?_⟩
  · rcases List.mem_append.1 hx with hx | hx
    · exact h1.one x hx
    · simp at hx; subst hx; exact he
  · unfold Ap
    rw [List.pairwise_append]
    refine ⟨h1.dj.ap, List.pairwise_singleton _ _, fun a ha b hb => ?_⟩
    simp at hb; subst hb
    have := left_out (l := l) (f := b.1) (n := b.2.1) (by rw [ht]; have := one_len he; omega) a ha
    unfold Out at this
    unfold Sep
    omega

/-- The one form of extents. -/
def form (l : List Ex) : List Ex := merge (sortS (k := kX) cfX l)

theorem form_of {l s : List Ex} (ho : ∀ e ∈ l, one e = true) (ha : Ap l) (hp : s.Perm l) (hs : Srt s) : merge s = form l := by
  obtain ⟨p1, p2⟩ := sortS_srt l
  unfold form
  rw [srt_uniq (hp.trans p1.symm) hs p2 (fun e he => ho e (hp.mem_iff.1 he)) (ha.perm hp.symm)]

def putL (l : List Ex) (e : Ex) : List Ex × (List Ex × (Int × Unit)) :=
  if chk l then (if one e = true then (form (left l e.1 e.2.1 ++ [e]), (goneP l e.1 e.2.1, (0, ()))) else ([], ([], (130, ())))) else ([], ([], (130, ())))

theorem m16_eq (l : List Ex) (e : Ex) (hl : l.length ≤ 400000) : m16 (l, (e, ())) = some (putL l e) := by
  unfold m16 putL
  dsimp only
  rw [m29_eq l (by omega)]
  simp only [Option.bind_some, Bool.cond_eq_ite, Bool.not_eq_true', decide_eq_true_eq, decide_eq_false_iff_not]
  by_cases hc : chk l
  · simp only [if_pos hc, not_true_eq_false, if_false]
    rw [m32_eq]
    simp only [Option.bind_some]
    by_cases he : one e = true
    · obtain ⟨hb, _⟩ := one_toB he
      have hll := left_len l e.1 e.2.1
      have h1 := put_ap hc he
      simp only [if_pos he, not_true_eq_false, if_false]
      rw [m14_eq l _ _ hl]
      unfold punch
      rw [if_pos hc, if_neg hb]
      simp only [Option.bind_some, not_true_eq_false, if_false]
      rw [gd_pos (by simp; omega), gd_pos (by simp; omega), m38_eq _ h1.1 (by simp; omega)]
      rfl
    · simp only [if_neg he]
      rfl
  · simp only [if_neg hc]
    rfl

theorem m20_eq (l : List Ex) (e : Ex) (hl : l.length ≤ 400000) : m20 (l, (e, ())) = some (putL l e) := by
  unfold m20 putL
  dsimp only
  rw [m10_eq l (by omega)]
  simp only [Option.bind_some, Bool.cond_eq_ite, Bool.not_eq_true', decide_eq_true_eq, decide_eq_false_iff_not]
  by_cases hc : chk l
  · simp only [if_pos hc, not_true_eq_false, if_false]
    rw [m12_eq]
    simp only [Option.bind_some]
    by_cases he : one e = true
    · obtain ⟨hb, _⟩ := one_toB he
      have hll := left_len l e.1 e.2.1
      have h1 := put_ap hc he
      simp only [if_pos he, not_true_eq_false, if_false]
      rw [m18_eq l _ _ hl]
      unfold punch
      rw [if_pos hc, if_neg hb]
      simp only [Option.bind_some]
      obtain ⟨r, e1, s, s1, s2, rfl⟩ := m42_ok _ h1.1 (by simp; omega)
      rw [gd_pos (by simp; omega), gd_pos (by simp; omega), e1, form_of h1.1 h1.2 s1 s2]
      rfl
    · simp only [if_neg he]
      rfl
  · simp only [if_neg hc]
    rfl

/-! ### any extents in one form -/
def allOne (l : List Ex) : Prop := ∀ i, i < l.length → one (l.getD i ((0 : Int), ((0 : Int), (0 : Int)))) = true
instance (l : List Ex) : Decidable (allOne l) := by unfold allOne; infer_instance
theorem allOne_iff (l : List Ex) : allOne l ↔ ∀ e ∈ l, one e = true := by
  constructor
  · intro h e he
    obtain ⟨i, hi, rfl⟩ := List.mem_iff_getElem.1 he
    have := h i hi
    rwa [List.getD_eq_getElem?_getD, List.getElem?_eq_getElem hi] at this
  · intro h i hi; exact h _ (getD_mem hi _)

open Classical in
noncomputable def norm (l : List Ex) : List Ex × (Int × Unit) := if allOne l ∧ Ap l then (form l, (0, ())) else ([], (130, ()))

theorem getD_eq {A : Type} {l : List A} {i : Nat} (h : i < l.length) (z : A) : l.getD i z = l[i] := by
  rw [List.getD_eq_getElem?_getD, List.getElem?_eq_getElem h]; rfl

/-- In order, none into the next one. -/
def adj (s : List Ex) (i : Nat) : Prop := (s.getD (i - 1) ((0 : Int), ((0 : Int), (0 : Int)))).1 + (s.getD (i - 1) ((0 : Int), ((0 : Int), (0 : Int)))).2.1 ≤ (s.getD i ((0 : Int), ((0 : Int), (0 : Int)))).1

theorem adj_dj : ∀ {s : List Ex}, (∀ e ∈ s, one e = true) → (∀ i, 1 ≤ i → i < s.length → adj s i) → Dj s
  | [], _, _ => List.Pairwise.nil
  | [a], _, _ => List.pairwise_singleton _ _
  | a :: b :: l, ho, h => by
    have ih : Dj (b :: l) := adj_dj (fun e he => ho e (by simp [he])) (fun i h1 h2 => by
      have := h (i + 1) (by omega) (by simp at h2 ⊢; omega)
      obtain ⟨k, rfl⟩ : ∃ k, i = k + 1 := ⟨i - 1, by omega⟩
      exact this)
    have h0 : a.1 + a.2.1 ≤ b.1 := h 1 (by omega) (by simp)
    refine List.pairwise_cons.2 ⟨fun c hc => ?_, ih⟩
    rcases List.mem_cons.1 hc with rfl | hc
    · exact h0
    · have h1 := (List.pairwise_cons.1 ih).1 c hc
      have := one_len (ho b (by simp))
      omega

theorem m21_eq (l : List Ex) (hl : l.length ≤ 400000) : m21 (l, ()) = some (norm l) := by
  have h : Ok (m21 (l, ())) (fun r => r = norm l) := by
    unfold m21
    dsimp only
    refine Ok.bind (S := fun r : Unit ⊕ (List Ex × Int) => (r = .inl () ∧ allOne l) ∨ (r = .inr ([], 130) ∧ ¬ allOne l)) (Ok.loop l.length (fun i x => x = i ∧ ∀ j, j < i → one (l.getD j ((0 : Int), ((0 : Int), (0 : Int)))) = true) ⟨rfl, fun j hj => by omega⟩ ?_) ?_
    · rintro i x hi ⟨rfl, hq⟩
      refine Ok.cond (fun hc => ?_) (fun hc => ?_)
      · have hil : i < l.length := by omega
        refine Ok.gd (by omega) (Ok.gd (by omega) ?_)
        rw [m32_eq]
        simp only [Option.bind_some, Int.toNat_natCast]
        refine Ok.ncond (fun h1 => ?_) (fun h1 => ?_)
        · refine Ok.inr (.inr ⟨rfl, fun ha => h1 ?_⟩)
          rw [if_pos (ha i hil)]
        · refine Ok.inl ⟨hil, by rw [wrap64 (by omega) (by omega)]; rfl, fun j hj => ?_⟩
          by_cases e : j = i
          · subst e
            by_cases h : one (l.getD j ((0 : Int), ((0 : Int), (0 : Int)))) = true
            · exact h
            · rw [if_neg h] at h1; simp at h1
          · exact hq j (by omega)
      · exact Ok.inr (.inl ⟨rfl, fun j hj => hq j (by omega)⟩)
    · rintro r (⟨rfl, ha⟩ | ⟨rfl, ha⟩)
      · simp only [Sum.elim_inl]
        have ho := (allOne_iff l).1 ha
        rw [m17_eq l (by omega)]
        simp only [Option.bind_some]
        rw [m43_44_eq l (by omega)]
        simp only [Option.bind_some]
        obtain ⟨p1, p2⟩ := sortS_srt l
        generalize hs : sortS (k := kX) cfX l = s at p1 p2 ⊢
        have hsl := p1.length_eq
        have hos : ∀ e ∈ s, one e = true := fun e he => ho e (p1.mem_iff.1 he)
        refine Ok.bind (S := fun r : Unit ⊕ (List Ex × Int) => (r = .inl () ∧ Ap l) ∨ (r = .inr ([], 130) ∧ ¬ Ap l)) (Ok.loop (s.length - 1) (fun i x => x = ((i + 1 : Nat) : Int) ∧ ∀ j, 1 ≤ j → j < i + 1 → j < s.length → adj s j) ⟨rfl, fun j hj => by omega⟩ ?_) ?_
        · rintro i x hi ⟨rfl, hq⟩
          refine Ok.cond (fun hc => ?_) (fun hc => ?_)
          · have ew : IntKind.wrap .i64 (((i + 1 : Nat) : Int) - 1) = (i : Int) := by rw [wrap64 (by omega) (by omega)]; omega
            rw [ew]
            simp only [Int.toNat_natCast]
            have hp := hos _ (getD_mem (l := s) (i := i) (by omega) ((0 : Int), ((0 : Int), (0 : Int))))
            refine Ok.gd (by omega) (Ok.gd (by omega) (Ok.gd (by omega) (Ok.gd (by omega) (Ok.gd (by omega) (Ok.gd (by omega) ?_)))))
            rw [m46_eq hp]
            simp only [Option.bind_some]
            refine Ok.cond (fun h3 => ?_) (fun h3 => ?_)
            · refine Ok.inr (.inr ⟨rfl, fun hap => ?_⟩)
              have hd := p2.dj hos (hap.perm p1.symm)
              unfold Dj at hd
              rw [List.pairwise_iff_getElem] at hd
              have := hd i (i + 1) (by omega) (by omega) (by omega)
              rw [getD_eq (by omega), getD_eq (by omega)] at h3
              omega
            · refine Ok.inl ⟨by omega, by rw [wrap64 (by omega) (by omega)]; rfl, fun j h1 h2 h4 => ?_⟩
              by_cases e : j = i + 1
              · subst e; unfold adj; simp only [Nat.add_sub_cancel]; omega
              · exact hq j h1 (by omega) h4
          · refine Ok.inr (.inl ⟨rfl, ?_⟩)
            exact (adj_dj hos (fun j h1 h2 => hq j h1 (by omega) h2)).ap.perm p1
        · rintro r (⟨rfl, hap⟩ | ⟨rfl, hap⟩)
          · simp only [Sum.elim_inl]
            rw [m38_eq s hos (by omega)]
            refine Ok.some ?_
            unfold norm
            rw [if_pos ⟨ha, hap⟩]
            obtain ⟨q1, q2⟩ := sortS_srt s
            rw [form_of ho hap (q1.trans p1) q2]
          · simp only [Sum.elim_inr]
            refine Ok.some ?_
            unfold norm
            rw [if_neg (fun h => hap h.2)]
      · simp only [Sum.elim_inr]
        refine Ok.some ?_
        unfold norm
        rw [if_neg (fun h => ha h.1)]
  obtain ⟨r, e, rfl⟩ := h
  exact e

theorem m22_eq (l : List Ex) (hl : l.length ≤ 400000) : m22 (l, ()) = some (norm l) := by
  have h : Ok (m22 (l, ())) (fun r => r = norm l) := by
    unfold m22
    dsimp only
    refine Ok.bind (S := fun r : Unit ⊕ (List Ex × Int) => (r = .inl () ∧ allOne l ∧ Ap l) ∨ (r = .inr ([], 130) ∧ ¬ (allOne l ∧ Ap l)))
      (Ok.loop l.length (fun i x => x = i ∧ ∀ j, j < i → one (l.getD j ((0 : Int), ((0 : Int), (0 : Int)))) = true ∧ ∀ k, k < j → Sep (l.getD k ((0 : Int), ((0 : Int), (0 : Int)))) (l.getD j ((0 : Int), ((0 : Int), (0 : Int))))) ⟨rfl, fun j hj => by omega⟩ ?_) ?_
    · rintro i x hi ⟨rfl, hq⟩
      refine Ok.cond (fun hc => ?_) (fun hc => ?_)
      · have hil : i < l.length := by omega
        refine Ok.gd (by omega) (Ok.gd (by omega) ?_)
        rw [m12_eq]
        simp only [Option.bind_some, Int.toNat_natCast]
        refine Ok.ncond (fun h1 => ?_) (fun h1 => ?_)
        · refine Ok.inr (.inr ⟨rfl, fun ha => h1 ?_⟩)
          rw [if_pos (ha.1 i hil)]
        · have h1 : one (l.getD i ((0 : Int), ((0 : Int), (0 : Int)))) = true := by
            by_cases h : one (l.getD i ((0 : Int), ((0 : Int), (0 : Int)))) = true
            · exact h
            · rw [if_neg h] at h1; simp at h1
          have o1 := h1
          rw [one_iff] at o1
          refine Ok.bind (S := fun r : Unit ⊕ (List Ex × Int) => (r = .inl () ∧ ∀ k, k < i → Sep (l.getD k ((0 : Int), ((0 : Int), (0 : Int)))) (l.getD i ((0 : Int), ((0 : Int), (0 : Int))))) ∨ (r = .inr ([], 130) ∧ ¬ Ap l)) (Ok.loop i (fun j x => x = j ∧ ∀ k, k < j → Sep (l.getD k ((0 : Int), ((0 : Int), (0 : Int)))) (l.getD i ((0 : Int), ((0 : Int), (0 : Int))))) ⟨rfl, fun k hk => by omega⟩ ?_) ?_
          · rintro j y hj ⟨rfl, hk⟩
            refine Ok.cond (fun hcj => ?_) (fun hcj => ?_)
            · have hji : j < i := by omega
              have o2 := (hq j hji).1
              rw [one_iff] at o2
              simp only [Int.toNat_natCast]
              refine Ok.gd (by omega) (Ok.gd (by omega) (Ok.gd (by omega) (Ok.gd (by omega) (Ok.gd (by omega) (Ok.gd (by omega) ?_)))))
              simp only [wrap64 (n := (l.getD j ((0 : Int), ((0 : Int), (0 : Int)))).1 + (l.getD j ((0 : Int), ((0 : Int), (0 : Int)))).2.1) (by omega) (by omega), wrap64 (n := (l.getD i ((0 : Int), ((0 : Int), (0 : Int)))).1 + (l.getD i ((0 : Int), ((0 : Int), (0 : Int)))).2.1) (by omega) (by omega)]
              have next : Sep (l.getD j ((0 : Int), ((0 : Int), (0 : Int)))) (l.getD i ((0 : Int), ((0 : Int), (0 : Int)))) → Ok (some (Sum.inl (IntKind.wrap .i64 ((j : Int) + 1)))) (fun s : Int ⊕ (Unit ⊕ (List Ex × Int)) => s.elim (fun y => j < i ∧ (y = ((j + 1 : Nat) : Int) ∧ ∀ k, k < j + 1 → Sep (l.getD k ((0 : Int), ((0 : Int), (0 : Int)))) (l.getD i ((0 : Int), ((0 : Int), (0 : Int)))))) (fun r => (r = .inl () ∧ ∀ k, k < i → Sep (l.getD k ((0 : Int), ((0 : Int), (0 : Int)))) (l.getD i ((0 : Int), ((0 : Int), (0 : Int))))) ∨ (r = .inr ([], 130) ∧ ¬ Ap l))) := fun hs =>
                Ok.inl ⟨hji, by rw [wrap64 (by omega) (by omega)]; rfl, fun k hkk => by
                  by_cases e : k = j
                  · subst e; exact hs
                  · exact hk k (by omega)⟩
              refine Ok.cond (fun h3 => ?_) (fun h3 => ?_)
              · refine Ok.gd (by omega) (Ok.gd (by omega) (Ok.gd (by omega) (Ok.gd (by omega) (Ok.gd (by omega) (Ok.gd (by omega) ?_)))))
                refine Ok.cond (fun h4 => ?_) (fun h4 => ?_)
                · refine Ok.inr (.inr ⟨rfl, fun hap => ?_⟩)
                  unfold Ap at hap
                  rw [List.pairwise_iff_getElem] at hap
                  have := hap j i (by omega) hil hji
                  rw [← getD_eq (by omega) ((0 : Int), ((0 : Int), (0 : Int))), ← getD_eq (by omega) ((0 : Int), ((0 : Int), (0 : Int)))] at this
                  unfold Sep at this
                  omega
                · exact next (.inr (by omega))
              · exact next (.inl (by omega))
            · exact Ok.inr (.inl ⟨rfl, fun k hkk => hk k (by omega)⟩)
          · rintro r (⟨rfl, hs⟩ | ⟨rfl, hs⟩)
            · simp only [Sum.elim_inl]
              refine Ok.inl ⟨hil, by rw [wrap64 (by omega) (by omega)]; rfl, fun j hj => ?_⟩
              by_cases e : j = i
              · subst e; exact ⟨h1, hs⟩
              · exact hq j (by omega)
            · simp only [Sum.elim_inr]
              exact Ok.inr (.inr ⟨rfl, fun h => hs h.2⟩)
      · refine Ok.inr (.inl ⟨rfl, fun j hj => (hq j (by omega)).1, ?_⟩)
        unfold Ap
        rw [List.pairwise_iff_getElem]
        intro k j hk hj hkj
        rw [← getD_eq hk ((0 : Int), ((0 : Int), (0 : Int))), ← getD_eq hj ((0 : Int), ((0 : Int), (0 : Int)))]
        exact (hq j (by omega)).2 k hkj
    · rintro r (⟨rfl, ha, hap⟩ | ⟨rfl, ha⟩)
      · simp only [Sum.elim_inl]
        have ho := (allOne_iff l).1 ha
        obtain ⟨r, e1, s, s1, s2, rfl⟩ := m42_ok l ho (by omega)
        rw [e1]
        refine Ok.some ?_
        unfold norm
        rw [if_pos ⟨ha, hap⟩, form_of ho hap s1 s2]
      · simp only [Sum.elim_inr]
        refine Ok.some ?_
        unfold norm
        rw [if_neg ha]
  obtain ⟨r, e, rfl⟩ := h
  exact e

/-! ### the same lists; lists that are few -/
theorem exEq (x y : Ex) : (decide (x.1 = y.1) && (decide (x.2.1 = y.2.1) && decide (x.2.2 = y.2.2))) = decide (x = y) := by
  rw [Bool.eq_iff_iff]
  simp only [Bool.and_eq_true, decide_eq_true_eq]
  exact ⟨fun ⟨h1, h2, h3⟩ => Prod.ext h1 (Prod.ext h2 h3), fun h => by rw [h]; simp⟩

theorem m19_eq (a b : List Ex) (hl : a.length ≤ 1000000) : m19 (a, (b, ())) = some (decide (a = b), ()) := by
  have h : Ok (m19 (a, (b, ()))) (fun r => r = (decide (a = b), ())) := by
    unfold m19
    dsimp only
    refine Ok.ncond (fun h1 => ?_) (fun h1 => ?_)
    · refine Ok.some ?_
      rw [decide_eq_false (fun e => h1 (by rw [e]))]
    · have hlen : a.length = b.length := by omega
      refine Ok.bind (S := fun r : Unit ⊕ Bool => (r = .inl () ∧ a = b) ∨ (r = .inr false ∧ a ≠ b)) (Ok.loop a.length (fun i x => x = i ∧ ∀ j, j < i → a.getD j ((0 : Int), ((0 : Int), (0 : Int))) = b.getD j ((0 : Int), ((0 : Int), (0 : Int)))) ⟨rfl, fun j hj => by omega⟩ ?_) ?_
      · rintro i x hi ⟨rfl, hq⟩
        refine Ok.cond (fun hc => ?_) (fun hc => ?_)
        · refine Ok.gd (by omega) (Ok.gd (by omega) (Ok.gd (by omega) (Ok.gd (by omega) ?_)))
          simp only [Int.toNat_natCast]
          rw [exEq (a.getD i ((0 : Int), ((0 : Int), (0 : Int)))) (b.getD i ((0 : Int), ((0 : Int), (0 : Int))))]
          refine Ok.ncond (fun h => ?_) (fun h => ?_)
          · exact Ok.inr (.inr ⟨rfl, fun e => h (by rw [e])⟩)
          · refine Ok.inl ⟨by omega, by rw [wrap64 (by omega) (by omega)]; rfl, fun j hj => ?_⟩
            by_cases e : j = i
            · subst e; exact h
            · exact hq j (by omega)
        · refine Ok.inr (.inl ⟨rfl, ?_⟩)
          refine List.ext_getElem hlen fun j h2 h3 => ?_
          have := hq j (by omega)
          rwa [getD_eq h2, getD_eq h3] at this
      · rintro r (⟨rfl, h⟩ | ⟨rfl, h⟩)
        · exact Ok.some (by rw [decide_eq_true h])
        · exact Ok.some (by rw [decide_eq_false h])
  obtain ⟨r, e, rfl⟩ := h
  exact e

theorem m9_eq (l : List Ex) : m9 ([l], ()) = some (decide (l.length ≤ 200), ()) := by
  unfold m9
  simp only [List.length_singleton, Bool.cond_eq_ite, decide_eq_true_eq]
  rw [if_neg (by omega), gd_pos (by omega), gd_pos (by omega)]
  have e1 : List.take (Int.toNat ((1 : Nat) : Int) - Int.toNat 0) (List.drop (Int.toNat 0) [l]) = [l] := rfl
  rw [e1]
  rw [loopM_eq]
  simp only [List.length_singleton]
  rw [if_pos (by omega), gd_pos (by omega), gd_pos (by omega)]
  simp only [Int.toNat_zero, List.getD_cons_zero]
  by_cases h : l.length ≤ 200
  · rw [if_neg (by omega), wrap64 (n := (0 : Int) + ((l.length : Nat) : Int)) (by omega) (by omega), wrap64 (n := (0 : Int) + 1) (by omega) (by omega)]
    simp only []
    rw [loopM_eq]
    simp only []
    rw [if_neg (by omega)]
    simp only [Option.bind_some, Sum.elim_inl]
    rw [if_pos (by omega)]
    simp only [h, decide_true]
    rw [decide_eq_true (by omega)]
  · rw [if_pos (by omega)]
    simp [h]

theorem m8_eq : m8 () = some (true, ()) := by
  unfold m8
  rw [m16_eq _ _ (by simp)]
  have h1 : putL [((0 : Int), ((4 : Int), (10 : Int)))] ((4 : Int), ((2 : Int), (14 : Int))) = ([((0 : Int), ((6 : Int), (10 : Int)))], ([], (0, ()))) := by
    unfold putL form
    have hc : chk [((0 : Int), ((4 : Int), (10 : Int)))] := by decide
    rw [if_pos hc, if_pos (by decide)]
    have h : left [((0 : Int), ((4 : Int), (10 : Int)))] 4 2 = [((0 : Int), ((4 : Int), (10 : Int)))] := by decide
    rw [h]
    have hp := put_ap hc (e := ((4 : Int), ((2 : Int), (14 : Int)))) (by decide)
    rw [show left [((0 : Int), ((4 : Int), (10 : Int)))] ((4 : Int), ((2 : Int), (14 : Int))).1 ((4 : Int), ((2 : Int), (14 : Int))).2.1 = [((0 : Int), ((4 : Int), (10 : Int)))] from h] at hp
    have := form_of hp.1 hp.2 (List.Perm.refl _) (by simp [Srt])
    unfold form at this
    rw [← this]
    decide
  simp only [Option.bind_some, h1]
  rw [m14_eq _ _ _ (by simp)]
  have h2 : punch [((0 : Int), ((6 : Int), (10 : Int)))] 2 1 = ([((0 : Int), ((2 : Int), (10 : Int))), ((3 : Int), ((3 : Int), (13 : Int)))], ([((2 : Int), ((1 : Int), (12 : Int)))], (0, ()))) := by decide
  simp only [Option.bind_some, h2]
  rw [m19_eq _ _ (by simp)]
  simp only [decide_true, cond_true, List.length_nil, Option.bind_some]
  rw [m19_eq _ _ (by simp)]
  simp only [decide_true, cond_true, Option.bind_some]
  rw [m19_eq _ _ (by simp)]
  simp
end Go.Proofs.Ytlkgkmalfdlbfaa
end

section
/- What function 37 (slipway/slipwayref13.may) computes, by the kernel. -/
open Go Go.Proofs.AM
namespace Go.Proofs.Ytlkgkmalfdlbfaa

noncomputable def m37 (x : (List (Int × (Int × Int))) × Unit) : Option ((List (Int × (Int × Int))) × Unit) :=
  Option.bind (m10 (x.1, ())) fun (y1 : (Int × Unit)) =>
  bif (!(decide (y1.1 = (0 : Int)))) then
    (some (([] : List (Int × (Int × Int))), ()))
  else
    (some (x.1, ()))

noncomputable def r37 : PDen [(false, (.sl (.pair (.int .i64) (.pair (.int .i64) (.int .i64)))))] → Option (PDen [(false, (.sl (.pair (.int .i64) (.pair (.int .i64) (.int .i64)))))]) := fun x => afun Try.prog (envOf [(10, ⟨[(false, (.sl (.pair (.int .i64) (.pair (.int .i64) (.int .i64)))))], [(false, (.int .i64))], false, m10⟩)] [] [] []) ⟨[], []⟩ Try.f37 [(false, (.sl (.pair (.int .i64) (.pair (.int .i64) (.int .i64)))))] [(false, (.sl (.pair (.int .i64) (.pair (.int .i64) (.int .i64)))))] true x
theorem r37_eq : r37 = m37 := by kernel_rfl

theorem c37 : CS.Sound Try.prog 37 ⟨[(false, (.sl (.pair (.int .i64) (.pair (.int .i64) (.int .i64)))))], [(false, (.sl (.pair (.int .i64) (.pair (.int .i64) (.int .i64)))))], true, m37⟩ := afun_sound' (envOf_sound (CSs.cons c10 (CSs.nil)) (HDs.nil) (IDs.nil)) rfl Try.follows (f := 37) (fn := Try.f37) Try.func37 (by kernel_rfl) (by kernel_rfl) r37_eq
end Go.Proofs.Ytlkgkmalfdlbfaa
end

section
/- What function 33 (slipway/slipwayref13.Runs) computes, by the kernel. -/
open Go Go.Proofs.AM
namespace Go.Proofs.Ytlkgkmalfdlbfaa

noncomputable def m33 (x : (List (Int × (Int × Int))) × Int × Int × Unit) : Option ((List (Int × (Int × Int))) × Unit) :=
  Option.bind (m37 (x.1, ())) fun (y1 : ((List (Int × (Int × Int))) × Unit)) =>
  Option.bind (loopM (X := ((List (Int × (Int × Int))) × Int)) (E := (List (Int × (Int × Int)))) (fun (x2 : ((List (Int × (Int × Int))) × Int)) =>
      bif (decide (x2.2 < (((List.length y1.1) : Nat) : Int))) then
        (gd ((0 : Int) ≤ x2.2) (gd (x2.2 < (((List.length y1.1) : Nat) : Int)) (Option.bind (m41 ((List.getD y1.1 (Int.toNat x2.2) ((0 : Int), ((0 : Int), (0 : Int)))), (x.2.1, (x.2.2.1, ())))) fun (y3 : ((Int × (Int × Int)) × (Bool × Unit))) =>
            bif y3.2.1 then
              (gd ((((List.length x2.1) + (List.length (y3.1 :: ([] : List (Int × (Int × Int)))))) * 24) ≤ 140737488355328) (gd (((List.length x2.1) + (List.length (y3.1 :: ([] : List (Int × (Int × Int)))))) ≤ 140737488355328) (some (Sum.inl ((x2.1 ++ (y3.1 :: ([] : List (Int × (Int × Int))))), (Go.IntKind.wrap .i64 (x2.2 + (1 : Int))))))))
            else
              (some (Sum.inl (x2.1, (Go.IntKind.wrap .i64 (x2.2 + (1 : Int)))))))))
      else
        (some (Sum.inr x2.1))) (([] : List (Int × (Int × Int))), (0 : Int))) fun (y2 : (List (Int × (Int × Int)))) =>
  some (y2, ())

noncomputable def r33 : PDen [(false, (.sl (.pair (.int .i64) (.pair (.int .i64) (.int .i64))))), (false, (.int .i64)), (false, (.int .i64))] → Option (PDen [(false, (.sl (.pair (.int .i64) (.pair (.int .i64) (.int .i64)))))]) := fun x => afun Try.prog (envOf [(37, ⟨[(false, (.sl (.pair (.int .i64) (.pair (.int .i64) (.int .i64)))))], [(false, (.sl (.pair (.int .i64) (.pair (.int .i64) (.int .i64)))))], true, m37⟩), (41, ⟨[(true, (.pair (.int .i64) (.pair (.int .i64) (.int .i64)))), (false, (.int .i64)), (false, (.int .i64))], [(true, (.pair (.int .i64) (.pair (.int .i64) (.int .i64)))), (false, .bool)], false, m41⟩)] [] [] []) ⟨[(0, ⟨[.slot 7 (.v 24 (.pair (.int .i64) (.pair (.int .i64) (.int .i64))) true), .slot 8 (.d false (.int .i64) true)], [], [(some 0, [.slot 7 (.v 24 (.pair (.int .i64) (.pair (.int .i64) (.int .i64))) true)])], none⟩)], []⟩ Try.f33 [(false, (.sl (.pair (.int .i64) (.pair (.int .i64) (.int .i64))))), (false, (.int .i64)), (false, (.int .i64))] [(false, (.sl (.pair (.int .i64) (.pair (.int .i64) (.int .i64)))))] false x
theorem r33_eq : r33 = m33 := by kernel_rfl

theorem c33 : CS.Sound Try.prog 33 ⟨[(false, (.sl (.pair (.int .i64) (.pair (.int .i64) (.int .i64))))), (false, (.int .i64)), (false, (.int .i64))], [(false, (.sl (.pair (.int .i64) (.pair (.int .i64) (.int .i64)))))], false, m33⟩ := afun_sound' (envOf_sound (CSs.cons c37 (CSs.cons c41 (CSs.nil))) (HDs.nil) (IDs.nil)) rfl Try.follows (f := 33) (fn := Try.f33) Try.func33 (by kernel_rfl) (by kernel_rfl) r33_eq
end Go.Proofs.Ytlkgkmalfdlbfaa
end

section
/- Runs, holes, where a block stands: both readings, with no program in sight. -/
namespace Go.Proofs.Ytlkgkmalfdlbfaa
open Go Go.Proofs.AM

/-- A list, or, if it may not be, nothing. -/
def mayL (l : List Ex) : List Ex := if chk l then l else []
theorem mayL_chk (l : List Ex) : chk (mayL l) := by
  unfold mayL
  split
  · assumption
  · intro i hi; simp at hi
theorem mayL_len (l : List Ex) : (mayL l).length ≤ l.length := by unfold mayL; split <;> simp
theorem chk_nil : chk [] := fun i hi => by simp at hi

theorem m37_eq (l : List Ex) (hl : l.length ≤ 1000000) : m37 (l, ()) = some (mayL l, ()) := by
  unfold m37 mayL
  dsimp only
  rw [m10_eq l hl]
  by_cases h : chk l
  · simp [if_pos h]
  · simp [if_neg h]

/-! ### runs -/
theorem copy_ok (p : List Ex) (hp : p.length ≤ 1000000) : loopM (X := (Int × (List (Int × (Int × Int))))) (E := (List (Int × (Int × Int)))) (fun (x4 : (Int × (List (Int × (Int × Int))))) =>
        bif (decide (x4.1 < (((List.length p) : Nat) : Int))) then
          (gd ((0 : Int) ≤ x4.1) (gd (x4.1 < (((List.length p) : Nat) : Int)) (gd ((((List.length x4.2) + (List.length ((List.getD p (Int.toNat x4.1) ((0 : Int), ((0 : Int), (0 : Int)))) :: ([] : List (Int × (Int × Int)))))) * 24) ≤ 140737488355328) (gd (((List.length x4.2) + (List.length ((List.getD p (Int.toNat x4.1) ((0 : Int), ((0 : Int), (0 : Int)))) :: ([] : List (Int × (Int × Int)))))) ≤ 140737488355328) (some (Sum.inl ((Go.IntKind.wrap .i64 (x4.1 + (1 : Int))), (x4.2 ++ ((List.getD p (Int.toNat x4.1) ((0 : Int), ((0 : Int), (0 : Int)))) :: ([] : List (Int × (Int × Int))))))))))))
        else
          (some (Sum.inr x4.2))) ((0 : Int), ([] : List (Int × (Int × Int)))) = some p := by
  rw [loop_idx' p.length (fun i => ((i : Int), p.take i)) ?_ ?_ (e := p) ?_]
  · rfl
  · intro i hi
    simp only [Bool.cond_eq_ite, decide_eq_true_eq, Int.toNat_natCast]
    have hlen : (p.take i).length ≤ 1000000 := by rw [List.length_take]; omega
    rw [if_pos (by omega), gd_pos (by omega), gd_pos (by omega), gd_pos (by simp only [List.length_cons, List.length_nil]; omega), gd_pos (by simp only [List.length_cons, List.length_nil]; omega), wrap64 (by omega) (by omega), take_snoc p i hi ((0 : Int), ((0 : Int), (0 : Int)))]
    rfl
  · simp [Bool.cond_eq_ite]

theorem m24_eq (l : List Ex) (f t : Int) (hl : l.length ≤ 400000) : m24 (l, (f, (t, ()))) = some ((mayL l).filterMap (part f t), ()) := by
  have key : ∀ q : List Ex, q.length ≤ 400000 → (∀ e ∈ q, one e = true) → (Option.bind (m17 (q, ())) fun (y2 : (List (Int × (Int × Int)))) =>
    Option.bind (m40 (y2, (f, (t, ())))) fun (y3 : ((List (Int × (Int × Int))) × Unit)) =>
    Option.bind (loopM (X := (Int × (List (Int × (Int × Int))))) (E := (List (Int × (Int × Int)))) (fun (x4 : (Int × (List (Int × (Int × Int))))) =>
        bif (decide (x4.1 < (((List.length y3.1) : Nat) : Int))) then
          (gd ((0 : Int) ≤ x4.1) (gd (x4.1 < (((List.length y3.1) : Nat) : Int)) (gd ((((List.length x4.2) + (List.length ((List.getD y3.1 (Int.toNat x4.1) ((0 : Int), ((0 : Int), (0 : Int)))) :: ([] : List (Int × (Int × Int)))))) * 24) ≤ 140737488355328) (gd (((List.length x4.2) + (List.length ((List.getD y3.1 (Int.toNat x4.1) ((0 : Int), ((0 : Int), (0 : Int)))) :: ([] : List (Int × (Int × Int)))))) ≤ 140737488355328) (some (Sum.inl ((Go.IntKind.wrap .i64 (x4.1 + (1 : Int))), (x4.2 ++ ((List.getD y3.1 (Int.toNat x4.1) ((0 : Int), ((0 : Int), (0 : Int)))) :: ([] : List (Int × (Int × Int))))))))))))
        else
          (some (Sum.inr x4.2))) ((0 : Int), ([] : List (Int × (Int × Int))))) fun (y4 : (List (Int × (Int × Int)))) =>
    some (y4, ())) = some (q.filterMap (part f t), ()) := by
    intro q hq ho
    have := fm_len (part f t) q
    rw [m17_eq q (by omega)]
    simp only [Option.bind_some]
    rw [m40_eq q f t ho (by omega)]
    simp only [Option.bind_some]
    rw [copy_ok _ (by omega)]
    rfl
  unfold m24 mayL
  dsimp only
  rw [m29_eq l (by omega)]
  by_cases h : chk l
  · simp only [if_pos h, Option.bind_some, decide_true, Bool.not_true, cond_false]
    exact key l hl (chk_one h)
  · simp only [if_neg h, Option.bind_some]
    exact key [] (by simp) (by simp)

theorem m33_eq (l : List Ex) (f t : Int) (hl : l.length ≤ 400000) : m33 (l, (f, (t, ()))) = some ((mayL l).filterMap (part f t), ()) := by
  have ho := chk_one (mayL_chk l)
  have hml := mayL_len l
  unfold m33
  dsimp only
  rw [m37_eq l (by omega)]
  simp only [Option.bind_some]
  generalize mayL l = q at ho hml ⊢
  rw [loop_idx' q.length (fun i => ((q.take i).filterMap (part f t), (i : Int))) ?_ ?_ (e := q.filterMap (part f t)) ?_]
  · rfl
  · rfl
  · intro i hi
    have hlen := fm_len (part f t) (q.take i)
    rw [List.length_take] at hlen
    simp only [Bool.cond_eq_ite, decide_eq_true_eq]
    rw [if_pos (by omega), gd_pos (by omega), gd_pos (by omega)]
    simp only [Int.toNat_natCast]
    rw [m41_eq (ho _ (getD_mem hi _)), wrap64 (n := (i : Int) + 1) (by omega) (by omega), take_snoc q i hi ((0 : Int), ((0 : Int), (0 : Int))), List.filterMap_append]
    have hpt := partT_eq f t (q.getD i ((0 : Int), ((0 : Int), (0 : Int))))
    generalize q.getD i ((0 : Int), ((0 : Int), (0 : Int))) = e at hpt ⊢
    rcases hpt with ⟨x, h1, h2⟩ | ⟨h1, h2⟩
    · rw [h2]
      simp only [Option.bind_some, if_true]
      rw [gd_pos (by simp; omega), gd_pos (by simp; omega)]
      simp [h1]
    · rw [h2]
      simp [h1]
  · simp only [List.take_length, Bool.cond_eq_ite, decide_eq_true_eq]
    rw [if_neg (by omega)]

/-! ### holes -/
def hstep (s : List (Int × Int) × Int) (e : Ex) : List (Int × Int) × Int := (if e.1 > s.2 then s.1 ++ [(s.2, e.1 - s.2)] else s.1, e.1 + e.2.1)
def hF (r : List Ex) (f : Int) : List (Int × Int) × Int := r.foldl hstep ([], f)
def holesR (r : List Ex) (f t : Int) : List (Int × Int) := if (hF r f).2 < t then (hF r f).1 ++ [((hF r f).2, t - (hF r f).2)] else (hF r f).1
def mx (f : Int) : Int := if (0 : Int) > f then (0 : Int) else f
def mn (t : Int) : Int := if (65536 : Int) < t then (65536 : Int) else t
def holes (l : List Ex) (f t : Int) : List (Int × Int) := holesR ((mayL l).filterMap (part (mx f) (mn t))) (mx f) (mn t)

theorem hF_snoc (r : List Ex) (f : Int) {i : Nat} (hi : i < r.length) : hF (r.take (i + 1)) f = hstep (hF (r.take i) f) (r.getD i ((0 : Int), ((0 : Int), (0 : Int)))) := by
  unfold hF; rw [take_snoc r i hi ((0 : Int), ((0 : Int), (0 : Int))), List.foldl_append]; rfl

theorem hF_len : ∀ (r : List Ex) (s : List (Int × Int) × Int), (r.foldl hstep s).1.length ≤ s.1.length + r.length
  | [], s => by simp
  | e :: r, s => by
    have := hF_len r (hstep s e)
    have h2 : (hstep s e).1.length ≤ s.1.length + 1 := by unfold hstep; dsimp only; split <;> simp
    simp only [List.foldl_cons, List.length_cons]; omega

theorem hF_nn : ∀ (r : List Ex) (s : List (Int × Int) × Int), (∀ e ∈ r, one e = true) → 0 ≤ s.2 → 0 ≤ (r.foldl hstep s).2
  | [], s, _, h => h
  | e :: r, s, ho, h => by
    refine hF_nn r (hstep s e) (fun x hx => ho x (by simp [hx])) ?_
    have := ho e (by simp)
    rw [one_iff] at this
    simp only [hstep]; omega

/-- What the loop over the runs does, and what stands behind it. -/
theorem m25_tail (q : List Ex) (f t : Int) (hq : q.length ≤ 400000) (ho : ∀ e ∈ q, one e = true) (hf : 0 ≤ f) (ht : t ≤ 65536) :
    (Option.bind (m40 (q, (f, (t, ())))) fun (y5 : ((List (Int × (Int × Int))) × Unit)) =>
      Option.bind (loopM (X := (Int × ((List (Int × Int)) × Int))) (E := ((List (Int × Int)) × Int)) (fun (x6 : (Int × ((List (Int × Int)) × Int))) =>
          bif (decide (x6.1 < (((List.length y5.1) : Nat) : Int))) then
            (gd ((0 : Int) ≤ x6.1) (gd (x6.1 < (((List.length y5.1) : Nat) : Int)) (bif (decide ((List.getD y5.1 (Int.toNat x6.1) ((0 : Int), ((0 : Int), (0 : Int)))).1 > x6.2.2)) then
                  (gd ((((List.length x6.2.1) + (List.length ((x6.2.2, (Go.IntKind.wrap .i64 ((List.getD y5.1 (Int.toNat x6.1) ((0 : Int), ((0 : Int), (0 : Int)))).1 - x6.2.2))) :: ([] : List (Int × Int))))) * 16) ≤ 140737488355328) (gd (((List.length x6.2.1) + (List.length ((x6.2.2, (Go.IntKind.wrap .i64 ((List.getD y5.1 (Int.toNat x6.1) ((0 : Int), ((0 : Int), (0 : Int)))).1 - x6.2.2))) :: ([] : List (Int × Int))))) ≤ 140737488355328) (Option.bind (m46 ((List.getD y5.1 (Int.toNat x6.1) ((0 : Int), ((0 : Int), (0 : Int)))), ())) fun (y7 : (Int × Unit)) =>
                      some (Sum.inl ((Go.IntKind.wrap .i64 (x6.1 + (1 : Int))), ((x6.2.1 ++ ((x6.2.2, (Go.IntKind.wrap .i64 ((List.getD y5.1 (Int.toNat x6.1) ((0 : Int), ((0 : Int), (0 : Int)))).1 - x6.2.2))) :: ([] : List (Int × Int)))), y7.1))))))
                else
                  (Option.bind (m46 ((List.getD y5.1 (Int.toNat x6.1) ((0 : Int), ((0 : Int), (0 : Int)))), ())) fun (y7 : (Int × Unit)) =>
                  some (Sum.inl ((Go.IntKind.wrap .i64 (x6.1 + (1 : Int))), (x6.2.1, y7.1)))))))
          else
            (some (Sum.inr (x6.2.1, x6.2.2)))) ((0 : Int), (([] : List (Int × Int)), f))) fun (y6 : ((List (Int × Int)) × Int)) =>
      bif (decide (y6.2 < t)) then
        (gd ((((List.length y6.1) + (List.length ((y6.2, (Go.IntKind.wrap .i64 (t - y6.2))) :: ([] : List (Int × Int))))) * 16) ≤ 140737488355328) (gd (((List.length y6.1) + (List.length ((y6.2, (Go.IntKind.wrap .i64 (t - y6.2))) :: ([] : List (Int × Int))))) ≤ 140737488355328) (some ((y6.1 ++ ((y6.2, (Go.IntKind.wrap .i64 (t - y6.2))) :: ([] : List (Int × Int)))), ()))))
      else
        (some (y6.1, ()))) = some (holesR (q.filterMap (part f t)) f t, ()) := by
  have hrl := fm_len (part f t) q
  have hro := parts_one ho f t
  rw [m40_eq q f t ho (by omega)]
  simp only [Option.bind_some]
  generalize q.filterMap (part f t) = r at hrl hro ⊢
  rw [loop_idx' r.length (fun i => ((i : Int), hF (r.take i) f)) ?_ ?_ (e := hF r f) ?_]
  · simp only [Option.bind_some]
    have h1 := hF_len r ([], f)
    have h2 := hF_nn r ([], f) hro hf
    unfold holesR
    rw [show r.foldl hstep ([], f) = hF r f from rfl] at h1 h2
    generalize hF r f = s at h1 h2 ⊢
    simp only [List.length_nil] at h1
    by_cases hc : s.2 < t
    · rw [if_pos hc, decide_eq_true hc]
      simp only [cond_true]
      rw [gd_pos (by simp only [List.length_cons, List.length_nil]; omega), gd_pos (by simp only [List.length_cons, List.length_nil]; omega), wrap64 (by omega) (by omega)]
    · rw [if_neg hc, decide_eq_false hc]
      rfl
  · rfl
  · intro i hi
    have h1 := hF_len (r.take i) ([], f)
    have h2 := hF_nn (r.take i) ([], f) (fun e he => hro e (List.mem_of_mem_take he)) hf
    rw [hF_snoc r f hi]
    rw [show (r.take i).foldl hstep ([], f) = hF (r.take i) f from rfl] at h1 h2
    generalize hF (r.take i) f = s at h1 h2 ⊢
    simp only [List.length_nil, List.length_take] at h1
    have he := hro _ (getD_mem hi ((0 : Int), ((0 : Int), (0 : Int))))
    simp only [Int.toNat_natCast, Bool.cond_eq_ite, decide_eq_true_eq]
    rw [if_pos (by omega), gd_pos (by omega), gd_pos (by omega)]
    generalize r.getD i ((0 : Int), ((0 : Int), (0 : Int))) = e at he ⊢
    rw [m46_eq he, wrap64 (n := (i : Int) + 1) (by omega) (by omega)]
    rw [one_iff] at he
    unfold hstep
    by_cases hc : e.1 > s.2
    · rw [if_pos hc, if_pos hc, gd_pos (by simp only [List.length_cons, List.length_nil]; omega), gd_pos (by simp only [List.length_cons, List.length_nil]; omega), wrap64 (n := e.1 - s.2) (by omega) (by omega)]
      rfl
    · rw [if_neg hc, if_neg hc]
      rfl
  · simp only [List.take_length, Bool.cond_eq_ite, decide_eq_true_eq]
    rw [if_neg (by omega)]

theorem m25_eq (l : List Ex) (f t : Int) (hl : l.length ≤ 400000) : m25 (l, (f, (t, ()))) = some (holes l f t, ()) := by
  have hf : (if (0 : Int) > f then (0 : Int) else f) = mx f := rfl
  have ht : (if (65536 : Int) < t then (65536 : Int) else t) = mn t := rfl
  have hf0 : 0 ≤ mx f := by unfold mx; split <;> omega
  have ht0 : mn t ≤ 65536 := by unfold mn; split <;> omega
  unfold m25 holes
  dsimp only
  rw [hf, ht, m29_eq l (by omega)]
  by_cases h : chk l
  · simp only [mayL, if_pos h, Option.bind_some, decide_true, Bool.not_true, cond_false]
    rw [m17_eq l (by omega)]
    simp only [Option.bind_some]
    rw [m29_eq l (by omega)]
    simp only [if_pos h, Option.bind_some, decide_true, Bool.not_true, cond_false]
    rw [m17_eq l (by omega)]
    simp only [Option.bind_some]
    exact m25_tail l _ _ hl (chk_one h) hf0 ht0
  · simp only [mayL, if_neg h, Option.bind_some]
    rw [show (decide ((130 : Int) = 0)) = false from rfl]
    simp only [Bool.not_false, cond_true]
    rw [m17_eq [] (by simp)]
    simp only [Option.bind_some]
    rw [m29_eq [] (by simp)]
    simp only [if_pos chk_nil, Option.bind_some, decide_true, Bool.not_true, cond_false]
    rw [m17_eq [] (by simp)]
    simp only [Option.bind_some]
    exact m25_tail [] _ _ (by simp) (by simp) hf0 ht0

/-! ### where a block stands -/
def atL (q : List Ex) (b : Int) : Int × (Int × (Bool × Unit)) := match q.find? (fun e => decide (b < e.1 + e.2.1)) with
  | none => (0, (65536 - b, (false, ())))
  | some e => if b < e.1 then (0, (e.1 - b, (false, ()))) else (e.2.2 + b - e.1, (e.1 + e.2.1 - b, (true, ())))
def at_ (l : List Ex) (b : Int) : Int × (Int × (Bool × Unit)) := if b < 0 ∨ b ≥ 65536 then (0, (0, (false, ()))) else atL (mayL l) b

def atE (q : List Ex) (b : Int) : Unit ⊕ (Int × (Int × Bool)) := match q.find? (fun e => decide (b < e.1 + e.2.1)) with
  | none => .inl ()
  | some e => if b < e.1 then .inr (0, (e.1 - b, false)) else .inr (e.2.2 + b - e.1, (e.1 + e.2.1 - b, true))

theorem atE_L (q : List Ex) (b : Int) : Sum.elim (fun _ => ((0 : Int), (65536 - b, (false, ())))) (fun y : Int × (Int × Bool) => (y.1, (y.2.1, (y.2.2, ())))) (atE q b) = atL q b := by
  unfold atE atL
  cases q.find? (fun e => decide (b < e.1 + e.2.1)) with
  | none => rfl
  | some e => dsimp only; split <;> rfl

theorem find_skip {q : List Ex} {i : Nat} (hi : i < q.length) {p : Ex → Bool} (h : ∀ j, j < i → p (q.getD j ((0 : Int), ((0 : Int), (0 : Int)))) = false) (hp : p (q.getD i ((0 : Int), ((0 : Int), (0 : Int)))) = true) : q.find? p = some (q.getD i ((0 : Int), ((0 : Int), (0 : Int)))) := by
  rw [List.find?_eq_some_iff_getElem]
  refine ⟨hp, i, hi, (getD_eq hi ((0 : Int), ((0 : Int), (0 : Int)))).symm, fun j hj => ?_⟩
  rw [← getD_eq (by omega) ((0 : Int), ((0 : Int), (0 : Int))), h j hj]; rfl

theorem find_no {q : List Ex} {p : Ex → Bool} (h : ∀ j, j < q.length → p (q.getD j ((0 : Int), ((0 : Int), (0 : Int)))) = false) : q.find? p = none := by
  rw [List.find?_eq_none]
  intro e he
  obtain ⟨j, hj, rfl⟩ := List.mem_iff_getElem.1 he
  have := h j hj
  rw [getD_eq hj ((0 : Int), ((0 : Int), (0 : Int)))] at this
  rw [this]; simp

theorem m26_eq (l : List Ex) (b : Int) (hl : l.length ≤ 400000) : m26 (l, (b, ())) = some (at_ l b) := by
  unfold m26 at_
  dsimp only
  by_cases h0 : b < 0
  · simp [h0]
  · by_cases h1 : b ≥ 65536
    · simp [h0, h1]
    · rw [decide_eq_false h0, decide_eq_false h1, if_neg (by omega)]
      simp only [cond_false]
      rw [m29_eq l (by omega)]
      by_cases h : chk l
      · have ho := chk_one h
        simp only [mayL, if_pos h, Option.bind_some, decide_true, Bool.not_true, cond_false]
        have hk : Ok (loopM (X := Int) (E := (Unit ⊕ (Int × (Int × Bool)))) (fun (x2 : Int) =>
            bif (decide (x2 < (((List.length l) : Nat) : Int))) then
              (gd ((0 : Int) ≤ x2) (gd (x2 < (((List.length l) : Nat) : Int)) (bif (decide (b < (List.getD l (Int.toNat x2) ((0 : Int), ((0 : Int), (0 : Int)))).1)) then
                    (some (Sum.inr (Sum.inr ((0 : Int), ((Go.IntKind.wrap .i64 ((List.getD l (Int.toNat x2) ((0 : Int), ((0 : Int), (0 : Int)))).1 - b)), false)))))
                  else
                    (Option.bind (m46 ((List.getD l (Int.toNat x2) ((0 : Int), ((0 : Int), (0 : Int)))), ())) fun (y3 : (Int × Unit)) =>
                    bif (decide (b < y3.1)) then
                      (Option.bind (m46 ((List.getD l (Int.toNat x2) ((0 : Int), ((0 : Int), (0 : Int)))), ())) fun (y4 : (Int × Unit)) =>
                      some (Sum.inr (Sum.inr ((Go.IntKind.wrap .i64 ((Go.IntKind.wrap .i64 ((List.getD l (Int.toNat x2) ((0 : Int), ((0 : Int), (0 : Int)))).2.2 + b)) - (List.getD l (Int.toNat x2) ((0 : Int), ((0 : Int), (0 : Int)))).1)), ((Go.IntKind.wrap .i64 (y4.1 - b)), true)))))
                    else
                      (some (Sum.inl (Go.IntKind.wrap .i64 (x2 + (1 : Int)))))))))
            else
              (some (Sum.inr (Sum.inl ())))) (0 : Int)) (fun r => r = atE l b) := by
          refine Ok.loop l.length (fun i x => x = i ∧ ∀ j, j < i → decide (b < (l.getD j ((0 : Int), ((0 : Int), (0 : Int)))).1 + (l.getD j ((0 : Int), ((0 : Int), (0 : Int)))).2.1) = false) ⟨rfl, fun j hj => by omega⟩ ?_
          rintro i x hi ⟨rfl, hq⟩
          refine Ok.cond (fun hc => ?_) (fun hc => ?_)
          · have hil : i < l.length := by omega
            have he := ho _ (getD_mem hil ((0 : Int), ((0 : Int), (0 : Int))))
            have h2 := he
            rw [one_iff] at h2
            refine Ok.gd (by omega) (Ok.gd (by omega) ?_)
            simp only [Int.toNat_natCast]
            refine Ok.cond (fun h3 => ?_) (fun h3 => ?_)
            · refine Ok.inr ?_
              unfold atE
              rw [find_skip hil (p := fun e => decide (b < e.1 + e.2.1)) hq (decide_eq_true (by omega))]
              simp only [if_pos h3]
              rw [wrap64 (by omega) (by omega)]
            · rw [m46_eq he]
              simp only [Option.bind_some]
              refine Ok.cond (fun h4 => ?_) (fun h4 => ?_)
              · refine Ok.inr ?_
                unfold atE
                rw [find_skip hil (p := fun e => decide (b < e.1 + e.2.1)) hq (decide_eq_true (by omega))]
                simp only [if_neg h3]
                rw [wrap64 (n := (l.getD i ((0 : Int), ((0 : Int), (0 : Int)))).2.2 + b) (by omega) (by omega), wrap64 (by omega) (by omega), wrap64 (by omega) (by omega)]
              · refine Ok.inl ⟨hil, by rw [wrap64 (by omega) (by omega)]; rfl, fun j hj => ?_⟩
                by_cases e : j = i
                · subst e; exact decide_eq_false h4
                · exact hq j (by omega)
          · refine Ok.inr ?_
            unfold atE
            rw [find_no (p := fun e => decide (b < e.1 + e.2.1)) (fun j hj => hq j (by omega))]
        obtain ⟨r, e1, rfl⟩ := hk
        rw [e1]
        simp only [Option.bind_some]
        rw [← atE_L, wrap64 (n := 65536 - b) (by omega) (by omega)]
        cases atE l b <;> rfl
      · simp only [mayL, if_neg h, Option.bind_some]
        rw [show (decide ((130 : Int) = 0)) = false from rfl]
        simp only [Bool.not_false, cond_true]
        rw [loopM_eq]
        simp only [Int.lt_irrefl, decide_false, cond_false, Option.bind_some, Sum.elim_inl]
        rw [wrap64 (n := 65536 - b) (by omega) (by omega)]
        rfl

/-! ### how many blocks -/
def sums (q : List Ex) : Int := (q.map fun e => e.2.1).sum

theorem sums_take {q : List Ex} {i : Nat} (hi : i < q.length) : sums (q.take (i + 1)) = sums (q.take i) + (q.getD i ((0 : Int), ((0 : Int), (0 : Int)))).2.1 := by
  unfold sums; rw [take_snoc q i hi ((0 : Int), ((0 : Int), (0 : Int))), List.map_append, List.sum_append]; simp

theorem sums_bound {q : List Ex} (ho : ∀ e ∈ q, one e = true) (i : Nat) : 0 ≤ sums (q.take i) ∧ sums (q.take i) ≤ 4096 * i := by
  induction i with
  | zero => simp [sums]
  | succ i ih =>
    by_cases hi : i < q.length
    · have he := ho _ (getD_mem hi ((0 : Int), ((0 : Int), (0 : Int))))
      rw [one_iff] at he
      rw [sums_take hi]; omega
    · have e1 : q.take (i + 1) = q := List.take_of_length_le (by omega)
      have e2 : q.take i = q := List.take_of_length_le (by omega)
      rw [e2] at ih
      rw [e1]; omega

theorem sum_ok (q : List Ex) (hq : q.length ≤ 400000) (ho : ∀ e ∈ q, one e = true) : loopM (X := (Int × Int)) (E := Int) (fun (x2 : (Int × Int)) =>
        bif (decide (x2.2 < (((List.length q) : Nat) : Int))) then
          (gd ((0 : Int) ≤ x2.2) (gd (x2.2 < (((List.length q) : Nat) : Int)) (some (Sum.inl ((Go.IntKind.wrap .i64 (x2.1 + (List.getD q (Int.toNat x2.2) ((0 : Int), ((0 : Int), (0 : Int)))).2.1)), (Go.IntKind.wrap .i64 (x2.2 + (1 : Int))))))))
        else
          (some (Sum.inr x2.1))) ((0 : Int), (0 : Int)) = some (sums q) := by
  rw [loop_idx' q.length (fun i => (sums (q.take i), (i : Int))) ?_ ?_ (e := sums q) ?_]
  · rfl
  · intro i hi
    have h1 := sums_bound ho i
    have h2 := sums_bound ho (i + 1)
    rw [sums_take hi] at h2 ⊢
    simp only [Bool.cond_eq_ite, decide_eq_true_eq, Int.toNat_natCast]
    rw [if_pos (by omega), gd_pos (by omega), gd_pos (by omega), wrap64 (by omega) (by omega), wrap64 (n := (i : Int) + 1) (by omega) (by omega)]
    rfl
  · simp [Bool.cond_eq_ite]

theorem m27_eq (l : List Ex) (hl : l.length ≤ 400000) : m27 (l, ()) = some (sums (mayL l), ()) := by
  unfold m27
  dsimp only
  rw [m29_eq l (by omega)]
  by_cases h : chk l
  · simp only [mayL, if_pos h, Option.bind_some, decide_true, Bool.not_true, cond_false]
    rw [sum_ok l hl (chk_one h)]
    rfl
  · simp only [mayL, if_neg h, Option.bind_some]
    rw [show (decide ((130 : Int) = 0)) = false from rfl]
    simp only [Bool.not_false, cond_true]
    rw [loopM_eq]
    simp only [Int.lt_irrefl, decide_false, cond_false, Option.bind_some]
    rfl
end Go.Proofs.Ytlkgkmalfdlbfaa
end

section
/- Runs and holes together tell each block of a range once, and as many as there are: the plain law of ExtentRanges. -/
namespace Go.Proofs.Ytlkgkmalfdlbfaa
open Go Go.Proofs.AM

def hsum (hs : List (Int × Int)) : Int := (hs.map fun h => h.2).sum

theorem hsum_snoc (hs : List (Int × Int)) (h : Int × Int) : hsum (hs ++ [h]) = hsum hs + h.2 := by simp [hsum]
theorem sums_snoc (q : List Ex) (e : Ex) : sums (q ++ [e]) = sums q + e.2.1 := by simp [sums]

/-- Nothing of a list stands in a hole. -/
def Clear (q : List Ex) (f t : Int) (h : Int × Int) : Prop := f ≤ h.1 ∧ 0 < h.2 ∧ h.1 + h.2 ≤ t ∧ ∀ g ∈ q, g.1 + g.2.1 ≤ h.1 ∨ h.1 + h.2 ≤ g.1

structure Inv (q : List Ex) (f t : Int) (p : List Ex) (s : List (Int × Int) × Int) : Prop where
  lo : f ≤ s.2
  hi : s.2 ≤ t
  from_ : s.2 = f ∨ ∃ g ∈ p, s.2 ≤ g.1 + g.2.1
  past : ∀ g ∈ p, g.1 + g.2.1 ≤ s.2 ∨ t ≤ g.1 ∨ s.2 = t
  sum : hsum s.1 + sums (p.filterMap (part f t)) = s.2 - f
  clear : ∀ h ∈ s.1, Clear q f t h

theorem inv_go {q : List Ex} {f t : Int} (hd : Dj q) (ho : ∀ e ∈ q, one e = true) (hft : f < t) : ∀ (rest p : List Ex) (s : List (Int × Int) × Int), q = p ++ rest → Inv q f t p s → Inv q f t q ((rest.filterMap (part f t)).foldl hstep s)
  | [], p, s, hq, h => by simp only [List.append_nil] at hq; subst hq; exact h
  | g :: rest, p, s, hq, h => by
    have hq' : q = (p ++ [g]) ++ rest := by simp [hq]
    have hg : one g = true := ho g (by simp [hq])
    have hgl := one_len hg
    have hpg : ∀ g' ∈ p, g'.1 + g'.2.1 ≤ g.1 := fun g' hg' => by
      have hd' := hd
      rw [hq] at hd'
      exact (List.pairwise_append.1 hd').2.2 g' hg' g (by simp)
    have hgr : ∀ g' ∈ rest, g.1 + g.2.1 ≤ g'.1 := fun g' hg' => by
      have hd' := hd
      rw [hq] at hd'
      exact (List.pairwise_cons.1 (List.pairwise_append.1 hd').2.1).1 g' hg'
    have hpl : ∀ g' ∈ p, 1 ≤ g'.2.1 := fun g' hg' => one_len (ho g' (by simp [hq, hg']))
    have l1 := lo_ge g f; have l2 := hi_le g t; have l3 := lo_eq g f; have l4 := hi_eq g t
    rw [List.filterMap_cons]
    cases hp : part f t g with
    | none =>
      refine inv_go hd ho hft rest (p ++ [g]) s hq' { h with from_ := ?_, past := ?_, sum := ?_ }
      · rcases h.from_ with e | ⟨g', hg', e⟩
        · exact .inl e
        · exact .inr ⟨g', by simp [hg'], e⟩
      · intro g' hg'
        rcases List.mem_append.1 hg' with hg' | hg'
        · exact h.past g' hg'
        · simp at hg'; subst hg'
          have hno : ¬ lo g' f < hi g' t := fun hc => by unfold part at hp; rw [if_pos hc] at hp; simp at hp
          have := h.lo
          omega
      · rw [List.filterMap_append]; simp only [List.filterMap_cons, hp, List.filterMap_nil, List.append_nil]; exact h.sum
    | some e =>
      obtain ⟨h1, he⟩ := part_some hp
      have hs2 : s.2 ≤ lo g f := by
        rcases h.from_ with e | ⟨g', hg', e⟩
        · omega
        · have := hpg g' hg'; omega
      simp only [List.foldl_cons]
      have e1 : e.1 = lo g f := by rw [he]
      have e2 : e.2.1 = hi g t - lo g f := by rw [he]
      have e3 : (hstep s e).2 = hi g t := by simp only [hstep, e1, e2]; omega
      have h0 := h.lo; have h9 := h.hi
      refine inv_go hd ho hft rest (p ++ [g]) (hstep s e) hq' { lo := by rw [e3]; omega, hi := by rw [e3]; omega, from_ := .inr ⟨g, by simp, by rw [e3]; omega⟩, past := ?_, sum := ?_, clear := ?_ }
      · intro g' hg'
        rw [e3]
        rcases List.mem_append.1 hg' with hg' | hg'
        · rcases h.past g' hg' with a | a | a
          · exact .inl (by omega)
          · exact .inr (.inl a)
          · exfalso; omega
        · simp at hg'; subst hg'; omega
      · rw [List.filterMap_append]
        simp only [List.filterMap_cons, hp, List.filterMap_nil]
        rw [sums_snoc, e3, e2]
        have hsum0 := h.sum
        unfold hstep
        rw [e1]
        by_cases hc : lo g f > s.2
        · rw [if_pos hc, hsum_snoc]; simp only; omega
        · rw [if_neg hc]; simp only; omega
      · intro x hx
        unfold hstep at hx
        rw [e1] at hx
        simp only at hx
        split at hx
        · rename_i hc
          rcases List.mem_append.1 hx with hx | hx
          · exact h.clear x hx
          · simp at hx; subst hx
            refine ⟨h0, by simp only; omega, by simp only; omega, fun g' hg' => ?_⟩
            simp only
            rw [hq] at hg'
            rcases List.mem_append.1 hg' with hg' | hg'
            · have a1 := hpg g' hg'
              have a2 := hpl g' hg'
              rcases h.past g' hg' with a | a | a
              · exact .inl a
              · exfalso; omega
              · exfalso; omega
            · rcases List.mem_cons.1 hg' with rfl | hg'
              · exact .inr (by omega)
              · have := hgr g' hg'; exact .inr (by omega)
        · exact h.clear x hx

theorem holes_ok {q : List Ex} {f t : Int} (hd : Dj q) (ho : ∀ e ∈ q, one e = true) : hsum (holesR (q.filterMap (part f t)) f t) + sums (q.filterMap (part f t)) = (if t - f > 0 then t - f else 0) ∧ ∀ h ∈ holesR (q.filterMap (part f t)) f t, Clear q f t h := by
  by_cases hft : f < t
  · have h := inv_go hd ho hft q [] ([], f) rfl ⟨Int.le_refl _, by simp only; omega, .inl rfl, by simp, by simp [hsum, sums], by simp⟩
    rw [show (q.filterMap (part f t)).foldl hstep ([], f) = hF (q.filterMap (part f t)) f from rfl] at h
    unfold holesR
    generalize hF (q.filterMap (part f t)) f = s at h ⊢
    have h1 := h.sum; have h2 := h.lo; have h3 := h.hi
    rw [if_pos (show t - f > 0 by omega)]
    by_cases hc : s.2 < t
    · rw [if_pos hc, hsum_snoc]
      refine ⟨by simp only; omega, fun x hx => ?_⟩
      rcases List.mem_append.1 hx with hx | hx
      · exact h.clear x hx
      · simp at hx; subst hx
        refine ⟨h2, by simp only; omega, by simp only; omega, fun g hg => ?_⟩
        simp only
        rcases h.past g hg with a | a | a
        · exact .inl a
        · exact .inr (by omega)
        · exfalso; omega
    · rw [if_neg hc]
      exact ⟨by omega, h.clear⟩
  · have hnil : q.filterMap (part f t) = [] := by
      rw [List.filterMap_eq_nil_iff]
      intro e _
      cases hp : part f t e with
      | none => rfl
      | some x => have := part_in hp; omega
    rw [hnil]
    unfold holesR hF
    rw [if_neg (show ¬ t - f > 0 by omega), if_neg (show ¬ (List.foldl hstep ([], f) []).2 < t by simp only [List.foldl_nil]; omega)]
    exact ⟨by simp [hsum, sums], by simp⟩

theorem at_hole {q : List Ex} {f t : Int} {h : Int × Int} (hc : Clear q f t h) (ht : t ≤ 65536) : (atL q h.1).2.2.1 = false ∧ h.2 ≤ (atL q h.1).2.1 := by
  obtain ⟨c1, c2, c3, c4⟩ := hc
  unfold atL
  cases hf : q.find? (fun e => decide (h.1 < e.1 + e.2.1)) with
  | none => exact ⟨rfl, by simp only; omega⟩
  | some e =>
    have hm := List.mem_of_find?_eq_some hf
    have hp := List.find?_some hf
    simp only [decide_eq_true_eq] at hp
    have := c4 e hm
    simp only
    rw [if_pos (by omega)]
    exact ⟨rfl, by simp only; omega⟩

theorem parts_all {l : List Ex} (ho : ∀ e ∈ l, one e = true) : l.filterMap (part 0 65536) = l := by
  induction l with
  | nil => rfl
  | cons e l ih =>
    have he := ho e (by simp)
    have h1 := he
    rw [one_iff] at h1
    have hp : part 0 65536 e = some e := by
      obtain ⟨a, b, c⟩ := e
      simp only at h1
      have e1 : lo (a, (b, c)) 0 = a := by have := lo_eq (a, (b, c)) 0; have := lo_ge (a, (b, c)) 0; simp only at *; omega
      have e2 : hi (a, (b, c)) 65536 = a + b := by have := hi_eq (a, (b, c)) 65536; have := hi_le (a, (b, c)) 65536; simp only at *; omega
      unfold part
      rw [e1, e2, if_pos (by omega)]
      simp only [Option.some.injEq, Prod.mk.injEq, true_and]
      exact ⟨by omega, by omega⟩
    rw [List.filterMap_cons, hp, ih (fun x hx => ho x (by simp [hx]))]

theorem part_len {q : List Ex} (hd : Dj q) (ho : ∀ e ∈ q, one e = true) (f t : Int) : sums (q.filterMap (part f t)) ≤ 4096 * q.length ∧ 0 ≤ sums (q.filterMap (part f t)) := by
  have := sums_bound (parts_one ho f t) (q.filterMap (part f t)).length
  rw [List.take_length] at this
  have := fm_len (part f t) q
  omega

theorem m6_ok (l : List Ex) (f n : Int) (hf : 0 ≤ f ∧ f ≤ 65535) (hn : 0 ≤ n ∧ n ≤ 65535) : Ok (m6 (l, (f, (n, ())))) (fun r => r = (true, ())) := by
  unfold m6
  dsimp only
  rw [m8_eq]
  simp only [Option.bind_some, Bool.not_true, cond_false]
  rw [m9_eq]
  simp only [Option.bind_some]
  by_cases hl : l.length ≤ 200
  rotate_left
  · simp only [hl, decide_false, Bool.not_false, cond_true]; exact Ok.some rfl
  simp only [hl, decide_true, Bool.not_true, cond_false]
  rw [m10_eq l (by omega)]
  simp only [Option.bind_some]
  by_cases hc : chk l
  rotate_left
  · simp only [if_neg hc]; exact Ok.some rfl
  simp only [if_pos hc, decide_true, Bool.not_true, cond_false]
  have ho := chk_one hc
  have hd := chk_dj hc
  have hml : mayL l = l := by unfold mayL; rw [if_pos hc]
  simp only [wrap64 (n := f) (by omega) (by omega), wrap64 (n := n) (by omega) (by omega), wrap64 (n := f + n) (by omega) (by omega)]
  obtain ⟨b, hb⟩ : ∃ b, (if (65536 : Int) < f + n then (65536 : Int) else f + n) = b := ⟨_, rfl⟩
  have hb1 : b ≤ 65536 ∧ 0 ≤ b := by rw [← hb]; split <;> omega
  simp only [hb]
  have r1 := fm_len (part f b) l
  have hmx : mx f = f := by unfold mx; split <;> omega
  have hmn : mn b = b := by unfold mn; split <;> omega
  have hh : holes l f b = holesR (l.filterMap (part f b)) f b := by unfold holes; rw [hml, hmx, hmn]
  obtain ⟨hs1, hs2⟩ := holes_ok (f := f) (t := b) hd ho
  have hlen : (holesR (l.filterMap (part f b)) f b).length ≤ 201 := by
    have h1 := hF_len (l.filterMap (part f b)) ([], f)
    unfold holesR hF
    simp only [List.length_nil] at h1
    split
    · simp only [List.length_append, List.length_singleton]; omega
    · omega
  have sp := part_len hd ho f b
  rw [m24_eq l f b (by omega), hml]
  simp only [Option.bind_some]
  rw [sum_ok _ (by omega) (parts_one ho f b)]
  simp only [Option.bind_some]
  rw [m25_eq l f b (by omega), hh]
  simp only [Option.bind_some]
  generalize hH : holesR (l.filterMap (part f b)) f b = H at hs1 hs2 hlen ⊢
  have hpos : ∀ i, 0 ≤ hsum (H.take i) ∧ hsum (H.take i) ≤ 65536 * i := by
    intro i
    induction i with
    | zero => simp [hsum]
    | succ i ih =>
      by_cases hi : i < H.length
      · have hc := hs2 _ (getD_mem hi ((0 : Int), (0 : Int)))
        unfold Clear at hc
        rw [take_snoc H i hi ((0 : Int), (0 : Int)), hsum_snoc]
        omega
      · have e1 : H.take (i + 1) = H := List.take_of_length_le (by omega)
        have e2 : H.take i = H := List.take_of_length_le (by omega)
        rw [e2] at ih
        rw [e1]; omega
  refine Ok.bind (S := fun r => r = .inl (sums (l.filterMap (part f b)) + hsum H)) (Ok.loop H.length (fun i x => x.2 = i ∧ x.1 = sums (l.filterMap (part f b)) + hsum (H.take i)) ⟨rfl, by simp [hsum]⟩ ?_) ?_
  · rintro i ⟨s, j⟩ hi ⟨rfl, hs⟩
    dsimp only at hs ⊢
    refine Ok.cond (fun hc => ?_) (fun hc => ?_)
    · have hil : i < H.length := by omega
      refine Ok.gd (by omega) (Ok.gd (by omega) ?_)
      simp only [Int.toNat_natCast]
      have hcl := hs2 _ (getD_mem hil ((0 : Int), (0 : Int)))
      have hp0 := hpos i
      have hts := take_snoc H i hil ((0 : Int), (0 : Int))
      obtain ⟨h, hx⟩ : ∃ h, H.getD i ((0 : Int), (0 : Int)) = h := ⟨_, rfl⟩
      rw [hx] at hcl hts
      simp only [hx]
      have hcl2 := hcl
      unfold Clear at hcl2
      rw [m26_eq l _ (by omega)]
      simp only [Option.bind_some]
      obtain ⟨q1, q2⟩ := at_hole hcl hb1.1
      have hat : at_ l h.1 = atL l h.1 := by unfold at_; rw [if_neg (by omega), hml]
      rw [hat, q1]
      simp only [cond_false]
      refine Ok.cond (fun h5 => by exfalso; omega) (fun _ => ?_)
      have hp1 := hpos (i + 1)
      rw [hts, hsum_snoc] at hp1
      rw [wrap64 (n := s + h.2) (by omega) (by omega), wrap64 (n := (i : Int) + 1) (by omega) (by omega)]
      refine Ok.inl ⟨hil, rfl, ?_⟩
      rw [hts, hsum_snoc]
      show s + h.2 = _
      omega
    · have : i = H.length := by omega
      refine Ok.inr ?_
      rw [this, List.take_length] at hs
      rw [hs]
  · rintro r rfl
    simp only [Sum.elim_inl]
    rw [m24_eq l 0 65536 (by omega), hml, parts_all ho]
    simp only [Option.bind_some]
    rw [sum_ok l (by omega) ho]
    simp only [Option.bind_some]
    simp only [wrap64 (n := b - f) (by omega) (by omega)]
    rw [decide_eq_true (by omega)]
    simp only [cond_true]
    rw [m27_eq l (by omega), hml]
    exact Ok.some (by simp)

theorem ExtentRanges_pure : ∀ x : AM.PDen [(false, (.sl (.pair (.int .i64) (.pair (.int .i64) (.int .i64))))), (false, (.int .u16)), (false, (.int .u16))], AM.PWf _ x → m6 x = some (true, ()) := by
  rintro ⟨l, f, n, ⟨⟩⟩ hw
  have bd : ∀ t : Int, (Lit.int .u16 t).wf = true → 0 ≤ t ∧ t ≤ 65535 := by
    intro t h
    simp only [Lit.wf, IntKind.min, IntKind.max, IntKind.signed, IntKind.bits, Bool.and_eq_true, decide_eq_true_eq, if_true, Bool.false_eq_true, if_false] at h
    exact ⟨by have := h.1; simpa using this, by have := h.2; simpa using this⟩
  obtain ⟨r, e1, rfl⟩ := m6_ok l f n (bd f hw.2.1) (bd n hw.2.2.1)
  exact e1
end Go.Proofs.Ytlkgkmalfdlbfaa
end
